/-
  A list of linked cells and its map together: what it is, what it stands on, and what keeps it. Conditions: as each theorem says.
-/
import Derived.Test.YtnmmeccbpcichaaRecP
namespace Go.Proofs.Ytnmmeccbpcichaa
open Go.RowKit Go.Maps

section
variable {P : Program} {κ : Kit P}

theorem ownsMap_tight {w : World} {k : TypeId} {R : Value → Option (DataW Unit × List MemPlace)} {b n : Nat} {D : DataW Unit} (h : w.ownsMap P k R b n D) : w.ownsMap P k R b (Maps.size D) D := by
  obtain ⟨es, clock, h1, h2, h3, h4⟩ := h
  refine ⟨es, clock, h1, h2, ?_, h4⟩
  rw [h4, size_eq, length_read]
  exact Nat.le_refl _
theorem ownsMap_same {w w' : World} {k : TypeId} {R : Value → Option (DataW Unit × List MemPlace)} {b n : Nat} {D : DataW Unit} (h : w.ownsMap P k R b n D) (e : w'.heap[b]? = w.heap[b]?) : w'.ownsMap P k R b n D := by
  obtain ⟨es, clock, h1, h2, h3, h4⟩ := h
  exact ⟨es, clock, e.trans h1, h2, h3, h4⟩
theorem ownsMap_lt {w : World} {k : TypeId} {R : Value → Option (DataW Unit × List MemPlace)} {b n : Nat} {D : DataW Unit} (h : w.ownsMap P k R b n D) : b < w.heap.size := by
  obtain ⟨es, clock, h1, _⟩ := h
  exact lt_of_block h1
theorem ownsMap_ne {w : World} {k : TypeId} {R : Value → Option (DataW Unit × List MemPlace)} {b n : Nat} {D : DataW Unit} (h : w.ownsMap P k R b n D) {g : Nat} {cs : Array Value} {t : TypeId} {fr : Nat × Nat} (hg : w.heap[g]? = some (.cells cs t fr)) : b ≠ g := by
  rintro rfl
  obtain ⟨es, clock, h1, _⟩ := h
  rw [h1] at hg
  cases hg

theorem Shape.keep {w w' : World} {p m : Nat} {most : Int} {ns : List (κ.α × Nat)} (h : Shape κ w p m most ns) (hp : w'.heap[p]? = w.heap[p]?) (hn : ∀ i ∈ blks ns, w'.heap[i]? = w.heap[i]?) : Shape κ w' p m most ns :=
  ⟨hp.trans h.head, h.seg.keep fun x hx => hn _ (mem_blks hx), h.nb, h.pn⟩
theorem Shape.plt {w : World} {p m : Nat} {most : Int} {ns : List (κ.α × Nat)} (h : Shape κ w p m most ns) : p < w.heap.size := lt_of_block h.head
theorem Shape.blt {w : World} {p m : Nat} {most : Int} {ns : List (κ.α × Nat)} (h : Shape κ w p m most ns) {i : Nat} (hi : i ∈ blks ns) : i < w.heap.size := by
  obtain ⟨x, hx, rfl⟩ := List.mem_map.1 hi
  exact h.seg.lt x hx

/-- What a list stands on. -/
def foot (p m : Nat) (ns : List (κ.α × Nat)) (i : Nat) : Prop := i = p ∨ i = m ∨ i ∈ blks ns

/-- A list, its cells and its map. -/
structure LstW (κ : Kit P) (w : World) (p m : Nat) (most : Int) (ns : List (κ.α × Nat)) (D : DataW Unit) : Prop where
  shape : Shape κ w p m most ns
  map : w.ownsMap P κ.K ptrElem m ns.length D
  is : MapOf κ D ns
  mo : 1 ≤ most
  mx : most ≤ 1000000
  ml : (ns.length : Int) ≤ most
theorem LstW.lt {w : World} {p m : Nat} {most : Int} {ns : List (κ.α × Nat)} {D : DataW Unit} (h : LstW κ w p m most ns D) {i : Nat} (hi : foot p m ns i) : i < w.heap.size := by
  rcases hi with rfl | rfl | hi
  · exact h.shape.plt
  · exact ownsMap_lt h.map
  · exact h.shape.blt hi
theorem LstW.mp {w : World} {p m : Nat} {most : Int} {ns : List (κ.α × Nat)} {D : DataW Unit} (h : LstW κ w p m most ns D) : m ≠ p := ownsMap_ne h.map h.shape.head
theorem Seg.cells {w : World} : ∀ {xs : List (κ.α × Nat)} {o n : Option Nat}, Seg κ w o xs n → ∀ x ∈ xs, ∃ cs, w.heap[x.2]? = some (.cells cs κ.TN (0, 0))
  | [], _, _, _, _, hx => by cases hx
  | y :: xs, o, n, h, x, hx => by
    rcases List.mem_cons.1 hx with rfl | hx
    · exact ⟨_, h.1⟩
    · exact Seg.cells h.2 x hx
theorem LstW.mb {w : World} {p m : Nat} {most : Int} {ns : List (κ.α × Nat)} {D : DataW Unit} (h : LstW κ w p m most ns D) : m ∉ blks ns := by
  intro hm
  obtain ⟨x, hx, e⟩ := List.mem_map.1 hm
  obtain ⟨cs, hc⟩ := h.shape.seg.cells x hx
  exact ownsMap_ne h.map hc e.symm
theorem LstW.keep {w w' : World} {p m : Nat} {most : Int} {ns : List (κ.α × Nat)} {D : DataW Unit} (h : LstW κ w p m most ns D) (hk : ∀ i, foot p m ns i → w'.heap[i]? = w.heap[i]?) : LstW κ w' p m most ns D :=
  ⟨h.shape.keep (hk _ (Or.inl rfl)) (fun i hi => hk _ (Or.inr (Or.inr hi))), ownsMap_same h.map (hk _ (Or.inr (Or.inl rfl))), h.is, h.mo, h.mx, h.ml⟩

/-- A list at block p whose keys are ks, the oldest first; it stands on blocks of F alone. -/
def Lst (κ : Kit P) (w : World) (p : Nat) (most : Int) (ks : List κ.α) (F : Nat → Prop) : Prop :=
  ∃ m ns D, LstW κ w p m most ns D ∧ ns.map (·.1) = ks ∧ ∀ i, foot p m ns i → F i
/-- What it may stand on behind a call. -/
def fx (F : Nat → Prop) (w w' : World) (i : Nat) : Prop := F i ∨ w.heap.size ≤ i ∧ i < w'.heap.size
theorem Lst.keep {w w' : World} {p : Nat} {most : Int} {ks : List κ.α} {F : Nat → Prop} (h : Lst κ w p most ks F) (hk : ∀ i, F i → i < w.heap.size → w'.heap[i]? = w.heap[i]?) : Lst κ w' p most ks F := by
  obtain ⟨m, ns, D, hl, hn, hf⟩ := h
  exact ⟨m, ns, D, hl.keep fun i hi => hk i (hf i hi) (hl.lt hi), hn, hf⟩
theorem Lst.below {w w' : World} {p : Nat} {most : Int} {ks : List κ.α} {F : Nat → Prop} (h : Lst κ w p most ks F) (hb : Below w.heap.size w w') : Lst κ w' p most ks F := h.keep fun i _ hi => hb.block i hi
theorem Lst.only {w w' : World} {p : Nat} {most : Int} {ks : List κ.α} {F S : Nat → Prop} (h : Lst κ w p most ks F) (o : Only S w w') (hs : ∀ i, F i → i < w.heap.size → ¬ S i) : Lst κ w' p most ks F := h.keep fun i hi hl => o.block i hl (hs i hi hl)
theorem Lst.mono {w : World} {p : Nat} {most : Int} {ks : List κ.α} {F F' : Nat → Prop} (h : Lst κ w p most ks F) (hF : ∀ i, i < w.heap.size → F i → F' i) : Lst κ w p most ks F' := by
  obtain ⟨m, ns, D, hl, hn, hf⟩ := h
  exact ⟨m, ns, D, hl, hn, fun i hi => hF i (hl.lt hi) (hf i hi)⟩
theorem Lst.drew {w : World} {p : Nat} {most : Int} {ks : List κ.α} {F : Nat → Prop} (h : Lst κ w p most ks F) : Lst κ w.drew p most ks F := h.keep fun _ _ _ => rfl
theorem Lst.nodup {w : World} {p : Nat} {most : Int} {ks : List κ.α} {F : Nat → Prop} (h : Lst κ w p most ks F) : ks.Nodup := by
  obtain ⟨m, ns, D, hl, rfl, _⟩ := h
  exact hl.is.nk
theorem Lst.le {w : World} {p : Nat} {most : Int} {ks : List κ.α} {F : Nat → Prop} (h : Lst κ w p most ks F) : (ks.length : Int) ≤ most := by
  obtain ⟨m, ns, D, hl, rfl, _⟩ := h
  simpa using hl.ml
theorem Lst.plt {w : World} {p : Nat} {most : Int} {ks : List κ.α} {F : Nat → Prop} (h : Lst κ w p most ks F) : p < w.heap.size ∧ F p := by
  obtain ⟨m, ns, D, hl, _, hf⟩ := h
  exact ⟨hl.shape.plt, hf _ (Or.inl rfl)⟩

/-- A new list. -/
theorem LstW.new {w : World} {p m : Nat} {most : Int} (hp : w.heap[p]? = some (.cells #[.int .i64 most, .map (some m), .pointer none, .pointer none] κ.TL (0, 0))) (hm : w.ownsMap P κ.K ptrElem m 0 (.map [])) (h1 : 1 ≤ most) (h2 : most ≤ 1000000) : LstW κ w p m most [] (.map []) :=
  ⟨⟨hp, trivial, List.nodup_nil, by simp [blks]⟩, hm, MapOf.nil κ, h1, h2, by simp; omega⟩

/-- A key is put last. -/
theorem LstW.add {w w1 : World} {p m : Nat} {most : Int} {ns : List (κ.α × Nat)} {D : DataW Unit} (h : LstW κ w p m most ns D) (k : κ.α) (hk : k ∉ ns.map (·.1)) (hl : (ns.length : Int) < most) {b : Nat} (hb : w.heap.size ≤ b)
    (hx : NodeAt κ w1 b k none none) (hm : w1.ownsMap P κ.K ptrElem m (ns.length + 1) (D.put (κ.lit k) (.lit (.int .i64 (b : Int))))) (hs : Only (fun i => i = m) w w1) :
    LstW κ (lastW κ w1 p b (lst none ns)) p m most (ns ++ [(k, b)]) (D.put (κ.lit k) (.lit (.int .i64 (b : Int)))) ∧ Only (foot p m ns) w (lastW κ w1 p b (lst none ns)) := by
  have hpm := h.mp
  have hmb := h.mb
  have hp := h.shape.plt
  have s1 : Shape κ w1 p m most ns := h.shape.keep (hs.block _ hp hpm.symm) fun i hi => hs.block _ (h.shape.blt hi) (fun e => hmb (e ▸ hi))
  have hbn : b ∉ blks ns := fun hi => by have := h.shape.blt hi; omega
  obtain ⟨s2, o2⟩ := s1.last hx hbn (by omega)
  have hm2 : ¬ (m = p ∨ m = b ∨ m ∈ blks ns) := by
    rintro (e | e | e)
    · exact hpm e
    · have := ownsMap_lt h.map; omega
    · exact hmb e
  have hml : m < w1.heap.size := ownsMap_lt hm
  refine ⟨⟨s2, ?_, h.is.put (h.map.tidy κ.keyed) k b hk, h.mo, h.mx, by simp; omega⟩, ?_⟩
  · have := ownsMap_same hm (o2.block m hml hm2)
    simpa using this
  · refine ⟨o2.os.trans hs.os, o2.tape.trans hs.tape, o2.output.trans hs.output, Nat.le_trans hs.size o2.size, fun i hi hn => (o2.block i (Nat.lt_of_lt_of_le hi hs.size) ?_).trans (hs.block i hi fun e => hn (Or.inr (Or.inl e)))⟩
    rintro (e | e | e)
    · exact hn (Or.inl e)
    · omega
    · exact hn (Or.inr (Or.inr e))

/-- A key that is there stands among the cells. -/
theorem split_key {ns : List (κ.α × Nat)} {k : κ.α} (h : k ∈ ns.map (·.1)) : ∃ pre b post, ns = pre ++ (k, b) :: post := by
  obtain ⟨x, hx, rfl⟩ := List.mem_map.1 h
  obtain ⟨pre, post, e⟩ := List.append_of_mem hx
  exact ⟨pre, x.2, post, e⟩
theorem Shape.node {w : World} {p m : Nat} {most : Int} {pre post : List (κ.α × Nat)} {x : κ.α × Nat} (h : Shape κ w p m most (pre ++ x :: post)) : NodeAt κ w x.2 x.1 (lst none pre) (hd post none) := by
  have hs := h.seg
  rw [Seg.append] at hs
  exact hs.2.1
theorem Shape.xfar {w : World} {p m : Nat} {most : Int} {pre post : List (κ.α × Nat)} {x : κ.α × Nat} (h : Shape κ w p m most (pre ++ x :: post)) : x.2 ≠ p ∧ x.2 ∉ blks (pre ++ post) := by
  refine ⟨fun e => h.pn (e ▸ mem_blks (by simp)), fun hx => ?_⟩
  have hnd := h.nb
  rw [blks_append, List.nodup_append] at hnd
  rw [blks_append, List.mem_append] at hx
  rcases hx with hx | hx
  · exact hnd.2.2 _ hx x.2 (by simp [blks]) rfl
  · exact (List.nodup_cons.1 hnd.2.1).1 hx
/-- A key that is touched goes behind all others. -/
theorem LstW.touch {w w1 : World} {p m : Nat} {most : Int} {pre post : List (κ.α × Nat)} {x : κ.α × Nat} {D : DataW Unit} (h : LstW κ w p m most (pre ++ x :: post) D) (s1 : Shape κ w1 p m most (pre ++ post)) (o1 : Only (fun i => i = p ∨ i ∈ blks (pre ++ post)) w w1) :
    LstW κ (lastW κ w1 p x.2 (lst none (pre ++ post))) p m most (pre ++ post ++ [x]) D ∧ Only (foot p m (pre ++ x :: post)) w (lastW κ w1 p x.2 (lst none (pre ++ post))) ∧ NodeAt κ w1 x.2 x.1 (lst none pre) (hd post none) := by
  obtain ⟨x1, x2⟩ := h.shape.xfar
  have hn := h.shape.node
  have hx1 : x.2 < w.heap.size := lt_of_block hn
  have hn1 : NodeAt κ w1 x.2 x.1 (lst none pre) (hd post none) := (o1.block _ hx1 (by rintro (e | e); exact x1 e; exact x2 e)).trans hn
  obtain ⟨s2, o2⟩ := s1.last (b := x.2) (k := x.1) hn1 x2 x1
  have hpm := h.mp
  have hmb := h.mb
  have hsub : ∀ i, i ∈ blks (pre ++ post) → i ∈ blks (pre ++ x :: post) := by
    intro i hi
    rw [blks_append, List.mem_append] at hi ⊢
    rcases hi with hi | hi
    · exact Or.inl hi
    · exact Or.inr (List.mem_cons_of_mem _ hi)
  have hxm : x.2 ∈ blks (pre ++ x :: post) := mem_blks (by simp)
  have hperm : (pre ++ x :: post).Perm (pre ++ post ++ [x]) := by
    rw [List.append_assoc]
    exact List.Perm.append_left _ (List.perm_append_comm (l₁ := [x]) (l₂ := post))
  have hml := ownsMap_lt h.map
  have em : (lastW κ w1 p x.2 (lst none (pre ++ post))).heap[m]? = w.heap[m]? := by
    refine (o2.block m (Nat.lt_of_lt_of_le hml o1.size) ?_).trans (o1.block m hml ?_)
    · rintro (e | e | e)
      · exact hpm e
      · exact hmb (e ▸ hxm)
      · exact hmb (hsub _ e)
    · rintro (e | e)
      · exact hpm e
      · exact hmb (hsub _ e)
  refine ⟨⟨s2, ?_, h.is.perm hperm, h.mo, h.mx, ?_⟩, ?_, hn1⟩
  · rw [← hperm.length_eq]
    exact ownsMap_same h.map em
  · rw [← hperm.length_eq]
    exact h.ml
  · refine ⟨o2.os.trans o1.os, o2.tape.trans o1.tape, o2.output.trans o1.output, Nat.le_trans o1.size o2.size, fun i hi hn => (o2.block i (Nat.lt_of_lt_of_le hi o1.size) ?_).trans (o1.block i hi ?_)⟩
    · rintro (e | e | e)
      · exact hn (Or.inl e)
      · exact hn (Or.inr (Or.inr (e ▸ hxm)))
      · exact hn (Or.inr (Or.inr (hsub _ e)))
    · rintro (e | e)
      · exact hn (Or.inl e)
      · exact hn (Or.inr (Or.inr (hsub _ e)))
/-- A key is taken away. -/
theorem LstW.remove {w w1 w2 : World} {p m : Nat} {most : Int} {pre post : List (κ.α × Nat)} {x : κ.α × Nat} {D : DataW Unit} {n : Nat} (h : LstW κ w p m most (pre ++ x :: post) D) (s1 : Shape κ w1 p m most (pre ++ post)) (o1 : Only (fun i => i = p ∨ i ∈ blks (pre ++ post)) w w1)
    (hm : w2.ownsMap P κ.K ptrElem m n (D.del (κ.lit x.1))) (hs : Only (fun i => i = m) w1 w2) :
    LstW κ w2 p m most (pre ++ post) (D.del (κ.lit x.1)) ∧ Only (foot p m (pre ++ x :: post)) w w2 := by
  have hpm := h.mp
  have hmb := h.mb
  have hsub : ∀ i, i ∈ blks (pre ++ post) → i ∈ blks (pre ++ x :: post) := by
    intro i hi
    rw [blks_append, List.mem_append] at hi ⊢
    rcases hi with hi | hi
    · exact Or.inl hi
    · exact Or.inr (List.mem_cons_of_mem _ hi)
  have hd2 := h.is.del (h.map.tidy κ.keyed)
  refine ⟨⟨s1.keep (hs.block _ s1.plt hpm.symm) (fun i hi => hs.block _ (s1.blt hi) (fun e => hmb (hsub _ (e ▸ hi)))), ?_, hd2, h.mo, h.mx, ?_⟩, ?_⟩
  · have := ownsMap_tight hm
    rwa [hd2.size] at this
  · have := h.ml
    simp only [List.length_append, List.length_cons] at this ⊢
    omega
  · refine ⟨hs.os.trans o1.os, hs.tape.trans o1.tape, hs.output.trans o1.output, Nat.le_trans o1.size hs.size, fun i hi hn => (hs.block i (Nat.lt_of_lt_of_le hi o1.size) (fun e => hn (Or.inr (Or.inl e)))).trans (o1.block i hi ?_)⟩
    rintro (e | e)
    · exact hn (Or.inl e)
    · exact hn (Or.inr (Or.inr (hsub _ e)))

theorem bp_inj {a b : Option Nat} (h : bp a = bp b) : a = b := by
  cases a <;> cases b <;> simp_all [bp]
/-- The cells still to come, in blocks below n₀. -/
def From (κ : Kit P) (n₀ : Nat) (W : World) (q : Option Nat) (rest : List (κ.α × Nat)) : Prop := q = hd rest none ∧ (∃ o, Seg κ W o rest none) ∧ ∀ x ∈ rest, x.2 < n₀
theorem From.below {n₀ : Nat} {A B : World} {q : Option Nat} {rest : List (κ.α × Nat)} (hb : Below n₀ A B) (h : From κ n₀ A q rest) : From κ n₀ B q rest := by
  obtain ⟨h1, ⟨o, h2⟩, h3⟩ := h
  exact ⟨h1, ⟨o, h2.keep fun x hx => hb.block _ (h3 x hx)⟩, h3⟩
theorem node_next {w : World} {b : Nat} {k k' : κ.α} {o o' n n' : Option Nat} (h : NodeAt κ w b k o n) (h' : NodeAt κ w b k' o' n') : n = n' := by
  unfold NodeAt at h h'
  rw [h] at h'
  simp only [Option.some.injEq, Obj.cells.injEq, List.toArray_inj] at h'
  have := congrArg (fun a : Array Value => a.toList.reverse) h'.1
  simp only [List.reverse_append, List.reverse_cons, List.reverse_nil, List.nil_append, List.cons_append, List.cons.injEq] at this
  exact bp_inj this.1
theorem Seg.same_len {w : World} : ∀ (xs ys : List (κ.α × Nat)) {o o' : Option Nat}, Seg κ w o xs none → Seg κ w o' ys none → hd xs none = hd ys none → xs.length = ys.length
  | [], [], _, _, _, _, _ => rfl
  | [], y :: _, _, _, _, _, h => by cases h
  | x :: _, [], _, _, _, _, h => by cases h
  | x :: xs, y :: ys, o, o', h1, h2, h => by
    have e : x.2 = y.2 := by simpa [hd] using h
    have h1' := h1.1
    rw [e] at h1'
    have := Seg.same_len xs ys h1.2 h2.2 (node_next h1' h2.1)
    simp [this]
open Classical in
/-- How many are still to come, read off the world. -/
noncomputable def leftOf (κ : Kit P) (n₀ : Nat) (W : World) (v : Value) : Nat :=
  if h : ∃ r : Option Nat × List (κ.α × Nat), v = bp r.1 ∧ From κ n₀ W r.1 r.2 then (Classical.choose h).2.length else 0
theorem leftOf_eq {n₀ : Nat} {W : World} {q : Option Nat} {rest : List (κ.α × Nat)} (h : From κ n₀ W q rest) : leftOf κ n₀ W (bp q) = rest.length := by
  have hex : ∃ r : Option Nat × List (κ.α × Nat), bp q = bp r.1 ∧ From κ n₀ W r.1 r.2 := ⟨(q, rest), rfl, h⟩
  unfold leftOf
  rw [dif_pos hex]
  obtain ⟨e, h1, ⟨o, h2⟩, _⟩ := Classical.choose_spec hex
  obtain ⟨h3, ⟨o', h4⟩, _⟩ := h
  exact Seg.same_len _ _ h2 h4 (by rw [← h1, ← h3]; exact (bp_inj e).symm)
theorem LstW.from_ {w : World} {p m : Nat} {most : Int} {ns : List (κ.α × Nat)} {D : DataW Unit} (h : LstW κ w p m most ns D) : From κ w.heap.size w (hd ns none) ns :=
  ⟨rfl, ⟨none, h.shape.seg⟩, fun x hx => h.shape.blt (mem_blks hx)⟩

/-- The head's cells. -/
theorem Shape.cells {w : World} {p m : Nat} {most : Int} {ns : List (κ.α × Nat)} (h : Shape κ w p m most ns) :
    w.cell? ⟨p, 0, none⟩ = some (.int .i64 most) ∧ w.cell? ⟨p, 1, none⟩ = some (.map (some m)) ∧ w.cell? ⟨p, 2, none⟩ = some (bp (hd ns none)) ∧ w.cell? ⟨p, 3, none⟩ = some (bp (lst none ns)) ∧
      w.frozen? ⟨p, 2, none⟩ = false ∧ w.frozen? ⟨p, 3, none⟩ = false := by
  refine ⟨?_, ?_, ?_, ?_, ?_, ?_⟩ <;> simp [World.cell?, World.frozen?, h.head]
theorem NodeAt.cells {w : World} {b : Nat} {k : κ.α} {o n : Option Nat} (h : NodeAt κ w b k o n) :
    w.cell? ⟨b, κ.kz, none⟩ = some (bp o) ∧ w.cell? ⟨b, κ.kz + 1, none⟩ = some (bp n) ∧ w.frozen? ⟨b, κ.kz, none⟩ = false ∧ w.frozen? ⟨b, κ.kz + 1, none⟩ = false ∧ ∀ i, i < κ.kz → w.cell? ⟨b, i, none⟩ = (κ.cs k)[i]? := by
  have e := κ.len k
  unfold NodeAt at h
  refine ⟨?_, ?_, ?_, ?_, fun i hi => ?_⟩
  · simp [World.cell?, h, List.getElem?_append_right (Nat.le_of_eq e), e]
  · simp [World.cell?, h, List.getElem?_append_right (show (κ.cs k).length ≤ κ.kz + 1 by omega), e]
  · simp [World.frozen?, h]
  · simp [World.frozen?, h]
  · simp [World.cell?, h, List.getElem?_append_left (show i < (κ.cs k).length by omega)]

theorem lst_some {β : Type} {ns : List (β × Nat)} {z : Nat} (h : lst none ns = some z) : ∃ ys x, ns = ys ++ [x] ∧ x.2 = z := by
  rcases nil_or_snoc ns with rfl | ⟨ys, x, rfl⟩
  · cases h
  · rw [lst_append] at h
    exact ⟨ys, x, rfl, Option.some.inj h⟩
theorem hd_some {β : Type} {ns : List (β × Nat)} {z : Nat} (h : hd ns none = some z) : ∃ x ys, ns = x :: ys ∧ x.2 = z := by
  cases ns with
  | nil => cases h
  | cons x ys => exact ⟨x, ys, rfl, Option.some.inj h⟩
theorem Seg.nodes {w : World} : ∀ {xs : List (κ.α × Nat)} {o n : Option Nat}, Seg κ w o xs n → ∀ x ∈ xs, ∃ o' n', NodeAt κ w x.2 x.1 o' n'
  | [], _, _, _, _, hx => by cases hx
  | y :: xs, o, n, h, x, hx => by
    rcases List.mem_cons.1 hx with rfl | hx
    · exact ⟨_, _, h.1⟩
    · exact Seg.nodes h.2 x hx
theorem Shape.newest {w : World} {p m : Nat} {most : Int} {ns : List (κ.α × Nat)} (h : Shape κ w p m most ns) {z : Nat} (hz : lst none ns = some z) : z ∈ blks ns ∧ z ≠ p ∧ ∃ k o n, NodeAt κ w z k o n := by
  obtain ⟨ys, x, rfl, rfl⟩ := lst_some hz
  obtain ⟨o, n, hn⟩ := h.seg.nodes x (by simp)
  exact ⟨mem_blks (by simp), fun e => h.pn (e ▸ mem_blks (by simp)), _, o, n, hn⟩
theorem Shape.beside {w : World} {p m : Nat} {most : Int} {pre post : List (κ.α × Nat)} {x : κ.α × Nat} (h : Shape κ w p m most (pre ++ x :: post)) :
    (∀ z, lst none pre = some z → z ≠ x.2 ∧ z ≠ p ∧ ∃ k o n, NodeAt κ w z k o n) ∧ (∀ z, hd post none = some z → z ≠ x.2 ∧ z ≠ p ∧ lst none pre ≠ some z ∧ ∃ k o n, NodeAt κ w z k o n) := by
  obtain ⟨x1, x2⟩ := h.xfar
  have hnd := h.nb
  rw [blks_append, List.nodup_append] at hnd
  refine ⟨fun z hz => ?_, fun z hz => ?_⟩
  · obtain ⟨ys, y, rfl, rfl⟩ := lst_some hz
    obtain ⟨o, n, hn⟩ := h.seg.nodes y (by simp)
    exact ⟨fun e => x2 (by rw [← e]; exact mem_blks (by simp)), fun e => h.pn (e ▸ mem_blks (by simp)), _, o, n, hn⟩
  · obtain ⟨y, ys, rfl, rfl⟩ := hd_some hz
    obtain ⟨o, n, hn⟩ := h.seg.nodes y (by simp)
    refine ⟨fun e => x2 (by rw [← e]; exact mem_blks (by simp)), fun e => h.pn (e ▸ mem_blks (by simp)), fun hl => ?_, _, o, n, hn⟩
    obtain ⟨zs, u, rfl, e⟩ := lst_some hl
    exact hnd.2.2 u.2 (mem_blks (by simp)) y.2 (by simp [blks]) e
/-- A list without a key. -/
def wo {α : Type} [DecidableEq α] (k : α) (ks : List α) : List α := ks.filter fun x => decide (x ≠ k)
theorem wo_not {α : Type} [DecidableEq α] {k : α} {ks : List α} (h : k ∉ ks) : wo k ks = ks := List.filter_eq_self.2 fun x hx => by
  have : x ≠ k := fun e => h (e ▸ hx)
  simpa using this
theorem keys_wo {α : Type} [DecidableEq α] {pre post : List (α × Nat)} {x : α × Nat} (h : ((pre ++ x :: post).map (·.1)).Nodup) : wo x.1 ((pre ++ x :: post).map (·.1)) = (pre ++ post).map (·.1) := by
  rw [List.map_append, List.map_cons] at h ⊢
  have hn := List.nodup_append.1 h
  have h1 : wo x.1 (pre.map (·.1)) = pre.map (·.1) := wo_not fun hm => hn.2.2 _ hm x.1 (by simp) rfl
  have h2 : wo x.1 (post.map (·.1)) = post.map (·.1) := wo_not (List.nodup_cons.1 hn.2.1).1
  unfold wo at h1 h2 ⊢
  rw [List.filter_append, List.filter_cons, if_neg (by simp), h1, h2, List.map_append]

/-- A list that stands on new blocks alone. -/
structure LB (κ : Kit P) (w0 w : World) (p : Nat) (most : Int) (ks : List κ.α) : Prop where
  out : ∃ F, Lst κ w p most ks F ∧ (∀ i, F i → w0.heap.size ≤ i) ∧ Below w0.heap.size w0 w
theorem LB.step {w0 w w' : World} {p : Nat} {most : Int} {ks' : List κ.α} (hb : Below w0.heap.size w0 w) {F : Nat → Prop} (hF : ∀ i, F i → w0.heap.size ≤ i) (h : Lst κ w' p most ks' (fx F w w')) (o : Only F w w') : LB κ w0 w' p most ks' :=
  ⟨_, h, fun i hi => by
    rcases hi with hi | hi
    · exact hF i hi
    · exact Nat.le_trans hb.size hi.1, hb.trans (o.below hb.size fun k hk hs => by have := hF k hs; omega)⟩
theorem LB.same {w0 w w' : World} {p : Nat} {most : Int} {ks' : List κ.α} (hb : Below w0.heap.size w0 w) {F : Nat → Prop} (hF : ∀ i, F i → w0.heap.size ≤ i) (h : Lst κ w' p most ks' F) (o : Only F w w') : LB κ w0 w' p most ks' :=
  ⟨_, h, hF, hb.trans (o.below hb.size fun k hk hs => by have := hF k hs; omega)⟩
end
end Go.Proofs.Ytnmmeccbpcichaa
