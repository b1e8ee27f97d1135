/-
  A list of linked cells beside a map of them, in plain worlds: what it is, and what taking a cell out and putting one last make of it. Conditions: as each theorem says.
-/
import Derived.Test.YtnmmeccbpcichaaSlice
import Derived.Maps.OwnSet
import Derived.Maps.Views
namespace Go.Proofs.Ytnmmeccbpcichaa
open Go.RowKit Go.Maps

/-- A pointer to a block, or none. -/
def bp (o : Option Nat) : Value := .pointer (o.map fun b => ⟨b, 0, none⟩)
/-- How a pointer in a map reads: by its block. -/
def ptrElem : Value → Option (DataW Unit × List MemPlace)
  | .pointer none => some (.nil, [])
  | .pointer (some ⟨b, 0, none⟩) => some (.lit (.int .i64 (b : Int)), [])
  | _ => none
theorem ptrElem_some (b : Nat) : ptrElem (.pointer (some ⟨b, 0, none⟩)) = some (.lit (.int .i64 (b : Int)), []) := rfl
theorem ptrElem_inv {v : Value} {b : Nat} {ps : List MemPlace} (h : ptrElem v = some (.lit (.int .i64 (b : Int)), ps)) : v = .pointer (some ⟨b, 0, none⟩) := by
  unfold ptrElem at h
  split at h
  · cases h
  · rename_i b'
    simp only [Option.some.injEq, Prod.mk.injEq, DataW.lit.injEq, Lit.int.injEq, true_and] at h
    have : b' = b := by omega
    rw [this]
  · cases h
theorem ptrElem_nil {v : Value} {ps : List MemPlace} (h : ptrElem v = some (.nil, ps)) : v = .pointer none := by
  unfold ptrElem at h
  split at h
  · rfl
  · cases h
  · cases h

/-- The keys of a list: their values, cells, and what they read as. -/
structure Kit (P : Program) where
  α : Type
  dec : DecidableEq α
  K : TypeId
  TN : TypeId
  TL : TypeId
  val : α → Value
  cs : α → List Value
  kz : Nat
  lit : α → Lit
  len : ∀ x, (cs x).length = kz
  inj : ∀ x y, lit x = lit y → x = y
  keyed : Keyed P K
  key : ∀ x, keyOf P K (val x) = some (lit x)
  isk : ∀ x, WideAt.IsKeyLit (lit x)

section
variable {P : Program} (κ : Kit P)

/-- A cell among others. -/
def NodeAt (w : World) (b : Nat) (k : κ.α) (o n : Option Nat) : Prop := w.heap[b]? = some (.cells (κ.cs k ++ [bp o, bp n]).toArray κ.TN (0, 0))
def hd {β : Type} : List (β × Nat) → Option Nat → Option Nat
  | [], n => n
  | x :: _, _ => some x.2
def lst {β : Type} : Option Nat → List (β × Nat) → Option Nat
  | o, [] => o
  | _, x :: r => lst (some x.2) r
theorem hd_append {β : Type} : ∀ (xs ys : List (β × Nat)) (n : Option Nat), hd (xs ++ ys) n = hd xs (hd ys n)
  | [], _, _ => rfl
  | _ :: _, _, _ => rfl
theorem lst_append {β : Type} : ∀ (xs ys : List (β × Nat)) (o : Option Nat), lst o (xs ++ ys) = lst (lst o xs) ys
  | [], _, _ => rfl
  | x :: xs, ys, _ => lst_append xs ys (some x.2)
/-- Cells in a row, each leading to those beside it. -/
def Seg (w : World) : Option Nat → List (κ.α × Nat) → Option Nat → Prop
  | _, [], _ => True
  | o, x :: r, n => NodeAt κ w x.2 x.1 o (hd r n) ∧ Seg w (some x.2) r n
theorem Seg.append {w : World} : ∀ (xs ys : List (κ.α × Nat)) (o n : Option Nat), Seg κ w o (xs ++ ys) n ↔ Seg κ w o xs (hd ys n) ∧ Seg κ w (lst o xs) ys n
  | [], ys, o, n => by simp [Seg, lst]
  | x :: xs, ys, o, n => by
    show NodeAt κ w x.2 x.1 o (hd (xs ++ ys) n) ∧ Seg κ w (some x.2) (xs ++ ys) n ↔ (NodeAt κ w x.2 x.1 o (hd xs (hd ys n)) ∧ Seg κ w (some x.2) xs (hd ys n)) ∧ Seg κ w (lst (some x.2) xs) ys n
    rw [hd_append, Seg.append xs ys (some x.2) n, and_assoc]
variable {κ}
theorem Seg.keep {w w' : World} : ∀ {xs : List (κ.α × Nat)} {o n : Option Nat}, Seg κ w o xs n → (∀ x ∈ xs, w'.heap[x.2]? = w.heap[x.2]?) → Seg κ w' o xs n
  | [], _, _, _, _ => trivial
  | x :: xs, o, n, h, hk => ⟨(hk x (by simp)).trans h.1, Seg.keep h.2 fun y hy => hk y (by simp [hy])⟩
theorem Seg.lt {w : World} : ∀ {xs : List (κ.α × Nat)} {o n : Option Nat}, Seg κ w o xs n → ∀ x ∈ xs, x.2 < w.heap.size
  | [], _, _, _, _, hx => by cases hx
  | y :: xs, o, n, h, x, hx => by
    rcases List.mem_cons.1 hx with rfl | hx
    · exact lt_of_block h.1
    · exact Seg.lt h.2 x hx
theorem heap_set {w : World} {g : Nat} {cur : Array Value} {t : TypeId} (h : w.heap[g]? = some (.cells cur t (0, 0))) (j : Nat) (v : Value) : (w.setCell ⟨g, j, none⟩ v).heap[g]? = some (.cells (cur.setIfInBounds j v) t (0, 0)) := by
  rw [setCell_eq_setRow w g j cur t (0, 0) v h]
  exact setRow_heap w g cur _ t (0, 0) h
theorem node_older (k : κ.α) (o n : Option Nat) (v : Value) : (κ.cs k ++ [bp o, bp n]).toArray.setIfInBounds κ.kz v = (κ.cs k ++ [v, bp n]).toArray := by
  rw [List.setIfInBounds_toArray, List.set_append_right _ _ (by rw [κ.len]; exact Nat.le_refl _), κ.len, Nat.sub_self]
  rfl
theorem node_newer (k : κ.α) (o n : Option Nat) (v : Value) : (κ.cs k ++ [bp o, bp n]).toArray.setIfInBounds (κ.kz + 1) v = (κ.cs k ++ [bp o, v]).toArray := by
  rw [List.setIfInBounds_toArray, List.set_append_right _ _ (by rw [κ.len]; omega), κ.len, Nat.add_sub_cancel_left]
  rfl
theorem NodeAt.older {w : World} {b : Nat} {k : κ.α} {o n : Option Nat} (h : NodeAt κ w b k o n) (o' : Option Nat) : NodeAt κ (w.setCell ⟨b, κ.kz, none⟩ (bp o')) b k o' n := by
  have := heap_set h κ.kz (bp o')
  rw [node_older] at this
  exact this
theorem NodeAt.newer {w : World} {b : Nat} {k : κ.α} {o n : Option Nat} (h : NodeAt κ w b k o n) (n' : Option Nat) : NodeAt κ (w.setCell ⟨b, κ.kz + 1, none⟩ (bp n')) b k o n' := by
  have := heap_set h (κ.kz + 1) (bp n')
  rw [node_newer] at this
  exact this
theorem NodeAt.far {w : World} {b g j : Nat} {v : Value} {k : κ.α} {o n : Option Nat} (h : NodeAt κ w b k o n) (hne : b ≠ g) : NodeAt κ (w.setCell ⟨g, j, none⟩ v) b k o n := (Below.heap_setCell _ _ _ _ hne).trans h
theorem Seg.far {w : World} {g j : Nat} {v : Value} {xs : List (κ.α × Nat)} {o n : Option Nat} (h : Seg κ w o xs n) (hne : ∀ x ∈ xs, x.2 ≠ g) : Seg κ (w.setCell ⟨g, j, none⟩ v) o xs n :=
  h.keep fun x hx => Below.heap_setCell _ _ _ _ (hne x hx)
theorem Seg.newer {w : World} {xs : List (κ.α × Nat)} {z : κ.α × Nat} {o n : Option Nat} (h : Seg κ w o (xs ++ [z]) n) (hz : ∀ x ∈ xs, x.2 ≠ z.2) (n' : Option Nat) : Seg κ (w.setCell ⟨z.2, κ.kz + 1, none⟩ (bp n')) o (xs ++ [z]) n' := by
  rw [Seg.append] at h ⊢
  exact ⟨h.1.far hz, NodeAt.newer h.2.1 n', trivial⟩
theorem Seg.older {w : World} {ys : List (κ.α × Nat)} {z : κ.α × Nat} {o n : Option Nat} (h : Seg κ w o (z :: ys) n) (hz : ∀ x ∈ ys, x.2 ≠ z.2) (o' : Option Nat) : Seg κ (w.setCell ⟨z.2, κ.kz, none⟩ (bp o')) o' (z :: ys) n :=
  ⟨NodeAt.older h.1 o', h.2.far hz⟩

/-- The blocks of a list's cells. -/
def blks (ns : List (κ.α × Nat)) : List Nat := ns.map (·.2)
theorem mem_blks {ns : List (κ.α × Nat)} {x : κ.α × Nat} (h : x ∈ ns) : x.2 ∈ blks ns := List.mem_map_of_mem h
theorem blks_append (a b : List (κ.α × Nat)) : blks (a ++ b) = blks a ++ blks b := by simp [blks]

/-- A list at block p: its head, and its cells from the oldest to the newest. -/
structure Shape (κ : Kit P) (w : World) (p m : Nat) (most : Int) (ns : List (κ.α × Nat)) : Prop where
  head : w.heap[p]? = some (.cells #[.int .i64 most, .map (some m), bp (hd ns none), bp (lst none ns)] κ.TL (0, 0))
  seg : Seg κ w none ns none
  nb : (blks ns).Nodup
  pn : p ∉ blks ns

/-- What 'last' leaves. -/
def lastW (κ : Kit P) (w : World) (p x : Nat) (t : Option Nat) : World :=
  ((match t with
    | none => ((w.setCell ⟨x, κ.kz, none⟩ (bp t)).setCell ⟨x, κ.kz + 1, none⟩ (bp none)).setCell ⟨p, 2, none⟩ (bp (some x))
    | some b => ((w.setCell ⟨x, κ.kz, none⟩ (bp t)).setCell ⟨x, κ.kz + 1, none⟩ (bp none)).setCell ⟨b, κ.kz + 1, none⟩ (bp (some x))) : World).setCell ⟨p, 3, none⟩ (bp (some x))
/-- What 'out' leaves. -/
def outW (κ : Kit P) (w : World) (p : Nat) (o n : Option Nat) : World :=
  let w1 : World := match o with
    | none => w.setCell ⟨p, 2, none⟩ (bp n)
    | some b => w.setCell ⟨b, κ.kz + 1, none⟩ (bp n)
  match n with
  | none => w1.setCell ⟨p, 3, none⟩ (bp o)
  | some b => w1.setCell ⟨b, κ.kz, none⟩ (bp o)

theorem only_set {S : Nat → Prop} (w : World) (g j : Nat) (v : Value) (h : S g) : Only S w (w.setCell ⟨g, j, none⟩ v) :=
  ⟨rfl, rfl, rfl, by simp [World.setCell], fun k _ hn => Below.heap_setCell _ _ _ _ (fun e => hn (by rw [e]; exact h))⟩
theorem nil_or_snoc {β : Type} (l : List β) : l = [] ∨ ∃ ys z, l = ys ++ [z] := by
  rcases List.eq_nil_or_concat l with h | ⟨ys, z, h⟩
  · exact Or.inl h
  · exact Or.inr ⟨ys, z, by simpa using h⟩

theorem Shape.last {w : World} {p m : Nat} {most : Int} {ns : List (κ.α × Nat)} (h : Shape κ w p m most ns) {b : Nat} {k : κ.α} {o n : Option Nat} (hx : NodeAt κ w b k o n) (hb : b ∉ blks ns) (hbp : b ≠ p) :
    Shape κ (lastW κ w p b (lst none ns)) p m most (ns ++ [(k, b)]) ∧ Only (fun i => i = p ∨ i = b ∨ i ∈ blks ns) w (lastW κ w p b (lst none ns)) := by
  have hnb : (blks (ns ++ [(k, b)])).Nodup := by
    rw [blks_append, List.nodup_append]
    refine ⟨h.nb, by simp [blks], fun x hx1 y hy e => ?_⟩
    simp only [blks, List.map_cons, List.map_nil, List.mem_singleton] at hy
    rw [e, hy] at hx1
    exact hb hx1
  have hpn : p ∉ blks (ns ++ [(k, b)]) := by
    rw [blks_append, List.mem_append]
    rintro (h1 | h1)
    · exact h.pn h1
    · simp only [blks, List.map_cons, List.map_nil, List.mem_singleton] at h1
      exact hbp h1.symm
  rcases nil_or_snoc ns with rfl | ⟨ys, z, rfl⟩
  · refine ⟨⟨?_, ?_, hnb, hpn⟩, ?_⟩
    · have h0 : (((w.setCell ⟨b, κ.kz, none⟩ (bp none)).setCell ⟨b, κ.kz + 1, none⟩ (bp none))).heap[p]? = _ := (Below.heap_setCell _ _ _ _ hbp.symm).trans ((Below.heap_setCell _ _ _ _ hbp.symm).trans h.head)
      exact heap_set (heap_set h0 2 (bp (some b))) 3 (bp (some b))
    · have h1 := ((hx.older none).newer none).far (g := p) (j := 2) (v := bp (some b)) hbp
      exact ⟨h1.far (g := p) (j := 3) (v := bp (some b)) hbp, trivial⟩
    · exact (only_set _ _ _ _ (Or.inr (Or.inl rfl))).trans ((only_set _ _ _ _ (Or.inr (Or.inl rfl))).trans ((only_set _ _ _ _ (Or.inl rfl)).trans (only_set _ _ _ _ (Or.inl rfl))))
  · have hz : z.2 ∈ blks (ys ++ [z]) := mem_blks (by simp)
    have hzb : z.2 ≠ b := fun e => hb (e ▸ hz)
    have hzp : z.2 ≠ p := fun e => h.pn (e ▸ hz)
    have hyz : ∀ x ∈ ys, x.2 ≠ z.2 := by
      intro x hx1 e
      have hn := h.nb
      rw [blks_append, List.nodup_append] at hn
      exact hn.2.2 _ (mem_blks hx1) z.2 (by simp [blks]) e
    have hsb : ∀ x ∈ ys ++ [z], x.2 ≠ b := fun x hx1 e => hb (e ▸ mem_blks hx1)
    have hsp : ∀ x ∈ ys ++ [z], x.2 ≠ p := fun x hx1 e => h.pn (e ▸ mem_blks hx1)
    have hl : lst none (ys ++ [z]) = some z.2 := by rw [lst_append]; rfl
    have hl2 : lst none (ys ++ [z] ++ [(k, b)]) = some b := by rw [lst_append]; rfl
    have hh2 : hd (ys ++ [z] ++ [(k, b)]) none = hd (ys ++ [z]) none := by cases ys <;> rfl
    refine ⟨⟨?_, ?_, hnb, hpn⟩, ?_⟩
    · rw [hl2, hh2, hl]
      have h0 := h.head
      rw [hl] at h0
      have h1 : ((((w.setCell ⟨b, κ.kz, none⟩ (bp (some z.2))).setCell ⟨b, κ.kz + 1, none⟩ (bp none))).setCell ⟨z.2, κ.kz + 1, none⟩ (bp (some b))).heap[p]? = _ := (Below.heap_setCell _ _ _ _ hzp.symm).trans ((Below.heap_setCell _ _ _ _ hbp.symm).trans ((Below.heap_setCell _ _ _ _ hbp.symm).trans h0))
      exact heap_set h1 3 (bp (some b))
    · rw [hl, Seg.append]
      refine ⟨?_, ?_⟩
      · have h1 : Seg κ ((w.setCell ⟨b, κ.kz, none⟩ (bp (some z.2))).setCell ⟨b, κ.kz + 1, none⟩ (bp none)) none (ys ++ [z]) none := (h.seg.far hsb).far hsb
        exact (h1.newer hyz (some b)).far hsp
      · rw [hl]
        have h1 := ((hx.older (some z.2)).newer none).far (g := z.2) (j := κ.kz + 1) (v := bp (some b)) hzb.symm
        exact ⟨h1.far (g := p) (j := 3) (v := bp (some b)) hbp, trivial⟩
    · rw [hl]
      exact (only_set _ _ _ _ (Or.inr (Or.inl rfl))).trans ((only_set _ _ _ _ (Or.inr (Or.inl rfl))).trans ((only_set _ _ _ _ (Or.inr (Or.inr hz))).trans (only_set _ _ _ _ (Or.inl rfl))))

theorem Shape.out {w : World} {p m : Nat} {most : Int} {pre post : List (κ.α × Nat)} {x : κ.α × Nat} (h : Shape κ w p m most (pre ++ x :: post)) :
    Shape κ (outW κ w p (lst none pre) (hd post none)) p m most (pre ++ post) ∧ Only (fun i => i = p ∨ i ∈ blks (pre ++ post)) w (outW κ w p (lst none pre) (hd post none)) := by
  have hnd := h.nb
  rw [blks_append, List.nodup_append] at hnd
  obtain ⟨n1, n2, n3⟩ := hnd
  have n2' : (blks post).Nodup := (List.nodup_cons.1 n2).2
  have hnb : (blks (pre ++ post)).Nodup := by
    rw [blks_append, List.nodup_append]
    exact ⟨n1, n2', fun a ha b hb => n3 a ha b (List.mem_cons_of_mem _ hb)⟩
  have hpn : p ∉ blks (pre ++ post) := by
    rw [blks_append, List.mem_append]
    rintro (h1 | h1)
    · exact h.pn (by rw [blks_append]; exact List.mem_append_left _ h1)
    · exact h.pn (by rw [blks_append]; exact List.mem_append_right _ (List.mem_cons_of_mem _ h1))
  have hcross : ∀ a ∈ pre, ∀ b ∈ post, a.2 ≠ b.2 := fun a ha b hb => n3 _ (mem_blks ha) _ (List.mem_cons_of_mem _ (mem_blks hb))
  have hpp : ∀ a ∈ pre ++ post, a.2 ≠ p := fun a ha e => hpn (e ▸ mem_blks ha)
  have hs := h.seg
  rw [Seg.append] at hs
  obtain ⟨s1, _, s2⟩ := hs
  have hhd0 := h.head
  rw [hd_append, lst_append] at hhd0
  rcases nil_or_snoc pre with rfl | ⟨ys, z, rfl⟩
  · cases post with
    | nil =>
      refine ⟨⟨?_, trivial, hnb, hpn⟩, ?_⟩
      · exact heap_set (heap_set hhd0 2 (bp none)) 3 (bp none)
      · exact (only_set _ _ _ _ (Or.inl rfl)).trans (only_set _ _ _ _ (Or.inl rfl))
    | cons y post =>
      have hyp : y.2 ≠ p := hpp y (by simp)
      have hyr : ∀ a ∈ post, a.2 ≠ y.2 := fun a ha e => (List.nodup_cons.1 n2').1 (by have h9 := mem_blks ha; rw [e] at h9; exact h9)
      refine ⟨⟨?_, ?_, hnb, hpn⟩, ?_⟩
      · have h1 := heap_set hhd0 2 (bp (some y.2))
        exact (Below.heap_setCell _ _ _ _ hyp.symm).trans h1
      · have h1 : Seg κ (w.setCell ⟨p, 2, none⟩ (bp (some y.2))) (some x.2) (y :: post) none := s2.far (fun a ha => hpp a (by simpa using ha))
        exact h1.older hyr none
      · exact (only_set _ _ _ _ (Or.inl rfl)).trans (only_set _ _ _ _ (Or.inr (mem_blks (by simp))))
  · have hl : lst none (ys ++ [z]) = some z.2 := by rw [lst_append]; rfl
    have hzp : z.2 ≠ p := hpp z (by simp)
    have hyz : ∀ a ∈ ys, a.2 ≠ z.2 := by
      intro a ha e
      rw [blks_append, List.nodup_append] at n1
      exact n1.2.2 _ (mem_blks ha) z.2 (by simp [blks]) e
    have hzm : z.2 ∈ blks (ys ++ [z] ++ post) := mem_blks (by simp)
    cases post with
    | nil =>
      refine ⟨⟨?_, ?_, hnb, hpn⟩, ?_⟩
      · rw [hl, List.append_nil, hl]
        have e : hd (ys ++ [z]) none = hd (ys ++ [z]) (hd [x] none) := by cases ys <;> rfl
        rw [e]
        have h1 : (w.setCell ⟨z.2, κ.kz + 1, none⟩ (bp none)).heap[p]? = _ := (Below.heap_setCell _ _ _ _ hzp.symm).trans hhd0
        exact heap_set h1 3 (bp (some z.2))
      · rw [hl, List.append_nil]
        exact (s1.newer hyz none).far fun a ha => hpp a (by simpa using ha)
      · rw [hl]
        exact (only_set _ _ _ _ (Or.inr hzm)).trans (only_set _ _ _ _ (Or.inl rfl))
    | cons y post =>
      have hyp : y.2 ≠ p := hpp y (by simp)
      have hyr : ∀ a ∈ post, a.2 ≠ y.2 := fun a ha e => (List.nodup_cons.1 n2').1 (by have h9 := mem_blks ha; rw [e] at h9; exact h9)
      have hzy : ∀ a ∈ y :: post, a.2 ≠ z.2 := fun a ha e => hcross z (by simp) a ha e.symm
      have hyl : ∀ a ∈ ys ++ [z], a.2 ≠ y.2 := fun a ha e => hcross a ha y (by simp) e
      refine ⟨⟨?_, ?_, hnb, hpn⟩, ?_⟩
      · rw [hl, hd_append, lst_append]
        have h1 : (w.setCell ⟨z.2, κ.kz + 1, none⟩ (bp (some y.2))).heap[p]? = _ := (Below.heap_setCell _ _ _ _ hzp.symm).trans hhd0
        have e1 : hd (ys ++ [z]) (hd (x :: y :: post) none) = hd (ys ++ [z]) (hd (y :: post) none) := by cases ys <;> rfl
        have e2 : lst (lst none (ys ++ [z])) (x :: y :: post) = lst (lst none (ys ++ [z])) (y :: post) := rfl
        rw [e1, e2] at h1
        exact (Below.heap_setCell _ _ _ _ hyp.symm).trans h1
      · rw [hl, Seg.append]
        refine ⟨(s1.newer hyz (some y.2)).far hyl, ?_⟩
        rw [hl]
        exact (s2.far hzy).older hyr (some z.2)
      · rw [hl]
        exact (only_set _ _ _ _ (Or.inr hzm)).trans (only_set _ _ _ _ (Or.inr (mem_blks (by simp))))

/-- The map holds just the list's cells. -/
structure MapOf (κ : Kit P) (D : DataW Unit) (ns : List (κ.α × Nat)) : Prop where
  at_ : ∀ x ∈ ns, ∀ z, D.atKey (κ.lit x.1) z = .lit (.int .i64 (x.2 : Int))
  no : ∀ k, k ∉ ns.map (·.1) → has D (κ.lit k) = false
  size : Maps.size D = ns.length
  nk : (ns.map (·.1)).Nodup
theorem MapOf.nil (κ : Kit P) : MapOf κ (.map []) [] := ⟨fun x hx => absurd hx (by simp), fun k _ => rfl, rfl, List.nodup_nil⟩
theorem MapOf.perm {D : DataW Unit} {ns ns' : List (κ.α × Nat)} (h : MapOf κ D ns) (hp : ns.Perm ns') : MapOf κ D ns' :=
  ⟨fun x hx => h.at_ x (hp.mem_iff.2 hx), fun k hk => h.no k (fun h' => hk ((hp.map _).mem_iff.1 h')), h.size.trans hp.length_eq, (hp.map _).nodup_iff.1 h.nk⟩
theorem MapOf.put {D : DataW Unit} {ns : List (κ.α × Nat)} (h : MapOf κ D ns) (ht : Tidy D) (k : κ.α) (b : Nat) (hk : k ∉ ns.map (·.1)) : MapOf κ (D.put (κ.lit k) (.lit (.int .i64 (b : Int)))) (ns ++ [(k, b)]) := by
  have hD : IsMap D := ht.isMap
  refine ⟨fun x hx z => ?_, fun k' hk' => ?_, ?_, ?_⟩
  · rcases List.mem_append.1 hx with hx | hx
    · rw [atKey_put_other (fun e => hk (by rw [← κ.inj _ _ e]; exact List.mem_map_of_mem hx))]
      exact h.at_ x hx z
    · obtain rfl := List.mem_singleton.1 hx
      exact atKey_put_same hD (κ.isk k) _ _
  · rw [List.map_append, List.mem_append] at hk'
    rw [has_put_other (fun e => hk' (Or.inr (by rw [κ.inj _ _ e]; simp)))]
    exact h.no k' fun h' => hk' (Or.inl h')
  · rw [size_put (k := κ.lit k) ht, h.no k hk, h.size]
    simp
  · rw [List.map_append, List.nodup_append]
    refine ⟨h.nk, by simp, fun a ha b' hb e => ?_⟩
    simp only [List.map_cons, List.map_nil, List.mem_singleton] at hb
    rw [e, hb] at ha
    exact hk ha
theorem MapOf.has {D : DataW Unit} {ns : List (κ.α × Nat)} (h : MapOf κ D ns) {x : κ.α × Nat} (hx : x ∈ ns) : Maps.has D (κ.lit x.1) = true := has_true_of_atKey (h.at_ x hx)
theorem MapOf.del {D : DataW Unit} {pre post : List (κ.α × Nat)} {x : κ.α × Nat} (h : MapOf κ D (pre ++ x :: post)) (ht : Tidy D) : MapOf κ (D.del (κ.lit x.1)) (pre ++ post) := by
  have hk : ∀ y ∈ pre ++ post, y.1 ≠ x.1 := by
    intro y hy e
    have hn := h.nk
    rw [List.map_append, List.map_cons, List.nodup_append, List.nodup_cons] at hn
    rcases List.mem_append.1 hy with hy | hy
    · exact hn.2.2 y.1 (List.mem_map_of_mem hy) x.1 (by simp) e
    · exact hn.2.1.1 (e ▸ List.mem_map_of_mem hy)
  refine ⟨fun y hy z => ?_, fun k' hk' => ?_, ?_, ?_⟩
  · rw [atKey_del_other (fun e => hk y hy (κ.inj _ _ e))]
    exact h.at_ y (by rcases List.mem_append.1 hy with hy | hy <;> simp [hy]) z
  · by_cases e : k' = x.1
    · rw [e]; exact has_del_same
    · rw [has_del_other (fun e' => e (κ.inj _ _ e'))]
      refine h.no k' fun h' => hk' ?_
      rw [List.map_append, List.map_cons, List.mem_append, List.mem_cons] at h'
      rw [List.map_append, List.mem_append]
      rcases h' with h' | h' | h'
      · exact Or.inl h'
      · exact absurd h' e
      · exact Or.inr h'
  · have h1 := size_del (k := κ.lit x.1) ht
    rw [h.has (x := x) (by simp), h.size] at h1
    simp only [if_true, List.length_append, List.length_cons] at h1 ⊢
    omega
  · have hn := h.nk
    rw [List.map_append, List.map_cons, List.nodup_append, List.nodup_cons] at hn
    rw [List.map_append, List.nodup_append]
    exact ⟨hn.1, hn.2.1.2, fun a ha b hb => hn.2.2 a ha b (List.mem_cons_of_mem _ hb)⟩
end
end Go.Proofs.Ytnmmeccbpcichaa
