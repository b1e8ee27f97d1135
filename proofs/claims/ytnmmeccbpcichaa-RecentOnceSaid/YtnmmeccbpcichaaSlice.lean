/-
  Slices of a call's own that may begin inside their block: read, cut, stored into, appended to. Conditions: as each theorem says.
-/
import Derived.Test.YtnmmeccbpcichaaMem
import Derived.Deep.AppendSrc
import Derived.Deep.Upon
namespace Go.Proofs.Ytnmmeccbpcichaa
open Go.RowKit

section
variable {P : Program} {w w' : World}

theorem heap_setCells_same (g : Nat) (t : TypeId) (fr : Nat × Nat) : ∀ (vs : List Value) (o : Nat) (cur : Array Value) (w : World), w.heap[g]? = some (.cells cur t fr) → o + vs.length ≤ cur.size →
    (w.setCells g o vs).heap[g]? = some (.cells (cur.toList.take o ++ vs ++ cur.toList.drop (o + vs.length)).toArray t fr)
  | [], o, cur, w, hg, _ => by
    simp only [World.setCells, List.append_nil, List.length_nil, Nat.add_zero, List.take_append_drop, Array.toArray_toList]
    exact hg
  | v :: r, o, cur, w, hg, hl => by
    have ho : o < cur.size := by simp only [List.length_cons] at hl; omega
    have h1 : (w.setCell ⟨g, o, none⟩ v).heap[g]? = some (.cells (cur.setIfInBounds o v) t fr) := by
      rw [setCell_eq_setRow w g o cur t fr v hg]
      exact setRow_heap w g cur _ t fr hg
    have ih := heap_setCells_same g t fr r (o + 1) (cur.setIfInBounds o v) _ h1 (by simp only [List.length_cons] at hl; simp; omega)
    rw [World.setCells, ih]
    congr 3
    have := list_seg_step cur.toList o v r (by simp only [List.length_cons] at hl; simp; omega)
    simpa [Array.toList_setIfInBounds, Nat.add_assoc, Nat.add_comm 1] using this

theorem size_setCells (b : Nat) : ∀ (vs : List Value) (o : Nat) (w : World), (w.setCells b o vs).heap.size = w.heap.size
  | [], _, _ => rfl
  | v :: r, o, w => by rw [World.setCells, size_setCells b r]; simp [World.setCell]
theorem heap_setCells_far (g : Nat) : ∀ (vs : List Value) (o : Nat) (w : World) (i : Nat), i ≠ g → (w.setCells g o vs).heap[i]? = w.heap[i]?
  | [], _, _, _, _ => rfl
  | v :: r, o, w, i, h => by
    rw [World.setCells, heap_setCells_far g r _ _ i h]
    exact heap_setCell_other w _ i v h
theorem tape_setCells (g : Nat) : ∀ (vs : List Value) (o : Nat) (w : World), (w.setCells g o vs).tape = w.tape
  | [], _, _ => rfl
  | v :: r, o, w => by rw [World.setCells, tape_setCells g r]; rfl
theorem grown_setCells (g : Nat) (vs : List Value) (o : Nat) (w : World) : w.grownBy (w.setCells g o vs) (some g) :=
  ⟨World.os_setCells w g o vs, tape_setCells g vs o w, World.output_setCells w g o vs, Nat.le_of_eq (size_setCells g vs o w).symm, fun k _ hk => heap_setCells_far g vs o w k (fun e => hk (by rw [e]))⟩

/-- Of what was there only the blocks in S may have turned. -/
structure Only (S : Nat → Prop) (w w' : World) : Prop where
  os : w'.os = w.os
  tape : w'.tape = w.tape
  output : w'.output = w.output
  size : w.heap.size ≤ w'.heap.size
  block : ∀ k, k < w.heap.size → ¬ S k → w'.heap[k]? = w.heap[k]?

theorem Only.refl (S : Nat → Prop) (w : World) : Only S w w := ⟨rfl, rfl, rfl, Nat.le_refl _, fun _ _ _ => rfl⟩
theorem Only.trans {S : Nat → Prop} {a b c : World} (h : Only S a b) (k : Only S b c) : Only S a c :=
  ⟨k.os.trans h.os, k.tape.trans h.tape, k.output.trans h.output, Nat.le_trans h.size k.size, fun i hi hn => (k.block i (Nat.lt_of_lt_of_le hi h.size) hn).trans (h.block i hi hn)⟩
theorem Only.mono {S S' : Nat → Prop} {a b : World} (h : Only S a b) (hs : ∀ k, k < a.heap.size → S k → S' k) : Only S' a b :=
  ⟨h.os, h.tape, h.output, h.size, fun i hi hn => h.block i hi fun hs' => hn (hs i hi hs')⟩
theorem Only.below {S : Nat → Prop} {B : Nat} {a b : World} (h : Only S a b) (hB : B ≤ a.heap.size) (hs : ∀ k, k < B → ¬ S k) : Below B a b :=
  ⟨h.os, h.tape, h.output, h.size, fun i hi => h.block i (Nat.lt_of_lt_of_le hi hB) (hs i hi)⟩
theorem Only.of_below {S : Nat → Prop} {a b : World} (h : Below a.heap.size a b) : Only S a b := ⟨h.os, h.tape, h.output, h.size, fun i hi _ => h.block i hi⟩
theorem Only.of_grown {S : Nat → Prop} {a b : World} {row : Option Nat} (h : a.grownBy b row) (hs : ∀ k, row = some k → k < a.heap.size → S k) : Only S a b :=
  ⟨h.os, h.tape, h.output, h.size, fun i hi hn => h.block i hi fun e => hn (hs i e.symm hi)⟩
theorem Only.cell {S : Nat → Prop} {a b : World} (h : Only S a b) {p : Addr} (hp : p.block < a.heap.size) (hn : ¬ S p.block) : b.cell? p = a.cell? p := World.cell?_of_block (h.block _ hp hn)
theorem Only.row {S : Nat → Prop} {a b : World} (h : Only S a b) {ad : Addr} {cs : List Value} (hr : Row a ad cs) (hp : ad.block < a.heap.size) (hn : ¬ S ad.block) : Row b ad cs :=
  hr.keep fun p hpb => h.cell (by omega) (by rw [hpb]; exact hn)

/-- A slice of the call's own (or nil), by its elements' cells; it may begin inside its block, which lies from 'base' on. -/
def SL (w : World) (base : Nat) (e : TypeId) (size : Nat) (v : Value) (n : Nat) (xs : List Value) : Prop :=
  xs.length = n * size ∧ ((v = .slice none 0 0 ∧ n = 0) ∨
    ∃ g off cap cur, v = .slice (some ⟨g, off, none⟩) n cap ∧ base ≤ g ∧ w.heap[g]? = some (.cells cur e (0, 0)) ∧ n ≤ cap ∧ cap ≤ maxLen ∧ off + cap * size ≤ cur.size ∧ (cur.toList.drop off).take (n * size) = xs)

section
variable {base n size : Nat} {e : TypeId} {v : Value} {xs : List Value}

theorem SL.nil_ (w : World) (base : Nat) (e : TypeId) (size : Nat) : SL w base e size (.slice none 0 0) 0 [] := ⟨by simp, .inl ⟨rfl, rfl⟩⟩
theorem SL.mk_ {g off cap : Nat} {cur : Array Value} (hb : base ≤ g) (hg : w.heap[g]? = some (.cells cur e (0, 0))) (hn : n ≤ cap) (hc : cap ≤ maxLen) (hs : off + cap * size ≤ cur.size) :
    SL w base e size (.slice (some ⟨g, off, none⟩) n cap) n ((cur.toList.drop off).take (n * size)) := by
  refine ⟨?_, .inr ⟨g, off, cap, cur, rfl, hb, hg, hn, hc, hs, rfl⟩⟩
  rw [List.length_take, List.length_drop, Array.length_toList]
  have := Nat.mul_le_mul_right size hn
  omega
theorem SL.of_own (h : w.ownsRow base e size v n xs) : SL w base e size v n xs := by
  refine ⟨h.1, ?_⟩
  rcases h.2 with ⟨rfl, hn⟩ | ⟨g, cap, cur, rfl, hb, hg, hnc, hcm, hcs, ht⟩
  · exact .inl ⟨rfl, hn⟩
  · exact .inr ⟨g, 0, cap, cur, rfl, hb, hg, hnc, hcm, by omega, by simpa using ht⟩
theorem SL.keep (h : SL w base e size v n xs) (hk : ∀ g, v.ownBlock = some g → w'.heap[g]? = w.heap[g]?) : SL w' base e size v n xs := by
  refine ⟨h.1, ?_⟩
  rcases h.2 with ⟨rfl, hn⟩ | ⟨g, off, cap, cur, rfl, hb, hg, rest⟩
  · exact .inl ⟨rfl, hn⟩
  · exact .inr ⟨g, off, cap, cur, rfl, hb, (hk g rfl).trans hg, rest⟩
theorem SL.block_lt (h : SL w base e size v n xs) {g : Nat} (hv : v.ownBlock = some g) : g < w.heap.size ∧ base ≤ g := by
  rcases h.2 with ⟨rfl, _⟩ | ⟨g', off, cap, cur, rfl, hb, hg, _⟩
  · cases hv
  · obtain rfl : g' = g := Option.some.inj hv
    exact ⟨(Array.getElem?_eq_some_iff.1 hg).1, hb⟩
theorem SL.grown {row : Option Nat} (h : SL w base e size v n xs) (hg : w.grownBy w' row) (hr : ∀ g, v.ownBlock = some g → some g ≠ row) : SL w' base e size v n xs :=
  h.keep fun g hv => hg.block g (h.block_lt hv).1 (hr g hv)
theorem SL.below {B : Nat} (h : SL w base e size v n xs) (hb : Below B w w') (hB : ∀ g, v.ownBlock = some g → g < B) : SL w' base e size v n xs :=
  h.keep fun g hv => hb.block g (hB g hv)
theorem SL.only {S : Nat → Prop} (h : SL w base e size v n xs) (ho : Only S w w') (hs : ∀ g, v.ownBlock = some g → ¬ S g) : SL w' base e size v n xs :=
  h.keep fun g hv => ho.block g (h.block_lt hv).1 (hs g hv)
theorem SL.later (h : SL w base e size v n xs) (hb : Below w.heap.size w w') : SL w' base e size v n xs := h.below hb fun _ hv => (h.block_lt hv).1
theorem SL.drew (h : SL w base e size v n xs) : SL w.drew base e size v n xs := h
theorem SL.alloc (h : SL w base e size v n xs) (o : Obj) : SL (w.alloc o) base e size v n xs := h.keep fun g hv => Below.heap_alloc w o g (h.block_lt hv).1
theorem SL.mono {base' : Nat} (h : SL w base e size v n xs) (hb : base' ≤ base) : SL w base' e size v n xs := by
  refine ⟨h.1, ?_⟩
  rcases h.2 with h0 | ⟨g, off, cap, cur, rfl, h1, rest⟩
  · exact .inl h0
  · exact .inr ⟨g, off, cap, cur, rfl, Nat.le_trans hb h1, rest⟩
theorem SL.shape (h : SL w base e size v n xs) : ∃ A cap, v = .slice A n cap ∧ n ≤ cap ∧ cap ≤ maxLen ∧ (A = none → n = 0 ∧ cap = 0) ∧ (∀ ad, A = some ad → v.ownBlock = some ad.block ∧ Row w ad xs ∧ ad.spot = none) := by
  rcases h.2 with ⟨rfl, rfl⟩ | ⟨g, off, cap, cur, rfl, hb, hg, hnc, hcm, hs, ht⟩
  · exact ⟨none, 0, rfl, by omega, by simp, fun _ => ⟨rfl, rfl⟩, fun _ h => by cases h⟩
  · refine ⟨some ⟨g, off, none⟩, cap, rfl, hnc, hcm, fun h => by (cases h), fun ad had => ?_⟩
    obtain rfl := Option.some.inj had
    refine ⟨rfl, fun j u hu => ?_, rfl⟩
    rw [add_mk, cell_of_row w g _ cur e _ hg]
    rw [← ht, List.getElem?_take] at hu
    split at hu
    · rw [List.getElem?_drop] at hu
      simpa using hu
    · cases hu

/-- A cut of it. -/
theorem SL.cut {A : Option Addr} {cap lo hi : Nat} (h : SL w base e size (.slice A n cap) n xs) (hlo : lo ≤ hi) (hhi : hi ≤ n) :
    SL w base e size (.slice (if cap = lo then A else A.map (·.add (lo * size))) (hi - lo) (cap - lo)) (hi - lo) ((xs.drop (lo * size)).take ((hi - lo) * size)) := by
  have hlen : ((xs.drop (lo * size)).take ((hi - lo) * size)).length = (hi - lo) * size := by
    rw [List.length_take, List.length_drop, h.1, ← Nat.sub_mul]
    exact Nat.min_eq_left (Nat.mul_le_mul_right _ (by omega))
  refine ⟨hlen, ?_⟩
  rcases h.2 with ⟨hv, rfl⟩ | ⟨g, off, cap', cur, hv, hb, hg, hnc, hcm, hs, ht⟩
  · injection hv with h1 h2 h3
    subst h1; subst h3
    left
    have : lo = 0 := by omega
    subst this
    simp
    omega
  · injection hv with h1 _ h3
    subst h1; subst h3
    right
    by_cases hc : cap = lo
    · rw [if_pos hc]
      have h0 : hi - lo = 0 := by omega
      refine ⟨g, off, cap - lo, cur, rfl, hb, hg, by omega, by omega, ?_, ?_⟩
      · have := Nat.mul_le_mul_right size (show cap - lo ≤ cap by omega)
        omega
      · rw [h0]; simp
    · rw [if_neg hc]
      refine ⟨g, off + lo * size, cap - lo, cur, by simp [add_mk], hb, hg, by omega, by omega, ?_, ?_⟩
      · have := Nat.sub_mul cap lo size
        have h2 := Nat.mul_le_mul_right size (show lo ≤ cap by omega)
        omega
      · rw [← ht]
        apply List.ext_getElem?
        intro j
        simp only [List.getElem?_take, List.getElem?_drop]
        by_cases hj : j < (hi - lo) * size
        · have hjn : lo * size + j < n * size := by
            have h2 := Nat.sub_mul hi lo size
            have h3 := Nat.mul_le_mul_right size hhi
            have h4 := Nat.mul_le_mul_right size hlo
            omega
          rw [if_pos hj, if_pos hj, if_pos hjn, Nat.add_assoc]
        · rw [if_neg hj, if_neg hj]

/-- What is appended: a slice that reads as these cells, nil let in. -/
theorem src_of_row {tx e' : TypeId} (hk : P.underlying tx = some (.slice e')) {A : Option Addr} {m c : Nat} {news : List Value} (hl : news.length = m * size) (hA : A = none → m = 0) (hr : ∀ ad, A = some ad → Row w ad news) (h1 : ∀ u ∈ news, u.oneCell' = true) :
    Src P size tx (.slice A m c) m news w := by
  cases A with
  | none =>
    have h0 := hA rfl
    subst h0
    obtain rfl : news = [] := List.eq_nil_of_length_eq_zero (by simpa using hl)
    exact Src.ofNil w hk c
  | some ad => exact Src.ofSlice w hk ad m c news hl (hr ad rfl) h1

theorem run_append_SL (t tx ty : TypeId) (i : TypeInfo) (z : Value) (bytes : Nat) (ht : P.underlying t = some (.slice e)) (hi : P.info? e = some i) (hz : i.zero = some z)
    (hsize : i.size = size) (hby : i.bytes = bytes) (hzs : z.cells.size = size) (hsz : 0 < size) (hown : SL w base e size v n xs)
    (x : Value) (m : Nat) (news : List Value) (hs : Src P size tx x m news w) (h63 : n + m ≤ maxLen) (hbytes : (n + m) * bytes ≤ 140737488355328) (hbase : base ≤ w.heap.size) :
    ∃ v' w', (Builtin.append_ #[t, tx] ty #[v, x]).run P w = .ok v' w' ∧ SL w' base e size v' (n + m) (xs ++ news) ∧ w.grownBy w' v.ownBlock ∧ (v'.ownBlock = v.ownBlock ∨ v'.ownBlock = some w.heap.size) := by
  subst hsize
  subst hby
  have hl := hs.newsLen
  have hsmall : n + m ≤ 9223372036854775807 := by simp only [maxLen] at h63; omega
  have hlen : (xs ++ news).length = (n + m) * i.size := by rw [List.length_append, hown.1, hl, Nat.add_mul]
  have grown : ∀ (old : Nat), old < n + m → ∀ (row : Option Nat),
      SL (w.drew.alloc (.cells ((xs ++ news).toArray ++ Builtin.zeroCells z.cells (grownCap w (n + m) old e - (n + m))) e)) base e i.size
        (.slice (some ⟨w.heap.size, 0, none⟩) (n + m) (grownCap w (n + m) old e)) (n + m) (xs ++ news) ∧
      w.grownBy (w.drew.alloc (.cells ((xs ++ news).toArray ++ Builtin.zeroCells z.cells (grownCap w (n + m) old e - (n + m))) e)) row := by
    intro old ho row
    have hge := grownCap_ge w (n + m) old e
    have hcm : grownCap w (n + m) old e ≤ maxLen := grownCap_le_maxLen w (n + m) old e h63
    refine ⟨⟨hlen, .inr ⟨w.heap.size, 0, _, _, rfl, hbase, heap_alloc_new w.drew _, hge, hcm, ?_, ?_⟩⟩, ⟨rfl, rfl, rfl, by simp, fun k hk _ => Below.heap_alloc w.drew _ k hk⟩⟩
    · simp only [Array.size_append, List.size_toArray, size_zeroCells, hzs, hlen, ← Nat.add_mul, Nat.zero_add]
      exact Nat.le_of_eq (by congr 1; omega)
    · simp only [Array.toList_append, List.drop_zero]
      rw [← hlen]
      exact List.take_left
  rcases hown.2 with ⟨rfl, rfl⟩ | ⟨g, off, cap, cur, rfl, hbg, hg, hnc, hcm, hcs, htake⟩
  · obtain rfl : xs = [] := List.eq_nil_of_length_eq_zero (by simpa using hown.1)
    by_cases hm : m = 0
    · subst hm
      obtain rfl : news = [] := List.eq_nil_of_length_eq_zero (by simpa using hl)
      exact ⟨_, w, run_append_nothing (P := P) w t tx ty e i ht hi none 0 0 (Nat.le_refl _) x hs, SL.nil_ w base e _, ⟨rfl, rfl, rfl, Nat.le_refl _, fun _ _ _ => rfl⟩, .inl rfl⟩
    · have hr := run_append_grow_src (P := P) (w := w) t tx ty e i z ht hi hz none 0 0 [] (by simp [Builtin.firstCells]) x m news hs (by omega) (by omega) (growslice_fits (by omega) hbytes)
      have hgr := grown 0 (by omega) (Value.ownBlock (.slice none 0 0))
      exact ⟨_, _, hr, hgr.1, hgr.2, .inr rfl⟩
  · by_cases hroom : n + m ≤ cap
    · have hfit : off + n * i.size + news.length ≤ cur.size := by
        have := Nat.mul_le_mul_right i.size hroom
        rw [Nat.add_mul] at this
        omega
      have hr := run_append_room_src (P := P) (w := w) t tx ty e i ht hi g off n cap x m news hs hroom
        (fun j hj => by rw [cell_of_row w g _ cur e _ hg]; simp; omega) (fun j _ => frozen_of_row w g _ cur e hg)
      have hnew := heap_setCells_same g e (0, 0) news (off + n * i.size) cur w hg hfit
      refine ⟨_, _, hr, ⟨hlen, .inr ⟨g, off, cap, _, rfl, hbg, hnew, hroom, hcm, ?_, ?_⟩⟩, grown_setCells g news _ w, .inl rfl⟩
      · simp only [List.size_toArray, List.length_append, List.length_take, List.length_drop, Array.length_toList]
        omega
      · have h1 : (cur.toList.take (off + n * i.size) ++ news ++ cur.toList.drop (off + n * i.size + news.length)).drop off = xs ++ news ++ cur.toList.drop (off + n * i.size + news.length) := by
          rw [List.append_assoc, List.drop_append_of_le_length (by simp; omega), List.drop_take, Nat.add_sub_cancel_left, htake, List.append_assoc]
        simp only
        rw [h1, ← hlen]
        exact List.take_left
    · have hrow : Row w ⟨g, off, none⟩ xs := (hown.shape.elim fun A ⟨c, hv, _, _, _, h⟩ => by
        injection hv with hA
        exact (h _ hA.symm).2.1)
      have hf : (Builtin.firstCells i.size n (.slice (some ⟨g, off, none⟩) n cap)).run P w.drew = .ok xs.toArray w.drew := by
        have := run_loadCells_list (P := P) w.drew ⟨g, off, none⟩ xs hrow
        rw [hown.1] at this
        simpa [Builtin.firstCells] using this
      have hr := run_append_grow_src (P := P) (w := w) t tx ty e i z ht hi hz (some ⟨g, off, none⟩) n cap xs hf x m news hs (by omega) (by omega) (growslice_fits (by omega) hbytes)
      have hgr := grown cap (by omega) (Value.ownBlock (.slice (some ⟨g, off, none⟩) n cap))
      exact ⟨_, _, hr, hgr.1, hgr.2, .inr rfl⟩

/-- append at the operation, in the walk. -/
theorem wpList_append_SL {ops : Array Oper} {rest : List Oper} {o : Oper} {a : Act} {Q : Exit → Act → World → Prop} (hgd : o.guard = none) (s x : Operand) (t tx : TypeId)
    (ho : o.op = .call { callee := .builtin .append, args := #[s, x], argTypes := #[t, tx] })
    (base : Nat) (e : TypeId) (i : TypeInfo) (z : Value) (size bytes : Nat) (ht : P.underlying t = some (.slice e)) (hi : P.info? e = some i) (hz : i.zero = some z)
    (hsize : i.size = size) (hby : i.bytes = bytes) (hzs : z.cells.size = size) (hsz : 0 < size)
    (v : Value) (n : Nat) (xs : List Value) (hs : a.eval s = v) (hown : SL w base e size v n xs)
    (xv : Value) (m : Nat) (news : List Value) (hx : a.eval x = xv) (hsrc : Src P size tx xv m news w)
    (h63 : n + m ≤ maxLen) (hbytes : (n + m) * bytes ≤ 140737488355328) (hbase : base ≤ w.heap.size)
    (h : ∀ v' w', SL w' base e size v' (n + m) (xs ++ news) → w.grownBy w' v.ownBlock → (v'.ownBlock = v.ownBlock ∨ v'.ownBlock = some w.heap.size) → wpList P ops Q rest (a.put o.dst v') w') :
    wpList P ops Q (o :: rest) a w := by
  refine wpList_plain hgd fun K hK => ?_
  obtain ⟨v', w', hr, h2, h3, h4⟩ := run_append_SL (P := P) t tx o.type i z bytes ht hi hz hsize hby hzs hsz hown xv m news hsrc h63 hbytes hbase
  unfold Oper.wp execOp
  simp only [ho, resolve, invoke, builtin, Sem.run_bind, Sem.run_pure, Result.andThen_ok, List.map_toArray, List.map_cons, List.map_nil, hs, hx, hr]
  exact hK _ _ (h v' w' h2 h3 h4)

/-- The same, as one step of a region that draws its order. -/
theorem step_append_SL {ops : Array Oper} {o : Oper} {a : Act} {K : Act → World → Prop} {Q : Exit → Act → World → Prop} {E : Prop} (hgd : o.guard = none) (s x : Operand) (t tx : TypeId)
    (ho : o.op = .call { callee := .builtin .append, args := #[s, x], argTypes := #[t, tx] })
    (base : Nat) (e : TypeId) (i : TypeInfo) (z : Value) (size bytes : Nat) (ht : P.underlying t = some (.slice e)) (hi : P.info? e = some i) (hz : i.zero = some z)
    (hsize : i.size = size) (hby : i.bytes = bytes) (hzs : z.cells.size = size) (hsz : 0 < size)
    (v : Value) (n : Nat) (xs : List Value) (hs : a.eval s = v) (hown : SL w base e size v n xs)
    (xv : Value) (m : Nat) (news : List Value) (hx : a.eval x = xv) (hsrc : Src P size tx xv m news w)
    (h63 : n + m ≤ maxLen) (hbytes : (n + m) * bytes ≤ 140737488355328) (hbase : base ≤ w.heap.size)
    (h : ∀ v' w', SL w' base e size v' (n + m) (xs ++ news) → w.grownBy w' v.ownBlock → (v'.ownBlock = v.ownBlock ∨ v'.ownBlock = some w.heap.size) → K (a.put o.dst v') w') :
    if Region.wanted o (yielded ops a.tmps) = true then Oper.wp P o a w K Q else E := by
  rw [if_pos (by simp [Region.wanted, hgd])]
  obtain ⟨v', w', hr, h2, h3, h4⟩ := run_append_SL (P := P) t tx o.type i z bytes ht hi hz hsize hby hzs hsz hown xv m news hsrc h63 hbytes hbase
  unfold Oper.wp execOp
  simp only [ho, resolve, invoke, builtin, Sem.run_bind, Sem.run_pure, Result.andThen_ok, List.map_toArray, List.map_cons, List.map_nil, hs, hx, hr]
  exact h v' w' h2 h3 h4
end
end
end Go.Proofs.Ytnmmeccbpcichaa
