/-
  RecentOnce's state: the pure law of one op, and the worlds between two ops. Conditions: as each theorem says.
-/
import Derived.Test.YtnmmeccbpcichaaRecW
import Derived.Test.YtnmmeccbpcichaaRecO
namespace Go.Proofs.Ytnmmeccbpcichaa
open Go.RowKit

/-- An op: its kind and its key. -/
structure OpK where
  kind : Int
  key : KeyI

theorem after_wo {α : Type} [DecidableEq α] {k x a : α} (hne : a ≠ k) : ∀ {l : List α}, x ∈ after k (wo a l) → x ∈ after k l
  | [], h => h
  | y :: r, h => by
    unfold wo at h
    rw [List.filter_cons] at h
    rw [after]
    split at h
    · rw [after] at h
      split
      · rename_i e
        rw [if_pos e] at h
        exact (List.mem_filter.1 h).1
      · rename_i e
        rw [if_neg e] at h
        exact after_wo hne h
    · rename_i e
      have e : y = a := by simpa using e
      rw [if_neg (fun e' => hne (e.symm.trans e'))]
      exact after_wo hne h
theorem not_mem_wo {α : Type} [DecidableEq α] (k : α) (l : List α) : k ∉ wo k l := fun h => by simpa [wo] using (List.mem_filter.1 h).2
theorem mem_wo {α : Type} [DecidableEq α] {k x : α} {l : List α} (hne : x ≠ k) : x ∈ wo k l ↔ x ∈ l := by
  unfold wo
  rw [List.mem_filter]
  simp [hne]
theorem Once.wo {α : Type} [DecidableEq α] {k a : α} {ks since : List α} {on : Bool} (h : Once k ks since on) : Once k (wo a ks) since on := by
  by_cases e : a = k
  · subst e
    exact ⟨h.no, fun _ x hx => by rw [after_not (not_mem_wo a ks)] at hx; cases hx⟩
  · exact ⟨h.no, fun ho x hx => h.be ho x (after_wo e hx)⟩
theorem after_at {α : Type} [DecidableEq α] {k x : α} : ∀ {l : List α} {j : Nat}, k ∈ l.take j → l[j]? = some x → x ∈ after k l
  | [], j, h, _ => by simp at h
  | y :: r, 0, h, _ => by simp at h
  | y :: r, j + 1, h, hx => by
    rw [after]
    split
    · exact List.mem_of_getElem? (by simpa using hx)
    · rename_i e
      refine after_at (j := j) ?_ (by simpa using hx)
      rw [List.take_succ_cons, List.mem_cons] at h
      rcases h with h | h
      · exact absurd h.symm e
      · exact h

/-- What the law asks behind an op. -/
def OnC (k : KeyI) (x : OpK) (ks since : List KeyI) : Prop := x.key = k ∧ x.kind ≤ 1 ∧ k ∈ ks ∧ (x.kind = 1 ∨ since.getLast? = some k)
/-- What is left of it. -/
structure Mid (k : KeyI) (x : OpK) (on : Bool) (ks since : List KeyI) : Prop where
  yes : OnC k x ks since → Once k ks [] true
  no : ¬ OnC k x ks since → Once k ks since on
theorem mid_same {k : KeyI} {x : OpK} {on : Bool} {ks since : List KeyI} (h : Once k ks since on) (hx : x.kind = 1 → x.key ∉ ks) : Mid k x on ks since :=
  ⟨fun c => by
    obtain ⟨c1, _, c3, c4⟩ := c
    rcases c4 with c4 | c4
    · exact absurd (c1 ▸ c3) (hx c4)
    · exact absurd (List.mem_of_getLast? c4) h.no, fun _ => h⟩
theorem mid_add {k : KeyI} {x : OpK} {on : Bool} {ks since : List KeyI} (h : Once k ks since on) (h0 : x.kind = 0) (hx : x.key ∉ ks) : Mid k x on (ks ++ [x.key]) (since ++ [x.key]) := by
  by_cases e : x.key = k
  · exact ⟨fun _ => e ▸ Once.last hx true, fun hn => absurd ⟨e, by omega, by simp [e], Or.inr (by simp [e])⟩ hn⟩
  · exact ⟨fun c => absurd c.1 e, fun _ => h.add e⟩
theorem mid_touch {k : KeyI} {x : OpK} {on : Bool} {ks since : List KeyI} (h : Once k ks since on) (h1 : x.kind = 1) : Mid k x on (wo x.key ks ++ [x.key]) (since ++ [x.key]) := by
  by_cases e : x.key = k
  · refine ⟨fun _ => ?_, fun hn => absurd ⟨e, by omega, by simp [e], Or.inl h1⟩ hn⟩
    rw [e]
    exact Once.last (not_mem_wo k ks) true
  · exact ⟨fun c => absurd c.1 e, fun _ => h.wo.add e⟩
theorem mid_remove {k : KeyI} {x : OpK} {on : Bool} {ks since : List KeyI} (h : Once k ks since on) (h2 : x.kind = 2) : Mid k x on (wo x.key ks) since :=
  ⟨fun c => by have := c.2.1; omega, fun _ => h.wo⟩

/-- The worlds between two ops. -/
structure On (w0 : World) (p : Nat) (ks : List KeyI) (v : Value) (since : List KeyI) (n : Nat) (w : World) : Prop where
  out : ∃ F, Lst kitI w p 40 ks F ∧ (∀ i, F i → w0.heap.size ≤ i ∧ i < w.heap.size) ∧ (∀ g, v.ownBlock = some g → ¬ F g)
  own : OwnI w w0.heap.size v since
  sl : since.length ≤ n
  bel : Below w0.heap.size w0 w
/-- .. within one. -/
structure OnB (w0 : World) (p b : Nat) (x : OpK) (ks : List KeyI) (v : Value) (since : List KeyI) (n : Nat) (w : World) : Prop where
  out : ∃ F, Lst kitI w p 40 ks F ∧ (∀ i, F i → w0.heap.size ≤ i ∧ i < w.heap.size) ∧ (∀ g, v.ownBlock = some g → ¬ F g) ∧ ¬ F b
  own : OwnI w w0.heap.size v since
  box : w.heap[b]? = some (.cells #[.int .i64 x.kind, .int .i64 x.key.1] 28 (0, 0))
  bs : v.ownBlock ≠ some b
  sl : since.length ≤ n
  bel : Below w0.heap.size w0 w

theorem OnB.toOn {w0 w : World} {p b : Nat} {x : OpK} {ks since : List KeyI} {v : Value} {n : Nat} (h : OnB w0 p b x ks v since n w) : On w0 p ks v since n w := by
  obtain ⟨F, h1, h2, h3, _⟩ := h.out
  exact ⟨⟨F, h1, h2, h3⟩, h.own, h.sl, h.bel⟩
theorem On.open_ {w0 w : World} {p : Nat} {x : OpK} {ks since : List KeyI} {v : Value} {n : Nat} (h : On w0 p ks v since n w) : OnB w0 p w.heap.size x ks v since n (w.alloc (.cells #[.int .i64 x.kind, .int .i64 x.key.1] 28)) := by
  obtain ⟨F, h1, h2, h3⟩ := h.out
  have hb : Below w.heap.size w (w.alloc (.cells #[.int .i64 x.kind, .int .i64 x.key.1] 28)) := (Below.refl _ _).alloc (Nat.le_refl _) _
  refine ⟨⟨F, h1.below hb, fun i hi => ⟨(h2 i hi).1, by have := (h2 i hi).2; simp; omega⟩, h3, fun hf => by have := (h2 _ hf).2; omega⟩, h.own.below hb, heap_alloc_new _ _, fun e => ?_, h.sl, h.bel.trans (hb.mono h.bel.size)⟩
  have := (h.own.lt e).2
  omega
theorem OnB.below {w0 w w' : World} {p b : Nat} {x : OpK} {ks since : List KeyI} {v : Value} {n : Nat} (h : OnB w0 p b x ks v since n w) (hb : Below w.heap.size w w') : OnB w0 p b x ks v since n w' := by
  obtain ⟨F, h1, h2, h3, h4⟩ := h.out
  exact ⟨⟨F, h1.below hb, fun i hi => ⟨(h2 i hi).1, Nat.lt_of_lt_of_le (h2 i hi).2 hb.size⟩, h3, h4⟩, h.own.below hb, (hb.block b (lt_of_block h.box)).trans h.box, h.bs, h.sl, h.bel.trans (hb.mono h.bel.size)⟩
theorem OnB.drewN {w0 w : World} {p b : Nat} {x : OpK} {ks since : List KeyI} {v : Value} {n : Nat} (h : OnB w0 p b x ks v since n w) (j : Nat) : OnB w0 p b x ks v since n (w.drewN j) :=
  h.below ⟨rfl, rfl, rfl, Nat.le_refl _, fun _ _ => rfl⟩
theorem OnB.more {w0 w : World} {p b : Nat} {x : OpK} {ks since : List KeyI} {v : Value} {n m : Nat} (h : OnB w0 p b x ks v since n w) (hm : n ≤ m) : OnB w0 p b x ks v since m w := ⟨h.out, h.own, h.box, h.bs, Nat.le_trans h.sl hm, h.bel⟩
/-- A call of the list's turned it. -/
theorem OnB.list {w0 w w' : World} {p b : Nat} {x : OpK} {ks ks' since : List KeyI} {v : Value} {n : Nat} {F : Nat → Prop} (h : OnB w0 p b x ks v since n w) (h2 : ∀ i, F i → w0.heap.size ≤ i ∧ i < w.heap.size) (h3 : ∀ g, v.ownBlock = some g → ¬ F g) (h4 : ¬ F b)
    (hl : Lst kitI w' p 40 ks' (fx F w w')) (o : Only F w w') : OnB w0 p b x ks' v since n w' := by
  have hb := lt_of_block h.box
  refine ⟨⟨fx F w w', hl, fun i hi => ?_, fun g hg hf => ?_, fun hf => ?_⟩, h.own.keep fun g hg => o.block g (h.own.lt hg).2 (h3 g hg), (o.block b hb h4).trans h.box, h.bs, h.sl, h.bel.trans (o.below h.bel.size fun i hi hf => by have := (h2 i hf).1; omega)⟩
  · rcases hi with hi | hi
    · exact ⟨(h2 i hi).1, Nat.lt_of_lt_of_le (h2 i hi).2 o.size⟩
    · exact ⟨Nat.le_trans h.bel.size hi.1, hi.2⟩
  · rcases hf with hf | hf
    · exact h3 g hg hf
    · have := (h.own.lt hg).2; omega
  · rcases hf with hf | hf
    · exact h4 hf
    · omega
/-- A number more in the row. -/
theorem OnB.push {w0 w w2 : World} {p b : Nat} {x : OpK} {ks since : List KeyI} {v v' : Value} {n : Nat} (y : KeyI) (h : OnB w0 p b x ks v since n w) (T : TypeId)
    (hown : w2.ownsRow w0.heap.size 3 1 v' (since.length + 1) (intsV since ++ [.int .i64 y.1])) (hg : (w.alloc (.cells #[.int .i64 y.1] T)).grownBy w2 v.ownBlock) (hloc : v'.ownBlock = v.ownBlock ∨ v'.ownBlock = some (w.alloc (.cells #[.int .i64 y.1] T)).heap.size) : OnB w0 p b x ks v' (since ++ [y]) (n + 1) w2 := by
  obtain ⟨F, h1, h2, h3, h4⟩ := h.out
  have hb := lt_of_block h.box
  have hb1 : Below w.heap.size w (w.alloc (.cells #[.int .i64 y.1] T)) := (Below.refl _ _).alloc (Nat.le_refl _) _
  have hsz : w.heap.size < w2.heap.size := by have := hg.size; simp at this; omega
  have hkeep : ∀ i, i < w.heap.size → v.ownBlock ≠ some i → w2.heap[i]? = w.heap[i]? := fun i hi hne => (hg.block i (by simp; omega) (fun e => hne e.symm)).trans (hb1.block i hi)
  refine ⟨⟨F, h1.keep fun i hf hi => hkeep i hi (fun e => h3 i e hf), fun i hi => ⟨(h2 i hi).1, by have := (h2 i hi).2; omega⟩, fun g hgv hf => ?_, h4⟩, ?_, (hkeep b hb (h.bs)).trans h.box, fun e => ?_, by have := h.sl; simp; omega, h.bel.trans ⟨(hg.os).trans hb1.os, hg.tape.trans hb1.tape, hg.output.trans hb1.output, by have := h.bel.size; omega, fun i hi => hkeep i (Nat.lt_of_lt_of_le hi h.bel.size) (fun e => by have := (h.own.lt e).1; omega)⟩⟩
  · rcases hloc with e | e
    · exact h3 g (e ▸ hgv) hf
    · rw [e] at hgv
      have := (h2 g hf).2
      have := Option.some.inj hgv
      simp at this
      omega
  · unfold OwnI
    simpa [intsV] using hown
  · rcases hloc with e' | e'
    · exact h.bs (e'.symm.trans e)
    · rw [e'] at e
      have := Option.some.inj e
      simp at this
      omega
/-- The row begun anew. -/
theorem OnB.reset {w0 w : World} {p b : Nat} {x : OpK} {ks since : List KeyI} {v : Value} {n : Nat} (h : OnB w0 p b x ks v since n w) : OnB w0 p b x ks (.slice (some ⟨w.heap.size, 0, none⟩) 0 0) [] n (w.alloc (.cells #[] 3)) := by
  obtain ⟨F, h1, h2, _, h4⟩ := h.out
  have hb : Below w.heap.size w (w.alloc (.cells #[] 3)) := (Below.refl _ _).alloc (Nat.le_refl _) _
  have hbx := lt_of_block h.box
  refine ⟨⟨F, h1.below hb, fun i hi => ⟨(h2 i hi).1, Nat.lt_of_lt_of_le (h2 i hi).2 hb.size⟩, fun g hg hf => ?_, h4⟩, OwnI.empty h.bel.size, (hb.block b hbx).trans h.box, fun e => ?_, Nat.zero_le _, h.bel.trans (hb.mono h.bel.size)⟩
  · have e : w.heap.size = g := Option.some.inj hg
    have := (h2 g hf).2
    omega
  · have e : w.heap.size = b := Option.some.inj e
    omega

/-- The ops that came in. -/
structure OpsR (w : World) (B : Nat) (a : Option Addr) (len : Nat) (l : List OpK) : Prop where
  len : len = l.length
  at_ : ∀ i x, l[i]? = some x → ∃ ad, a = some ad ∧ ad.block < B ∧ Row w (ad.add (i * 2)) [.int .i64 x.kind, .int .i64 x.key.1]
theorem OpsR.below {w w' : World} {B : Nat} {a : Option Addr} {len : Nat} {l : List OpK} (h : OpsR w B a len l) (hb : Below B w w') : OpsR w' B a len l :=
  ⟨h.len, fun i x hx => by
    obtain ⟨ad, e, hl, hr⟩ := h.at_ i x hx
    exact ⟨ad, e, hl, hr.below hb (by rw [add_block]; exact hl)⟩⟩
theorem aggOp : IsAgg Try.prog 28 2 := ⟨_, Try.underlying28, rfl, by kernel_rfl⟩
end Go.Proofs.Ytnmmeccbpcichaa
