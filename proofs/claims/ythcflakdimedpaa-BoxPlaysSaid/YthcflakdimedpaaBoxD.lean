/-
  The walk of BoxPlays. Conditions: the arguments read as data.
-/
import Derived.Test.YthcflakdimedpaaBoxC
import Derived.LoopTactic
import Derived.Deep.RegionLaw
namespace Go.Proofs.Ythcflakdimedpaa
open Go.RowKit Go.Conc

/-- A call of the law's list. -/
structure OpB where
  kind : Int
  n : Int
  A : Option Addr
  cap : Nat
  l : List Int
def OpB.cs (x : OpB) : List Value := [.int .i64 x.kind, .int .i64 x.n, .slice x.A x.l.length x.cap]
structure OpB.Ok (w : World) (x : OpB) : Prop where
  row : Ints w x.A x.l
  n0 : -9223372036854775808 ≤ x.n
  n1 : x.n ≤ 9223372036854775807
  len : x.l.length ≤ x.cap
  cap : x.cap ≤ maxLen
  lt : ∀ ad, x.A = some ad → x.l ≠ [] → ad.block < w.heap.size

structure OpsB (w : World) (A : Option Addr) (len : Nat) (l : List OpB) : Prop where
  len : len = l.length
  bd : l.length ≤ maxLen
  at_ : ∀ i x, l[i]? = some x → ∃ ad, A = some ad ∧ ad.block < w.heap.size ∧ Row w (ad.add (i * 3)) x.cs ∧ x.Ok w

theorem isAgg_opb : IsAgg Try.prog 28 3 := ⟨_, Try.underlying28, rfl, by kernel_rfl⟩

theorem SL.ne_chan {w : World} {base n size c cap : Nat} {e : TypeId} {v : Value} {xs : List Value} {buf : Array Value} {cl : Bool} {s r : Nat} {tm : Bool} (h : SL w base e size v n xs) (hc : w.heap[c]? = some (.chan cap buf cl s r tm)) : v.ownBlock ≠ some c := by
  rcases h.2 with ⟨rfl, _⟩ | ⟨g, off, cap', cur, rfl, _, hg, _⟩
  · intro h; cases h
  · intro h
    obtain rfl : g = c := Option.some.inj h
    rw [hg] at hc; cases hc
theorem SL.ne_cells {w : World} {base n size g t : Nat} {e : TypeId} {v : Value} {xs : List Value} {cs : Array Value} (h : SL w base e size v n xs) (hc : w.heap[g]? = some (.cells cs t (0, 0))) (hne : e ≠ t) : v.ownBlock ≠ some g := by
  rcases h.2 with ⟨rfl, _⟩ | ⟨g', off, cap', cur, rfl, _, hg, _⟩
  · intro h; cases h
  · intro h
    obtain rfl : g' = g := Option.some.inj h
    rw [hg] at hc
    injection hc with hc
    injection hc with _ h2
    exact hne h2

/-- What holds of the law on its way: the boxes have va', wb', the slices va, wb. -/
structure PI (w0 wr : World) (ga ca gb cb most other : Nat) (vv ww : Value) (va wb va' wb' : List Int) : Prop where
  boxA : IsBox wr ga ca most va'
  boxB : IsBox wr gb cb other wb'
  d1 : gb ≠ ca
  d2 : cb ≠ ca
  d3 : ga ≠ cb
  slv : SLi wr w0.heap.size vv va
  slw : SLi wr w0.heap.size ww wb
  apart : ∀ g, vv.ownBlock = some g → ww.ownBlock ≠ some g
  ga0 : w0.heap.size ≤ ga
  ca0 : w0.heap.size ≤ ca
  gb0 : w0.heap.size ≤ gb
  cb0 : w0.heap.size ≤ cb
  below : Below w0.heap.size w0 wr

section
variable {w0 wr wr' : World} {ga ca gb cb most other : Nat} {vv ww : Value} {va wb va' wb' : List Int}

theorem PI.chans (h : PI w0 wr ga ca gb cb most other vv ww va wb va' wb') {k : Nat} (hk : k = ca ∨ k = cb) : vv.ownBlock ≠ some k ∧ ww.ownBlock ≠ some k := by
  obtain ⟨s, r, h1⟩ := h.boxA.chan
  obtain ⟨s', r', h2⟩ := h.boxB.chan
  rcases hk with rfl | rfl
  · exact ⟨SL.ne_chan h.slv h1, SL.ne_chan h.slw h1⟩
  · exact ⟨SL.ne_chan h.slv h2, SL.ne_chan h.slw h2⟩
theorem PI.boxes (h : PI w0 wr ga ca gb cb most other vv ww va wb va' wb') {k : Nat} (hk : k = ga ∨ k = gb) : vv.ownBlock ≠ some k ∧ ww.ownBlock ≠ some k := by
  rcases hk with rfl | rfl
  · exact ⟨SL.ne_cells h.slv h.boxA.box (by decide), SL.ne_cells h.slw h.boxA.box (by decide)⟩
  · exact ⟨SL.ne_cells h.slv h.boxB.box (by decide), SL.ne_cells h.slw h.boxB.box (by decide)⟩

/-- New blocks alone. -/
theorem PI.later (h : PI w0 wr ga ca gb cb most other vv ww va wb va' wb') (hb : Below wr.heap.size wr wr') : PI w0 wr' ga ca gb cb most other vv ww va wb va' wb' :=
  ⟨h.boxA.keep (hb.block _ h.boxA.lt.1) (hb.block _ h.boxA.lt.2), h.boxB.keep (hb.block _ h.boxB.lt.1) (hb.block _ h.boxB.lt.2), h.d1, h.d2, h.d3, SL.later h.slv hb, SL.later h.slw hb, h.apart, h.ga0, h.ca0, h.gb0, h.cb0, h.below.trans (hb.mono h.below.size)⟩

/-- The boxes have turned. -/
theorem PI.box {xa xb : List Int} (h : PI w0 wr ga ca gb cb most other vv ww va wb va' wb') (ho : Only (fun k => k = ca ∨ k = cb) wr wr') (hA : IsBox wr' ga ca most xa) (hB : IsBox wr' gb cb other xb) :
    PI w0 wr' ga ca gb cb most other vv ww va wb xa xb :=
  ⟨hA, hB, h.d1, h.d2, h.d3, SL.only h.slv ho fun g hg hk => (h.chans hk).1 hg, SL.only h.slw ho fun g hg hk => (h.chans hk).2 hg, h.apart, h.ga0, h.ca0, h.gb0, h.cb0, h.below.trans (ho.below h.below.size fun k hk hs => by
    have := h.ca0
    have := h.cb0
    rcases hs with rfl | rfl <;> omega)⟩

/-- The first slice is another. -/
theorem PI.setv {v' : Value} {xa : List Int} (h : PI w0 wr ga ca gb cb most other vv ww va wb va' wb') (ho : Only (fun k => vv.ownBlock = some k) wr wr') (hv : SLi wr' w0.heap.size v' xa)
    (hob : ∀ g, v'.ownBlock = some g → vv.ownBlock = some g ∨ wr.heap.size ≤ g) : PI w0 wr' ga ca gb cb most other v' ww xa wb va' wb' := by
  have c1 := (h.chans (.inl rfl)).1
  have c2 := (h.chans (.inr rfl)).1
  have c3 := (h.boxes (.inl rfl)).1
  have c4 := (h.boxes (.inr rfl)).1
  refine ⟨h.boxA.keep (ho.block _ h.boxA.lt.1 c3) (ho.block _ h.boxA.lt.2 c1), h.boxB.keep (ho.block _ h.boxB.lt.1 c4) (ho.block _ h.boxB.lt.2 c2), h.d1, h.d2, h.d3, hv, SL.only h.slw ho fun g hg hk => h.apart g hk hg, fun g hg hw => ?_, h.ga0, h.ca0, h.gb0, h.cb0,
    h.below.trans (ho.below h.below.size fun k hk hs => by have := (SL.block_lt h.slv hs).2; omega)⟩
  rcases hob g hg with h1 | h1
  · exact h.apart g h1 hw
  · have := (SL.block_lt h.slw hw).1
    omega

/-- The second slice is another. -/
theorem PI.setw {v' : Value} {xb : List Int} (h : PI w0 wr ga ca gb cb most other vv ww va wb va' wb') (ho : Only (fun k => ww.ownBlock = some k) wr wr') (hv : SLi wr' w0.heap.size v' xb)
    (hob : ∀ g, v'.ownBlock = some g → ww.ownBlock = some g ∨ wr.heap.size ≤ g) : PI w0 wr' ga ca gb cb most other vv v' va xb va' wb' := by
  have c1 := (h.chans (.inl rfl)).2
  have c2 := (h.chans (.inr rfl)).2
  have c3 := (h.boxes (.inl rfl)).2
  have c4 := (h.boxes (.inr rfl)).2
  refine ⟨h.boxA.keep (ho.block _ h.boxA.lt.1 c3) (ho.block _ h.boxA.lt.2 c1), h.boxB.keep (ho.block _ h.boxB.lt.1 c4) (ho.block _ h.boxB.lt.2 c2), h.d1, h.d2, h.d3, SL.only h.slv ho fun g hg hk => h.apart g hg hk, hv, fun g hg hw => ?_, h.ga0, h.ca0, h.gb0, h.cb0,
    h.below.trans (ho.below h.below.size fun k hk hs => by have := (SL.block_lt h.slw hs).2; omega)⟩
  rcases hob g hw with h1 | h1
  · exact h.apart g hg h1
  · have := (SL.block_lt h.slv hg).1
    omega
end

/-- What holds at a round's head. -/
structure Head (w0 wr : World) (ga ca gb cb most other : Nat) (vv ww : Value) : Prop where
  ex : ∃ va wb : List Int, PI w0 wr ga ca gb cb most other vv ww va wb va wb ∧ va.length ≤ most ∧ wb.length ≤ other

end Go.Proofs.Ythcflakdimedpaa
