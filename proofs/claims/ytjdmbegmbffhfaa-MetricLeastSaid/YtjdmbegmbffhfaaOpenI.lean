/-
  An id read as data, opened. Conditions: as the theorem says.
-/
import Derived.Test.YtjdmbegmbffhfaaOpenB
import Derived.OpenShut
namespace Go.Proofs.Ytjdmbegmbffhfaa
open Go.ChangeShapes Go.WideShapes Go.ChangeAt Go.RowKit Go.Deep

section
variable {H : Type} {enc : TypeId × Value → H} {w : World} {base : Nat} {spare : Nat → Bool} {held : Bool}

theorem all_bytes {l : List Value} {n : Nat} (hn : l.length = n) (h : ∀ i, i < n → ∃ y : UInt8, l[i]? = some (byteV y)) : ∃ m : List UInt8, m.length = n ∧ l = bytesV m := by
  induction l generalizing n with
  | nil => exact ⟨[], hn, rfl⟩
  | cons v l ih =>
    subst hn
    obtain ⟨y, hy⟩ := h 0 (by simp)
    obtain ⟨m, hm, rfl⟩ := ih rfl fun i hi => by
      have := h (i + 1) (by simp; omega)
      simpa using this
    simp only [List.getElem?_cons_zero, Option.some.injEq] at hy
    subst hy
    exact ⟨y :: m, by simp [hm], rfl⟩

theorem open_IDcells {fuel : Nat} {cs : List Value} {x : DataW H × List MemPlace} (h : DataW.trod enc Try.prog w base spare held fuel 32 cs = some x) : ∃ l : List UInt8, l.length = 20 ∧ cs = bytesV l := by
  obtain ⟨xs, m, _, _, hlen, hxl, hf⟩ := DataW.trod_array Try.underlying32 h
  have h20 : cs.length = 20 := hlen.trans (by kernel_rfl)
  refine all_bytes h20 fun i hi => ?_
  have c1 : Try.prog.cellsOf 5 = 1 := by kernel_rfl
  have hfi := hf i hi
  rw [c1, Nat.mul_one, List.getElem?_eq_getElem (by omega)] at hfi
  obtain ⟨y, hy, _⟩ := open_bytecell _ _ _ hfi
  exact ⟨y, drop_take_one hy.symm⟩

set_option maxRecDepth 100000 in
theorem open_ID {r : Reach} {b0 : Nat} {v : Value} {d : DataW H} {ps : List MemPlace} (hval : Value.okWide Try.prog w r b0 32 v) (hd : DataW.Trod enc Try.prog w base spare held 32 v d ps) :
    ∃ l : List UInt8, l.length = 20 ∧ v = .agg (bytesV l).toArray := by
  simp only [Value.okWide, Try.underlying32] at hval
  obtain ⟨cs, rfl, _⟩ := hval
  obtain ⟨fuel, hf⟩ := hd
  obtain ⟨l, hl, he⟩ := open_IDcells hf
  refine ⟨l, hl, ?_⟩
  rw [← he]
  simp [Value.cells]
end
end Go.Proofs.Ytjdmbegmbffhfaa
