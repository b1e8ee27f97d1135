/-
  The document's answer for ids' texts (signpostref03.digit, Text, value, Parse). Conditions: the text fits in memory.
-/
import Derived.Test.YtgdiajhegmdfgaaIdE
import Derived.Test.YtgdiajhegmdfgaaSliceB
namespace Go.Proofs.Ytgdiajhegmdfgaa
open Go.RowKit

theorem aggR3 : IsAgg Try.prog 35 20 := ⟨_, Try.underlying35, rfl, by kernel_rfl⟩

/-- A digit's value, or -1. -/
def valI (c : UInt8) : Int := match valB c with | some n => (n : Int) | none => -1
theorem valI_some {c : UInt8} {n : Nat} (h : valB c = some n) : valI c = (n : Int) := by unfold valI; rw [h]
theorem valI_none {c : UInt8} (h : valB c = none) : valI c = -1 := by unfold valI; rw [h]

theorem BB.grown {T : TypeId} {w w' : World} {g : Nat} {l : List UInt8} {row : Option Nat} (h : BB T w g l) (hg : w.grownBy w' row) (hr : some g ≠ row) : BB T w' g l := (hg.block g h.lt hr).trans h

end Go.Proofs.Ytgdiajhegmdfgaa
