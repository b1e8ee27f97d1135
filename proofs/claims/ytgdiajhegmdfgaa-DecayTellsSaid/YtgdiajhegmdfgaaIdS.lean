/-
  What ident.may, mask, Bit, With compute. Conditions: the id is twenty bytes.
-/
import Derived.Test.YtgdiajhegmdfgaaIdR
import Derived.Test.YtgdiajhegmdfgaaIdF
import Derived.Deep.QuietTactic
import Derived.BigQuiet
namespace Go.Proofs.Ytgdiajhegmdfgaa
open Go.RowKit

theorem and_pow : ∀ (x : Fin 256) (m : Fin 8), x.val &&& 2 ^ m.val = if x.val.testBit m.val then 2 ^ m.val else 0 := by decide +kernel
theorem andNot_pow : ∀ (x : Fin 256) (m : Fin 8), x.val &&& (255 - 2 ^ m.val) = if x.val.testBit m.val then x.val ^^^ 2 ^ m.val else x.val := by decide +kernel
theorem or_pow : ∀ (x : Fin 256) (m : Fin 8), x.val ||| 2 ^ m.val = if x.val.testBit m.val then x.val else x.val ^^^ 2 ^ m.val := by decide +kernel
theorem pow_lt8 : ∀ m : Fin 8, 2 ^ m.val < 256 := by decide

/-- A bit, at any place. -/
def bitZ (l : List UInt8) (i : Int) : Int := if 0 ≤ i ∧ i < 160 then bitN l i.toNat else 0
theorem bitZ_in (l : List UInt8) (n : Nat) (h : n < 160) : bitZ l (n : Int) = bitN l n := by
  unfold bitZ
  rw [if_pos (by omega), Int.toNat_natCast]
theorem bitZ_out (l : List UInt8) (i : Int) (h : i < 0 ∨ 160 ≤ i) : bitZ l i = 0 := by
  unfold bitZ
  rw [if_neg (by omega)]
theorem bitN_at (l : List UInt8) (n : Nat) (x : UInt8) (hx : l[n / 8]? = some x) : bitN l n = if x.toNat.testBit (7 - n % 8) then 1 else 0 := by
  unfold bitN bitB
  rw [hx]
  rfl

end Go.Proofs.Ytgdiajhegmdfgaa
