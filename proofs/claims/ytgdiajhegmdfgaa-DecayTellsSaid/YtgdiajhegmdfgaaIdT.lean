/-
  What ident.With, ident.Next compute. Conditions: the id is twenty bytes.
-/
import Derived.Test.YtgdiajhegmdfgaaIdS
import Derived.Laws.ResultCell
namespace Go.Proofs.Ytgdiajhegmdfgaa
open Go.RowKit

theorem withB_set (l : List UInt8) (n : Nat) (x : UInt8) (hx : l[n / 8]? = some x) (v : Bool) (z : UInt8) (hz : z.toNat = if x.toNat.testBit (7 - n % 8) = v then x.toNat else x.toNat ^^^ 2 ^ (7 - n % 8)) : withB l n v = l.set (n / 8) z := by
  have hb : bitB l n = x.toNat.testBit (7 - n % 8) := by unfold bitB; rw [hx]; rfl
  unfold withB
  rw [hb, hx]
  by_cases h : x.toNat.testBit (7 - n % 8) = v
  · rw [if_pos h] at hz ⊢
    obtain rfl : z = x := UInt8.toNat_inj.1 hz
    apply List.ext_getElem?
    intro j
    rw [List.getElem?_set]
    by_cases hj : n / 8 = j
    · subst hj
      rw [if_pos rfl, if_pos (List.getElem?_eq_some_iff.1 hx).1, hx]
    · rw [if_neg hj]
  · rw [if_neg h] at hz ⊢
    congr 1
    apply UInt8.toNat_inj.1
    rw [hz, Option.getD_some, UInt8.toNat_ofNat', Nat.mod_eq_of_lt (by rw [← hz]; exact z.toNat_lt)]

/-- A bit set, at any place. -/
def withZ (l : List UInt8) (i bit : Int) : List UInt8 := if 0 ≤ i ∧ i < 160 then withB l i.toNat (decide (bit ≠ 0)) else l
theorem withZ_length (l : List UInt8) (i bit : Int) : (withZ l i bit).length = l.length := by
  unfold withZ
  split
  · rw [withB_length]
  · rfl
theorem withZ_in (l : List UInt8) (n : Nat) (bit : Int) (h : n < 160) : withZ l (n : Int) bit = withB l n (decide (bit ≠ 0)) := by
  unfold withZ
  rw [if_pos (by omega), Int.toNat_natCast]
theorem withZ_out (l : List UInt8) (i bit : Int) (h : i < 0 ∨ 160 ≤ i) : withZ l i bit = l := by
  unfold withZ
  rw [if_neg (by omega)]

end Go.Proofs.Ytgdiajhegmdfgaa
