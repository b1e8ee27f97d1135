/-
  What ident.Next computes. Conditions: the id is twenty bytes.
-/
import Derived.Test.YtgdiajhegmdfgaaIdT
namespace Go.Proofs.Ytgdiajhegmdfgaa
open Go.RowKit

theorem tailB_zero (l : List UInt8) (hl : l.length = 20) : tailB l 0 = l := by
  unfold tailB
  rw [List.take_of_length_le (by omega)]
  simp
theorem tail_last (l : List UInt8) (hl : l.length = 20) (i : Nat) (hi : i < 20) (h : ∀ j, j < 8 * (i + 1) → bitB l (159 - j) = true) : (tailB l i)[19 - i]? = some 255 := by
  rw [tailB_get l hl i (by omega) _ (by omega), if_pos (by omega)]
  refine byte_ones l hl (19 - i) (by omega) fun m hm => ?_
  have := h (7 - m + 8 * i) (by omega)
  rwa [show 159 - (7 - m + 8 * i) = 8 * (19 - i) + m by omega] at this

end Go.Proofs.Ytgdiajhegmdfgaa
