/-
  Sums of two texts, reckoned. Conditions: none.
-/
import Derived.Test.YtgdiajhegmdfgaaShaJ
namespace Go.Proofs.Ytgdiajhegmdfgaa

theorem sha_abc : shaB [97, 98, 99] = [169, 153, 62, 54, 71, 6, 129, 106, 186, 62, 37, 113, 120, 80, 194, 108, 156, 208, 216, 157] := by
  rw [sha_one [97, 98, 99] (by decide +kernel) [2845392438, 1191608682, 3124634993, 2018558572, 2630932637] (by decide +kernel)]
  decide +kernel
theorem sha_nil : shaB [] = [218, 57, 163, 238, 94, 107, 75, 13, 50, 85, 191, 239, 149, 96, 24, 144, 175, 216, 7, 9] := by
  rw [sha_one [] (by decide +kernel) [3661210606, 1584089869, 844480495, 2506102928, 2950170377] (by decide +kernel)]
  decide +kernel
end Go.Proofs.Ytgdiajhegmdfgaa
