/-
  Worlds that differ by draws alone. Conditions: none.
-/
import Derived.Test.YtnmmeccbpcichaaQuietL
import Derived.Test.YtnmmeccbpcichaaSlice
namespace Go.Proofs.Ytnmmeccbpcichaa
/-- Nothing but draws. -/
structure Drawn (w0 w : World) : Prop where
  out : ∃ j, w = w0.drewN j
theorem only_drawn (S : Nat → Prop) (w : World) (j : Nat) : Only S w (w.drewN j) := ⟨rfl, rfl, rfl, Nat.le_refl _, fun _ _ _ => rfl⟩
theorem Only.drawnN {S : Nat → Prop} {a w : World} (h : Only S a w) (n : Nat) : Only S a (w.drewN n) := h.trans (only_drawn S w n)
end Go.Proofs.Ytnmmeccbpcichaa
