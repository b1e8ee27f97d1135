/-
  RecentNobody: whatever the input, signpostlaw18.RecentNobody returns true. Conditions: none.
-/
import Derived.Test.YtnmmeccbpcichaaRecN
import Derived.Test.YtnmmeccbpcichaaOpen
import Derived.Test.YtnmmeccbpcichaaLift
namespace Go.Proofs.Ytnmmeccbpcichaa
open Go.ChangeShapes Go.WideShapes Go.ChangeAt Go.RowKit Go.Deep

set_option maxRecDepth 100000 in
theorem RecentNobody_lifted (os : Os) (started : os.Started) (H : Type) (enc : TypeId × Value → H) :
    ReturnsInHanded {} Try.checked os 5 .any (Rows.recentNobodySpec.pre6 enc Try.prog Try.f5 Rows.recentNobodyRow.domain false) (Rows.recentNobodySpec.post enc Try.prog Try.f5 false true false false) := by
  refine Lift.law (C := Try.checked) (n := 1) Lift.own started (by kernel_rfl) Try.func5 Lift.laidOut (by kernel_rfl) rfl Try.underlying4 rfl rfl ?_
    (ChangeSpec.witness6 (enc := enc) (C := Try.checked) false ⟨#[], #[.int .i64 0], []⟩ 8 (by kernel_rfl) (by kernel_rfl) (by kernel_rfl) (by kernel_rfl)) ?_
  · intro ds hd
    match ds, hd with
    | [_], _ => rfl
  intro W base args ds ps hval0 hA _
  have hval : ∀ (j : Nat) t v, Try.f5.params[j]? = some t → args[j]? = some v → Value.okWide Try.prog W .any base t v := hval0
  rw [Try.params5] at hA hval
  obtain ⟨v0, vs0, d0, ds0, p0, q0, hargs, rfl, rfl, h0, r0⟩ := trodAll_cons hA
  obtain ⟨rfl, rfl, rfl⟩ := trodAll_nil r0
  obtain rfl : args = #[v0] := by cases args; simp_all
  obtain ⟨a0, rfl, rfl, rfl, _⟩ := open_int Try.underlying3 (hval 0 3 v0 rfl rfl) h0
  exact Nobody_walk a0 W

theorem RecentNobody_holds : Rows.RecentNobodySaid :=
  OpenClaim.holds_of_wide 5 Try.f5 rfl rfl rfl rfl rfl rfl rfl ⟨rfl, rfl, rfl, rfl, rfl⟩ rfl rfl rfl rfl rfl (by kernel_rfl) Try.func5 (by kernel_rfl)
    (of_decide_eq_true (by kernel_rfl)) (by unfold Func.isWrapper; first | (rw [if_pos (by decide +kernel)]; kernel_rfl) | (rw [if_neg (by decide +kernel)]; exact ⟨rfl, rfl⟩))
    (fun os started H enc _ => RecentNobody_lifted os started H enc)
#print axioms RecentNobody_holds
end Go.Proofs.Ytnmmeccbpcichaa
