/-
  IdentSorts: whatever the input, signpostlaw03.IdentSorts returns true and leaves its arguments as they were. Conditions: none.
-/
import Derived.Test.YtjdmbegmbffhfaaSrtE
import Derived.Test.YtjdmbegmbffhfaaOpenS
import Derived.Test.YtjdmbegmbffhfaaLift
namespace Go.Proofs.Ytjdmbegmbffhfaa
open Go.ChangeShapes Go.WideShapes Go.ChangeAt Go.RowKit Go.Deep

set_option maxRecDepth 100000 in
theorem IdentSorts_lifted (os : Os) (started : os.Started) (H : Type) (enc : TypeId × Value → H) :
    ReturnsInHanded {} Try.checked os 13 .any (Rows.identSortsSpec.pre6 enc Try.prog Try.f13 Rows.identSortsRow.domain false) (Rows.identSortsSpec.post enc Try.prog Try.f13 false true false false) := by
  refine Lift.law (C := Try.checked) (n := 1) Lift.own started (by kernel_rfl) Try.func13 Lift.laidOut (by kernel_rfl) rfl Try.underlying4 rfl rfl ?_
    (ChangeSpec.witness6 (enc := enc) (C := Try.checked) false ⟨#[], #[.slice none 0 0], []⟩ 8 (by kernel_rfl) (by kernel_rfl) (by kernel_rfl) (by kernel_rfl)) ?_
  · intro ds hd
    match ds, hd with
    | [_], _ => rfl
  intro W base args ds ps hval0 hA _
  have hval : ∀ (j : Nat) t v, Try.f13.params[j]? = some t → args[j]? = some v → Value.okWide Try.prog W .any base t v := hval0
  rw [Try.params13] at hA hval
  obtain ⟨v0, vs0, d0, ds0, p0, q0, hargs, rfl, rfl, h0, r0⟩ := trodAll_cons hA
  obtain ⟨rfl, rfl, rfl⟩ := trodAll_nil r0
  obtain rfl : args = #[v0] := by cases args; simp_all
  have hv0 := hval 0 78 v0 rfl rfl
  obtain ⟨ad, len, cap, rfl⟩ := okWide_slice Try.underlying78 hv0
  obtain ⟨fuel, hf⟩ := h0
  obtain ⟨d, rfl, hlc, hcm, hrow⟩ := open_ids hf
  exact Sorts_walk ad d cap W hrow (fun a ha => by subst ha; exact okWide_block Try.underlying78 hv0)

theorem IdentSorts_holds : Rows.IdentSortsSaid :=
  OpenClaim.holds_of_wide 13 Try.f13 rfl rfl rfl rfl rfl rfl rfl ⟨rfl, rfl, rfl, rfl, rfl⟩ rfl rfl rfl rfl rfl (by kernel_rfl) Try.func13 (by kernel_rfl)
    (of_decide_eq_true (by kernel_rfl)) (by unfold Func.isWrapper; first | (rw [if_pos (by decide +kernel)]; kernel_rfl) | (rw [if_neg (by decide +kernel)]; exact ⟨rfl, rfl⟩))
    (fun os started H enc _ => IdentSorts_lifted os started H enc)
#print axioms IdentSorts_holds
end Go.Proofs.Ytjdmbegmbffhfaa
