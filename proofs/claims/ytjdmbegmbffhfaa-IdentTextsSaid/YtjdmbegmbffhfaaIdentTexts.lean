/-
  IdentTexts: whatever the input, signpostlaw03.IdentTexts returns true and leaves its arguments as they were. Conditions: none.
-/
import Derived.Test.YtjdmbegmbffhfaaIdH
import Derived.Test.YtjdmbegmbffhfaaOpenI
import Derived.ChangeMaps5
import Derived.Test.YtjdmbegmbffhfaaLift
namespace Go.Proofs.Ytjdmbegmbffhfaa
open Go.ChangeShapes Go.WideShapes Go.ChangeAt Go.RowKit Go.Deep

set_option maxRecDepth 100000 in
theorem IdentTexts_lifted (os : Os) (started : os.Started) (H : Type) (enc : TypeId × Value → H) :
    ReturnsInHanded {} Try.checked os 8 .any (Rows.identTextsSpec.pre6 enc Try.prog Try.f8 Rows.identTextsRow.domain false) (Rows.identTextsSpec.post enc Try.prog Try.f8 false true false false) := by
  refine Lift.law (C := Try.checked) (n := 2) Lift.own started (by kernel_rfl) Try.func8 Lift.laidOut (by kernel_rfl) rfl Try.underlying4 rfl rfl ?_
    (ChangeSpec.witness6 (enc := enc) (C := Try.checked) false ⟨#[], #[.agg #[.int .u8 0, .int .u8 0, .int .u8 0, .int .u8 0, .int .u8 0, .int .u8 0, .int .u8 0, .int .u8 0, .int .u8 0, .int .u8 0, .int .u8 0, .int .u8 0, .int .u8 0, .int .u8 0, .int .u8 0, .int .u8 0, .int .u8 0, .int .u8 0, .int .u8 0, .int .u8 0], .string ⟨#[]⟩], []⟩ 8 (by kernel_rfl) (by kernel_rfl) (by kernel_rfl) (by kernel_rfl)) ?_
  · intro ds hd
    match ds, hd with
    | [_, _], _ => rfl
  intro W base args ds ps hval0 hA _
  have hval : ∀ (j : Nat) t v, Try.f8.params[j]? = some t → args[j]? = some v → Value.okWide Try.prog W .any base t v := hval0
  rw [Try.params8] at hA hval
  obtain ⟨v0, vs0, d0, ds0, p0, q0, hargs, rfl, rfl, h0, r0⟩ := trodAll_cons hA
  obtain ⟨v1, vs1, d1, ds1, p1, q1, rfl, rfl, rfl, h1, r1⟩ := trodAll_cons r0
  obtain ⟨rfl, rfl, rfl⟩ := trodAll_nil r1
  obtain rfl : args = #[v0, v1] := by cases args; simp_all
  obtain ⟨a, ha, rfl⟩ := open_ID (hval 0 32 v0 rfl rfl) h0
  obtain ⟨s, rfl, _, _, hs⟩ := Go.ChangeMaps.open_string Try.underlying9 (hval 1 9 v1 rfl rfl) h1
  have hl : s.data.toList.length ≤ 9223372036854775807 := by
    unfold maxLen at hs
    have : s.data.toList.length = s.size := by simp
    omega
  exact Texts_walk a ha s.data.toList hl W

theorem IdentTexts_holds : Rows.IdentTextsSaid :=
  OpenClaim.holds_of_wide 8 Try.f8 rfl rfl rfl rfl rfl rfl rfl ⟨rfl, rfl, rfl, rfl, rfl⟩ rfl rfl rfl rfl rfl (by kernel_rfl) Try.func8 (by kernel_rfl)
    (of_decide_eq_true (by kernel_rfl)) (by unfold Func.isWrapper; first | (rw [if_pos (by decide +kernel)]; kernel_rfl) | (rw [if_neg (by decide +kernel)]; exact ⟨rfl, rfl⟩))
    (fun os started H enc _ => IdentTexts_lifted os started H enc)
#print axioms IdentTexts_holds
end Go.Proofs.Ytjdmbegmbffhfaa
