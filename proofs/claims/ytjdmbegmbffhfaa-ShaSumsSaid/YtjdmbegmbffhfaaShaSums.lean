/-
  ShaSums: whatever the input, signpostlaw02.ShaSums returns true and leaves its arguments as they were. Conditions: none.
-/
import Derived.Test.YtjdmbegmbffhfaaRefE
import Derived.Test.YtjdmbegmbffhfaaOpenB
import Derived.Test.YtjdmbegmbffhfaaLift
namespace Go.Proofs.Ytjdmbegmbffhfaa
open Go.ChangeShapes Go.WideShapes Go.ChangeAt Go.RowKit Go.Deep

set_option maxRecDepth 100000 in
theorem ShaSums_lifted (os : Os) (started : os.Started) (H : Type) (enc : TypeId × Value → H) :
    ReturnsInHanded {} Try.checked os 4 .any (Rows.shaSumsSpec.pre6 enc Try.prog Try.f4 Rows.shaSumsRow.domain false) (Rows.shaSumsSpec.post enc Try.prog Try.f4 false true false false) := by
  refine Lift.law (C := Try.checked) (n := 2) Lift.own started (by kernel_rfl) Try.func4 Lift.laidOut (by kernel_rfl) rfl Try.underlying4 rfl rfl ?_
    (ChangeSpec.witness6 (enc := enc) (C := Try.checked) false ⟨#[], #[.slice none 0 0, .int .u64 0], []⟩ 8 (by kernel_rfl) (by kernel_rfl) (by kernel_rfl) (by kernel_rfl)) ?_
  · intro ds hd
    match ds, hd with
    | [_, _], _ => rfl
  intro W base args ds ps hval0 hA _
  have hval : ∀ (j : Nat) t v, Try.f4.params[j]? = some t → args[j]? = some v → Value.okWide Try.prog W .any base t v := hval0
  rw [Try.params4] at hA hval
  obtain ⟨v0, vs0, d0, ds0, p0, q0, hargs, rfl, rfl, h0, r0⟩ := trodAll_cons hA
  obtain ⟨v1, vs1, d1, ds1, p1, q1, rfl, rfl, rfl, h1, r1⟩ := trodAll_cons r0
  obtain ⟨rfl, rfl, rfl⟩ := trodAll_nil r1
  obtain rfl : args = #[v0, v1] := by cases args; simp_all
  obtain ⟨ad, len, cap, rfl⟩ := okWide_slice Try.underlying30 (hval 0 30 v0 rfl rfl)
  obtain ⟨a1, rfl, rfl, rfl, w1⟩ := open_int Try.underlying22 (hval 1 22 v1 rfl rfl) h1
  have b1 := wf_u64 w1
  obtain ⟨n, rfl⟩ := Int.eq_ofNat_of_zero_le b1.1
  obtain ⟨fuel, hf⟩ := h0
  obtain ⟨l, hl, hlc, hcm, hby⟩ := open_bytes hf
  exact Sums_walk ad len cap l hl (by omega) n (by omega) W hby

theorem ShaSums_holds : Rows.ShaSumsSaid :=
  OpenClaim.holds_of_wide 4 Try.f4 rfl rfl rfl rfl rfl rfl rfl ⟨rfl, rfl, rfl, rfl, rfl⟩ rfl rfl rfl rfl rfl (by kernel_rfl) Try.func4 (by kernel_rfl)
    (of_decide_eq_true (by kernel_rfl)) (by unfold Func.isWrapper; first | (rw [if_pos (by decide +kernel)]; kernel_rfl) | (rw [if_neg (by decide +kernel)]; exact ⟨rfl, rfl⟩))
    (fun os started H enc _ => ShaSums_lifted os started H enc)
#print axioms ShaSums_holds
end Go.Proofs.Ytjdmbegmbffhfaa
