/-
  signpostlaw18.lives: it returns true. Conditions: none.
-/
import Derived.Test.YtnmmeccbpcichaaRecSC
namespace Go.Proofs.Ytnmmeccbpcichaa
open Go.RowKit Go.Maps

def kS (b : UInt8) : KeyS := ⟨⟨#[b]⟩, by show 1 ≤ maxLen; decide⟩

set_option maxRecDepth 100000 in
set_option maxHeartbeats 2000000 in
theorem lives18 (w : World) : Calls Try.prog 9 #[] w fun e w' => e = .returned (.bool true) ∧ Below w.heap.size w w' := by
  have e97 : (kS 97).val.toList = [97] := by kernel_rfl
  have e98 : (kS 98).val.toList = [98] := by kernel_rfl
  go_enter Try.func9, Try.ntmps9
  go_wp2_with fail
  refine (recS_New 3 (by omega) (by omega) _).mono ?_; rintro e w1 ⟨p, rfl, h1, b1⟩
  go_wp2_with fail
  refine (recS_add_new h1 (kS 97) (by simp) (by decide)).mono ?_; rintro e w2 ⟨rfl, h2, o2⟩
  obtain ⟨F2, h2, f2, b2⟩ := (LB.step b1 (fun i hi => hi.1) h2 o2).out
  clear h1 b1 o2
  go_wp2_with fail
  refine (recS_add_new h2 (kS 98) (by decide) (by decide)).mono ?_; rintro e w3 ⟨rfl, h3, o3⟩
  obtain ⟨F3, h3, f3, b3⟩ := (LB.step b2 f2 h3 o3).out
  clear h2 b2 o3
  go_wp2_with fail
  refine (recS_add_new h3 (kS 99) (by decide) (by decide)).mono ?_; rintro e w4 ⟨rfl, h4, o4⟩
  obtain ⟨F4, h4, f4, b4⟩ := (LB.step b3 f3 h4 o4).out
  clear h3 b3 o4
  go_wp2_with fail
  refine (recS_touch h4 (kS 97) (by decide)).mono ?_; rintro e w5 ⟨rfl, h5, o5⟩
  obtain ⟨F5, h5, f5, b5⟩ := (LB.same b4 f4 h5 o5).out
  rw [show wo (kS 97) ([] ++ [kS 97] ++ [kS 98] ++ [kS 99]) ++ [kS 97] = [kS 98, kS 99, kS 97] by decide] at h5
  clear h4 b4 o5
  go_wp2_with fail
  refine (recS_oldest h5).mono ?_; rintro e w6 ⟨rfl, rfl⟩
  go_wp2_with fail
  refine (recS_newest h5).mono ?_; rintro e w6 ⟨rfl, rfl⟩
  go_wp2_with fail
  refine (recS_full h5).mono ?_; rintro e w6 ⟨rfl, j, rfl⟩
  have h6 : Lst kitS (w5.drewN j) p 3 [kS 98, kS 99, kS 97] F5 := h5.keep fun _ _ _ => rfl
  go_wp2_with fail
  refine (recS_add_full h6 (kS 100) (by decide) (by decide)).mono ?_; rintro e w7 ⟨rfl, j2, rfl⟩
  go_wp2_with fail
  go_ret
  exact ⟨rfl, ⟨b5.os, b5.tape, b5.output, b5.size, b5.block⟩⟩
end Go.Proofs.Ytnmmeccbpcichaa
