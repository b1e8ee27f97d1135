/-
  The document's answer for the next id (signpostref03.Next) in the walk. Conditions: the id is twenty bytes.
-/
import Derived.Test.YtjdmbegmbffhfaaIdV
namespace Go.Proofs.Ytjdmbegmbffhfaa
open Go.RowKit

set_option maxRecDepth 100000 in
set_option maxHeartbeats 4000000 in
theorem ref_Next_none (l : List UInt8) (hl : l.length = 20) (h : ∀ j, j < 160 → bitB l (159 - j) = true) (w : World) :
    Calls Try.prog 38 #[.agg (bytesV l).toArray] w fun e w' => e = .returned (.tuple #[.agg (bytesV (List.replicate 20 0)).toArray, .bool false]) ∧ Below w.heap.size w w' := by
  have sa := bytes_size hl
  have i1 : Hid (BB 57 ((w.alloc (.cells (bytesV l).toArray 57)).alloc (.cells #[.int .u8 0, .int .u8 0, .int .u8 0, .int .u8 0, .int .u8 0, .int .u8 0, .int .u8 0, .int .u8 0, .int .u8 0, .int .u8 0, .int .u8 0, .int .u8 0, .int .u8 0, .int .u8 0, .int .u8 0, .int .u8 0, .int .u8 0, .int .u8 0, .int .u8 0, .int .u8 0] 57)) w.heap.size l) := Lib.hid (BB.alloc (l := l) (heap_alloc_new _ _) _)
  have i2 : Hid (BB 57 ((w.alloc (.cells (bytesV l).toArray 57)).alloc (.cells #[.int .u8 0, .int .u8 0, .int .u8 0, .int .u8 0, .int .u8 0, .int .u8 0, .int .u8 0, .int .u8 0, .int .u8 0, .int .u8 0, .int .u8 0, .int .u8 0, .int .u8 0, .int .u8 0, .int .u8 0, .int .u8 0, .int .u8 0, .int .u8 0, .int .u8 0, .int .u8 0] 57)) (w.heap.size + 1) (List.replicate 20 0)) := Lib.hid (heap_alloc2_new _ _ _)
  have i5 : Hid (Below w.heap.size w ((w.alloc (.cells (bytesV l).toArray 57)).alloc (.cells #[.int .u8 0, .int .u8 0, .int .u8 0, .int .u8 0, .int .u8 0, .int .u8 0, .int .u8 0, .int .u8 0, .int .u8 0, .int .u8 0, .int .u8 0, .int .u8 0, .int .u8 0, .int .u8 0, .int .u8 0, .int .u8 0, .int .u8 0, .int .u8 0, .int .u8 0, .int .u8 0] 57))) := Lib.hid (((Below.refl _ _).alloc (Nat.le_refl _) _).alloc (by simp) _)
  have HH := Lib.hid h
  have HL := Lib.hid hl
  clear h
  go_enter Try.func38, Try.ntmps38
  go_wp2_with fail
  generalize ((w.alloc (.cells (bytesV l).toArray 57)).alloc (.cells #[.int .u8 0, .int .u8 0, .int .u8 0, .int .u8 0, .int .u8 0, .int .u8 0, .int .u8 0, .int .u8 0, .int .u8 0, .int .u8 0, .int .u8 0, .int .u8 0, .int .u8 0, .int .u8 0, .int .u8 0, .int .u8 0, .int .u8 0, .int .u8 0, .int .u8 0, .int .u8 0] 57)) = W2 at *
  go_loopw [4] (fun v wr => ∃ j : Nat, v = .int .i64 (159 - (j : Int)) ∧ j ≤ 160 ∧ Hid (BB 57 wr w.heap.size (clrB l j)) ∧ Hid (BB 57 wr (w.heap.size + 1) (List.replicate 20 0)) ∧ Hid (Below w.heap.size w wr)) (fun v _ => (intOf v + 1).toNat)
  case atStart => exact ⟨0, rfl, by omega, i1, i2, i5⟩
  case round =>
    clear i1 i2 i5
    obtain ⟨j, rfl, hj, j1, j2, j5⟩ := hrel
    by_cases hlt : j < 160
    · have hcl : (clrB l j).length = 20 := (clrB_length l j).trans HL.out
      have hbit : bitB (clrB l j) (159 - j) = true := by rw [clrB_bit l HL.out j (by omega) _ (by omega), if_neg (by omega)]; exact HH.out j (by omega)
      have hB := fun w => ref_Bit (clrB l j) hcl (((159 - j : Nat) : Int)) (by omega) (by omega) w
      rw [bitZ_in (clrB l j) (159 - j) (by omega)] at hB
      have hbv : bitN (clrB l j) (159 - j) = 1 := by unfold bitN; rw [hbit]; rfl
      rw [hbv] at hB
      have hW := fun w => ref_With (clrB l j) hcl (((159 - j : Nat) : Int)) 0 (by omega) (by omega) w
      rw [withZ_in (clrB l j) (159 - j) _ (by omega)] at hW
      have hcn : withB (clrB l j) (159 - j) (decide ((0 : Int) ≠ 0)) = clrB l (j + 1) := rfl
      rw [hcn, show ((159 - j : Nat) : Int) = 159 - (j : Int) by omega] at hW
      rw [show ((159 - j : Nat) : Int) = 159 - (j : Int) by omega] at hB
      obtain ⟨z, hz⟩ : ∃ z, 159 - (j : Int) = z := ⟨_, rfl⟩
      have hz0 : 0 ≤ z := by omega
      have hz1 : z ≤ 159 := by omega
      have hz2 : z - 1 = 159 - ((j + 1 : Nat) : Int) := by omega
      rw [hz] at hB hW ⊢
      have hcm : (clrB l (j + 1)).length = 20 := (clrB_length l (j + 1)).trans HL.out
      obtain ⟨D, hD⟩ : ∃ D, clrB l (j + 1) = D := ⟨_, rfl⟩
      rw [hD] at hcm hW
      have HD := Lib.hid hD
      clear hD
      generalize clrB l j = C at *
      have HCM := Lib.hid hcm
      have HCL := Lib.hid hcl
      have HB := Lib.hid hB
      have HW := Lib.hid hW
      have haC : Hid (IsAgg Try.prog 57 (bytesV C).length) := Lib.hid (by rw [bytes_len hcl]; exact aggR3)
      clear hcm hcl hB hW hbit hbv hcn
      go_wp2_with (refine wpList_load_agg_g (o := ⟨some 8, _, _, _, _, some _⟩) (by rfl) _ (.tmp 1) rfl _ rfl (bytesV C) j1.out.row haC.out ?_)
      refine (HB.out _).mono ?_; rintro e w3 ⟨rfl, hb3⟩
      have k1 := Lib.hid (j1.out.below hb3)
      have k2 := Lib.hid (j2.out.below hb3)
      have k5 := Lib.hid (j5.out.trans (hb3.mono j5.out.size))
      clear hb3
      go_wp2_with (refine wpList_load_agg (o := ⟨some 13, _, _, _, _, none⟩) rfl _ (.tmp 1) rfl _ rfl (bytesV C) k1.out.row haC.out ?_)
      refine (HW.out _).mono ?_; rintro e w4 ⟨rfl, hb4⟩
      have l1 := Lib.hid (k1.out.below hb4)
      have l2 := Lib.hid (k2.out.below hb4)
      have l5 := Lib.hid (k5.out.trans (hb4.mono k5.out.size))
      clear hb4
      have on : Only (· = w.heap.size) w4 (w4.setRow w.heap.size (bytesV D).toArray) := Only.setRow _ _ _
      have m1 := Lib.hid (BB.setRow l1.out D)
      have m2 := Lib.hid (BB.far (S := (· = w.heap.size)) l2.out on (by omega))
      have m5 := Lib.hid (l5.out.trans (Only.below on l5.out.size fun k hk he => by omega))
      clear on
      go_wp2_with (refine wpList_store_row (o := ⟨none, _, _, _, _, _⟩) rfl _ (.tmp 1) (.tmp 15) rfl w.heap.size rfl (bytesV D) rfl _ _ l1.out 20 (by kernel_rfl) (bytes_len HCM.out) (bytes_size HCL.out) (bytesV_one _) ?_)
      go_roundw
      case rel => exact ⟨j + 1, congrArg (Value.int .i64) (by omega), by omega, by rw [HD.out]; exact m1, m2, m5⟩
      case measure => simp [intOf]; omega
    · have hz0 : 159 - (j : Int) < 0 := by omega
      have hz3 : ¬ (0 : Int) ≤ 159 - (j : Int) := by omega
      generalize 159 - (j : Int) = z at *
      go_wp2_with (refine wpList_store_row (o := ⟨none, _, _, _, _, _⟩) rfl _ (.tmp 2) (.tmp 20) rfl (w.heap.size + 1) rfl (bytesV (List.replicate 20 0)) rfl _ _ j2.out 20 (by kernel_rfl) (bytes_len (by simp)) (bytes_size (by simp)) (bytesV_one _) ?_)
      have hw2 := BB.setRow j2.out (List.replicate 20 0)
      exact bodyPost_ret (results_row_tmp Try.results38 _ _ (w.heap.size + 1) _ _ _ _ rfl hw2 Try.underlying57 rfl (by kernel_rfl)) rfl ⟨rfl, j5.out.trans (Only.below (S := (· = w.heap.size + 1)) (Only.setRow _ _ _) j5.out.size fun k hk => by omega)⟩

set_option maxRecDepth 100000 in
set_option maxHeartbeats 4000000 in
theorem ref_Next_some (l : List UInt8) (hl : l.length = 20) (k : Nat) (hk : k < 160) (h : ∀ j, j < k → bitB l (159 - j) = true) (h0 : bitB l (159 - k) = false) (w : World) :
    Calls Try.prog 38 #[.agg (bytesV l).toArray] w fun e w' => e = .returned (.tuple #[.agg (bytesV (nextB l k)).toArray, .bool true]) ∧ Below w.heap.size w w' := by
  have sa := bytes_size hl
  have i1 : Hid (BB 57 ((w.alloc (.cells (bytesV l).toArray 57)).alloc (.cells #[.int .u8 0, .int .u8 0, .int .u8 0, .int .u8 0, .int .u8 0, .int .u8 0, .int .u8 0, .int .u8 0, .int .u8 0, .int .u8 0, .int .u8 0, .int .u8 0, .int .u8 0, .int .u8 0, .int .u8 0, .int .u8 0, .int .u8 0, .int .u8 0, .int .u8 0, .int .u8 0] 57)) w.heap.size l) := Lib.hid (BB.alloc (l := l) (heap_alloc_new _ _) _)
  have i2 : Hid (BB 57 ((w.alloc (.cells (bytesV l).toArray 57)).alloc (.cells #[.int .u8 0, .int .u8 0, .int .u8 0, .int .u8 0, .int .u8 0, .int .u8 0, .int .u8 0, .int .u8 0, .int .u8 0, .int .u8 0, .int .u8 0, .int .u8 0, .int .u8 0, .int .u8 0, .int .u8 0, .int .u8 0, .int .u8 0, .int .u8 0, .int .u8 0, .int .u8 0] 57)) (w.heap.size + 1) (List.replicate 20 0)) := Lib.hid (heap_alloc2_new _ _ _)
  have i5 : Hid (Below w.heap.size w ((w.alloc (.cells (bytesV l).toArray 57)).alloc (.cells #[.int .u8 0, .int .u8 0, .int .u8 0, .int .u8 0, .int .u8 0, .int .u8 0, .int .u8 0, .int .u8 0, .int .u8 0, .int .u8 0, .int .u8 0, .int .u8 0, .int .u8 0, .int .u8 0, .int .u8 0, .int .u8 0, .int .u8 0, .int .u8 0, .int .u8 0, .int .u8 0] 57))) := Lib.hid (((Below.refl _ _).alloc (Nat.le_refl _) _).alloc (by simp) _)
  have HH := Lib.hid h
  have HL := Lib.hid hl
  have H0 := Lib.hid h0
  clear h h0
  go_enter Try.func38, Try.ntmps38
  go_wp2_with fail
  generalize ((w.alloc (.cells (bytesV l).toArray 57)).alloc (.cells #[.int .u8 0, .int .u8 0, .int .u8 0, .int .u8 0, .int .u8 0, .int .u8 0, .int .u8 0, .int .u8 0, .int .u8 0, .int .u8 0, .int .u8 0, .int .u8 0, .int .u8 0, .int .u8 0, .int .u8 0, .int .u8 0, .int .u8 0, .int .u8 0, .int .u8 0, .int .u8 0] 57)) = W2 at *
  go_loopw [4] (fun v wr => ∃ j : Nat, v = .int .i64 (159 - (j : Int)) ∧ j ≤ k ∧ Hid (BB 57 wr w.heap.size (clrB l j)) ∧ Hid (BB 57 wr (w.heap.size + 1) (List.replicate 20 0)) ∧ Hid (Below w.heap.size w wr)) (fun v _ => (intOf v + 1).toNat)
  case atStart => exact ⟨0, rfl, by omega, i1, i2, i5⟩
  case round =>
    clear i1 i2 i5
    obtain ⟨j, rfl, hj, j1, j2, j5⟩ := hrel
    by_cases hlt : j < k
    · have hcl : (clrB l j).length = 20 := (clrB_length l j).trans HL.out
      have hbit : bitB (clrB l j) (159 - j) = true := by rw [clrB_bit l HL.out j (by omega) _ (by omega), if_neg (by omega)]; exact HH.out j (by omega)
      have hB := fun w => ref_Bit (clrB l j) hcl (((159 - j : Nat) : Int)) (by omega) (by omega) w
      rw [bitZ_in (clrB l j) (159 - j) (by omega)] at hB
      have hbv : bitN (clrB l j) (159 - j) = 1 := by unfold bitN; rw [hbit]; rfl
      rw [hbv] at hB
      have hW := fun w => ref_With (clrB l j) hcl (((159 - j : Nat) : Int)) 0 (by omega) (by omega) w
      rw [withZ_in (clrB l j) (159 - j) _ (by omega)] at hW
      have hcn : withB (clrB l j) (159 - j) (decide ((0 : Int) ≠ 0)) = clrB l (j + 1) := rfl
      rw [hcn, show ((159 - j : Nat) : Int) = 159 - (j : Int) by omega] at hW
      rw [show ((159 - j : Nat) : Int) = 159 - (j : Int) by omega] at hB
      obtain ⟨z, hz⟩ : ∃ z, 159 - (j : Int) = z := ⟨_, rfl⟩
      have hz0 : 0 ≤ z := by omega
      have hz1 : z ≤ 159 := by omega
      have hz2 : z - 1 = 159 - ((j + 1 : Nat) : Int) := by omega
      rw [hz] at hB hW ⊢
      have hcm : (clrB l (j + 1)).length = 20 := (clrB_length l (j + 1)).trans HL.out
      obtain ⟨D, hD⟩ : ∃ D, clrB l (j + 1) = D := ⟨_, rfl⟩
      rw [hD] at hcm hW
      have HD := Lib.hid hD
      clear hD
      generalize clrB l j = C at *
      have HCM := Lib.hid hcm
      have HCL := Lib.hid hcl
      have HB := Lib.hid hB
      have HW := Lib.hid hW
      have haC : Hid (IsAgg Try.prog 57 (bytesV C).length) := Lib.hid (by rw [bytes_len hcl]; exact aggR3)
      clear hcm hcl hB hW hbit hbv hcn
      go_wp2_with (refine wpList_load_agg_g (o := ⟨some 8, _, _, _, _, some _⟩) (by rfl) _ (.tmp 1) rfl _ rfl (bytesV C) j1.out.row haC.out ?_)
      refine (HB.out _).mono ?_; rintro e w3 ⟨rfl, hb3⟩
      have k1 := Lib.hid (j1.out.below hb3)
      have k2 := Lib.hid (j2.out.below hb3)
      have k5 := Lib.hid (j5.out.trans (hb3.mono j5.out.size))
      clear hb3
      go_wp2_with (refine wpList_load_agg (o := ⟨some 13, _, _, _, _, none⟩) rfl _ (.tmp 1) rfl _ rfl (bytesV C) k1.out.row haC.out ?_)
      refine (HW.out _).mono ?_; rintro e w4 ⟨rfl, hb4⟩
      have l1 := Lib.hid (k1.out.below hb4)
      have l2 := Lib.hid (k2.out.below hb4)
      have l5 := Lib.hid (k5.out.trans (hb4.mono k5.out.size))
      clear hb4
      have on : Only (· = w.heap.size) w4 (w4.setRow w.heap.size (bytesV D).toArray) := Only.setRow _ _ _
      have m1 := Lib.hid (BB.setRow l1.out D)
      have m2 := Lib.hid (BB.far (S := (· = w.heap.size)) l2.out on (by omega))
      have m5 := Lib.hid (l5.out.trans (Only.below on l5.out.size fun k hk he => by omega))
      clear on
      go_wp2_with (refine wpList_store_row (o := ⟨none, _, _, _, _, _⟩) rfl _ (.tmp 1) (.tmp 15) rfl w.heap.size rfl (bytesV D) rfl _ _ l1.out 20 (by kernel_rfl) (bytes_len HCM.out) (bytes_size HCL.out) (bytesV_one _) ?_)
      go_roundw
      case rel => exact ⟨j + 1, congrArg (Value.int .i64) (by omega), by omega, by rw [HD.out]; exact m1, m2, m5⟩
      case measure => simp [intOf]; omega
    · obtain rfl : j = k := by omega
      have hcl : (clrB l j).length = 20 := (clrB_length l j).trans HL.out
      have hbit : bitB (clrB l j) (159 - j) = false := by rw [clrB_bit l HL.out j (by omega) _ (by omega), if_neg (by omega)]; exact H0.out
      have hB := fun w => ref_Bit (clrB l j) hcl (((159 - j : Nat) : Int)) (by omega) (by omega) w
      rw [bitZ_in (clrB l j) (159 - j) (by omega)] at hB
      have hbv : bitN (clrB l j) (159 - j) = 0 := by unfold bitN; rw [hbit]; rfl
      rw [hbv] at hB
      have hW := fun w => ref_With (clrB l j) hcl (((159 - j : Nat) : Int)) 1 (by omega) (by omega) w
      rw [withZ_in (clrB l j) (159 - j) _ (by omega)] at hW
      have hcn : withB (clrB l j) (159 - j) (decide ((1 : Int) ≠ 0)) = nextB l j := rfl
      rw [hcn, show ((159 - j : Nat) : Int) = 159 - (j : Int) by omega] at hW
      rw [show ((159 - j : Nat) : Int) = 159 - (j : Int) by omega] at hB
      obtain ⟨z, hz⟩ : ∃ z, 159 - (j : Int) = z := ⟨_, rfl⟩
      have hz0 : 0 ≤ z := by omega
      have hz1 : z ≤ 159 := by omega
      have hz2 : z - 1 = 159 - ((j + 1 : Nat) : Int) := by omega
      rw [hz] at hB hW ⊢
      have hcm : (nextB l j).length = 20 := (nextB_length l j).trans HL.out
      obtain ⟨D, hD⟩ : ∃ D, nextB l j = D := ⟨_, rfl⟩
      rw [hD] at hcm hW
      have HD := Lib.hid hD
      clear hD
      generalize clrB l j = C at *
      have HCM := Lib.hid hcm
      have HCL := Lib.hid hcl
      have HB := Lib.hid hB
      have HW := Lib.hid hW
      have haC : Hid (IsAgg Try.prog 57 (bytesV C).length) := Lib.hid (by rw [bytes_len hcl]; exact aggR3)
      clear hcm hcl hB hW hbit hbv hcn
      have HSZ : Hid ((Try.prog.info? 57).map (·.size) = some (bytesV D).toArray.size) := Lib.hid (by rw [bytes_size HCM.out]; kernel_rfl)
      go_wp2_with (refine wpList_load_agg_g (o := ⟨some 8, _, _, _, _, some _⟩) (by rfl) _ (.tmp 1) rfl _ rfl (bytesV C) j1.out.row haC.out ?_)
      refine (HB.out _).mono ?_; rintro e w3 ⟨rfl, hb3⟩
      have k1 := Lib.hid (j1.out.below hb3)
      have k2 := Lib.hid (j2.out.below hb3)
      have k5 := Lib.hid (j5.out.trans (hb3.mono j5.out.size))
      clear hb3
      go_wp2_with (refine wpList_load_agg (o := ⟨some 21, _, _, _, _, none⟩) rfl _ (.tmp 1) rfl _ rfl (bytesV C) k1.out.row haC.out ?_)
      refine (HW.out _).mono ?_; rintro e w4 ⟨rfl, hb4⟩
      have l1 := Lib.hid (k1.out.below hb4)
      have l2 := Lib.hid (k2.out.below hb4)
      have l5 := Lib.hid (k5.out.trans (hb4.mono k5.out.size))
      clear hb4
      go_wp2_with (refine wpList_store_row (o := ⟨none, _, _, _, _, _⟩) rfl _ (.tmp 2) (.tmp 23) rfl (w.heap.size + 1) rfl (bytesV D) rfl _ _ l2.out 20 (by kernel_rfl) (bytes_len HCM.out) (bytes_size (by simp)) (bytesV_one _) ?_)
      have hw2 := BB.setRow l2.out D
      exact bodyPost_ret (results_row_tmp Try.results38 _ _ (w.heap.size + 1) _ _ _ _ rfl hw2 Try.underlying57 rfl HSZ.out) rfl ⟨(by rw [HD.out]; first | done | rfl), l5.out.trans (Only.below (S := (· = w.heap.size + 1)) (Only.setRow _ _ _) l5.out.size fun k hk => by omega)⟩
end Go.Proofs.Ytjdmbegmbffhfaa
