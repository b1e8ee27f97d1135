/-
  What ident.Next computes. Conditions: the id is twenty bytes.
-/
import Derived.Test.YtjdmbegmbffhfaaIdT
namespace Go.Proofs.Ytjdmbegmbffhfaa
open Go.RowKit

theorem tailB_zero (l : List UInt8) (hl : l.length = 20) : tailB l 0 = l := by
  unfold tailB
  rw [List.take_of_length_le (by omega)]
  simp
theorem tail_last (l : List UInt8) (hl : l.length = 20) (i : Nat) (hi : i < 20) (h : ∀ j, j < 8 * (i + 1) → bitB l (159 - j) = true) : (tailB l i)[19 - i]? = some 255 := by
  rw [tailB_get l hl i (by omega) _ (by omega), if_pos (by omega)]
  refine byte_ones l hl (19 - i) (by omega) fun m hm => ?_
  have := h (7 - m + 8 * i) (by omega)
  rwa [show 159 - (7 - m + 8 * i) = 8 * (19 - i) + m by omega] at this

set_option maxRecDepth 100000 in
set_option maxHeartbeats 1600000 in
theorem ident_Next_none (l : List UInt8) (hl : l.length = 20) (h : ∀ j, j < 160 → bitB l (159 - j) = true) (w : World) :
    Calls Try.prog 37 #[.agg (bytesV l).toArray] w fun e w' => e = .returned (.tuple #[.agg (bytesV (List.replicate 20 0)).toArray, .bool false]) ∧ Below w.heap.size w w' := by
  have sa := bytes_size hl
  have i1 : Hid (BB 32 ((w.alloc (.cells (bytesV l).toArray 32)).alloc (.cells #[.int .u8 0, .int .u8 0, .int .u8 0, .int .u8 0, .int .u8 0, .int .u8 0, .int .u8 0, .int .u8 0, .int .u8 0, .int .u8 0, .int .u8 0, .int .u8 0, .int .u8 0, .int .u8 0, .int .u8 0, .int .u8 0, .int .u8 0, .int .u8 0, .int .u8 0, .int .u8 0] 32)) w.heap.size l) := Lib.hid (BB.alloc (l := l) (heap_alloc_new _ _) _)
  have i2 : Hid (BB 32 ((w.alloc (.cells (bytesV l).toArray 32)).alloc (.cells #[.int .u8 0, .int .u8 0, .int .u8 0, .int .u8 0, .int .u8 0, .int .u8 0, .int .u8 0, .int .u8 0, .int .u8 0, .int .u8 0, .int .u8 0, .int .u8 0, .int .u8 0, .int .u8 0, .int .u8 0, .int .u8 0, .int .u8 0, .int .u8 0, .int .u8 0, .int .u8 0] 32)) (w.heap.size + 1) (List.replicate 20 0)) := Lib.hid (heap_alloc2_new _ _ _)
  have i5 : Hid (Below w.heap.size w ((w.alloc (.cells (bytesV l).toArray 32)).alloc (.cells #[.int .u8 0, .int .u8 0, .int .u8 0, .int .u8 0, .int .u8 0, .int .u8 0, .int .u8 0, .int .u8 0, .int .u8 0, .int .u8 0, .int .u8 0, .int .u8 0, .int .u8 0, .int .u8 0, .int .u8 0, .int .u8 0, .int .u8 0, .int .u8 0, .int .u8 0, .int .u8 0] 32))) := Lib.hid (((Below.refl _ _).alloc (Nat.le_refl _) _).alloc (by simp) _)
  have HH := Lib.hid h
  have HL := Lib.hid hl
  clear h
  go_enter Try.func37, Try.ntmps37
  go_wp2_with fail
  generalize ((w.alloc (.cells (bytesV l).toArray 32)).alloc (.cells #[.int .u8 0, .int .u8 0, .int .u8 0, .int .u8 0, .int .u8 0, .int .u8 0, .int .u8 0, .int .u8 0, .int .u8 0, .int .u8 0, .int .u8 0, .int .u8 0, .int .u8 0, .int .u8 0, .int .u8 0, .int .u8 0, .int .u8 0, .int .u8 0, .int .u8 0, .int .u8 0] 32)) = W2 at *
  go_loopw [6] (fun v wr => ∃ i : Nat, v = .int .i64 i ∧ i ≤ 20 ∧ Hid (BB 32 wr w.heap.size (tailB l i)) ∧ Hid (BB 32 wr (w.heap.size + 1) (List.replicate 20 0)) ∧ Hid (Below w.heap.size w wr)) (fun v _ => 20 - (intOf v).toNat)
  case atStart => exact ⟨0, rfl, by omega, by rw [tailB_zero l HL.out]; exact i1, i2, i5⟩
  case round =>
    clear i1 i2 i5
    obtain ⟨i, rfl, hi, j1, j2, j5⟩ := hrel
    by_cases hlt : i < 20
    · have htl := tail_last l HL.out i hlt (fun j hj => HH.out j (by omega))
      have c1 : wr.cell? ⟨w.heap.size, 19 - i, none⟩ = some (.int .u8 255) := j1.out.cell htl
      have hts := tailB_succ l HL.out i hlt
      have hi5 : (i : Int) < 20 := by omega
      clear htl
      have hj : 19 - i < 20 := by omega
      obtain ⟨j, hjj⟩ : ∃ j, 19 - i = j := ⟨_, rfl⟩
      have e1 : (19 : Int) - (i : Int) = (j : Int) := by omega
      have e2 : (j : Int) < 20 := by omega
      rw [hjj] at c1 hts
      have hz := j1.out.free j
      have k1 : Hid (BB 32 (wr.setCell ⟨w.heap.size, j, none⟩ (.int .u8 0)) w.heap.size (tailB l (i + 1))) := Lib.hid (by rw [← hts]; exact BB.set_ j1.out j 0)
      have on : Only (· = w.heap.size) wr (wr.setCell ⟨w.heap.size, j, none⟩ (.int .u8 0)) := Only.set_ _ _ _ _
      have k2 := Lib.hid (BB.far (S := (· = w.heap.size)) j2.out on (by omega))
      have k5 := Lib.hid (j5.out.trans (Only.below on j5.out.size fun k hk he => by omega))
      clear on hts hjj
      go_wp2_with fail
      go_roundw
      case rel => exact ⟨i + 1, by go_num, by omega, k1, k2, k5⟩
      case measure => simp [intOf]; omega
    · have hge : (20 : Int) ≤ (i : Int) := by omega
      go_wp2_with (refine wpList_store_row (o := ⟨none, _, _, _, _, _⟩) rfl _ (.tmp 2) (.tmp 22) rfl (w.heap.size + 1) rfl (bytesV (List.replicate 20 0)) rfl _ _ j2.out 20 (by kernel_rfl) (bytes_len (by simp)) (bytes_size (by simp)) (bytesV_one _) ?_)
      have hw2 := BB.setRow j2.out (List.replicate 20 0)
      exact bodyPost_ret (results_row_tmp Try.results37 _ _ (w.heap.size + 1) _ _ _ _ rfl hw2 Try.underlying32 rfl (by kernel_rfl)) rfl ⟨rfl, j5.out.trans (Only.below (S := (· = w.heap.size + 1)) (Only.setRow _ _ _) j5.out.size fun k hk => by omega)⟩

set_option maxRecDepth 100000 in
set_option maxHeartbeats 1600000 in
theorem ident_Next_some (l : List UInt8) (hl : l.length = 20) (k : Nat) (hk : k < 160) (h : ∀ j, j < k → bitB l (159 - j) = true) (h0 : bitB l (159 - k) = false) (w : World) :
    Calls Try.prog 37 #[.agg (bytesV l).toArray] w fun e w' => e = .returned (.tuple #[.agg (bytesV (nextB l k)).toArray, .bool true]) ∧ Below w.heap.size w w' := by
  have sa := bytes_size hl
  have i1 : Hid (BB 32 ((w.alloc (.cells (bytesV l).toArray 32)).alloc (.cells #[.int .u8 0, .int .u8 0, .int .u8 0, .int .u8 0, .int .u8 0, .int .u8 0, .int .u8 0, .int .u8 0, .int .u8 0, .int .u8 0, .int .u8 0, .int .u8 0, .int .u8 0, .int .u8 0, .int .u8 0, .int .u8 0, .int .u8 0, .int .u8 0, .int .u8 0, .int .u8 0] 32)) w.heap.size l) := Lib.hid (BB.alloc (l := l) (heap_alloc_new _ _) _)
  have i2 : Hid (BB 32 ((w.alloc (.cells (bytesV l).toArray 32)).alloc (.cells #[.int .u8 0, .int .u8 0, .int .u8 0, .int .u8 0, .int .u8 0, .int .u8 0, .int .u8 0, .int .u8 0, .int .u8 0, .int .u8 0, .int .u8 0, .int .u8 0, .int .u8 0, .int .u8 0, .int .u8 0, .int .u8 0, .int .u8 0, .int .u8 0, .int .u8 0, .int .u8 0] 32)) (w.heap.size + 1) (List.replicate 20 0)) := Lib.hid (heap_alloc2_new _ _ _)
  have i5 : Hid (Below w.heap.size w ((w.alloc (.cells (bytesV l).toArray 32)).alloc (.cells #[.int .u8 0, .int .u8 0, .int .u8 0, .int .u8 0, .int .u8 0, .int .u8 0, .int .u8 0, .int .u8 0, .int .u8 0, .int .u8 0, .int .u8 0, .int .u8 0, .int .u8 0, .int .u8 0, .int .u8 0, .int .u8 0, .int .u8 0, .int .u8 0, .int .u8 0, .int .u8 0] 32))) := Lib.hid (((Below.refl _ _).alloc (Nat.le_refl _) _).alloc (by simp) _)
  have HH := Lib.hid h
  have HL := Lib.hid hl
  have hrl := nextB_length l k
  rw [hl] at hrl
  obtain ⟨x, hx⟩ : ∃ x, l[19 - k / 8]? = some x := ⟨l[19 - k / 8]'(by omega), List.getElem?_eq_getElem _⟩
  obtain ⟨hx1, hset⟩ := next_set l hl k hk h h0 x hx
  generalize nextB l k = R at *
  have HX := Lib.hid hx
  have HSET := Lib.hid hset
  have HRL := Lib.hid hrl
  have haR : Hid (IsAgg Try.prog 32 (bytesV R).length) := Lib.hid (by rw [bytes_len hrl]; exact aggID)
  have HSZ : Hid ((Try.prog.info? 32).map (·.size) = some (bytesV R).toArray.size) := Lib.hid (by rw [bytes_size hrl]; kernel_rfl)
  clear h h0 hx hset hrl
  go_enter Try.func37, Try.ntmps37
  go_wp2_with fail
  generalize ((w.alloc (.cells (bytesV l).toArray 32)).alloc (.cells #[.int .u8 0, .int .u8 0, .int .u8 0, .int .u8 0, .int .u8 0, .int .u8 0, .int .u8 0, .int .u8 0, .int .u8 0, .int .u8 0, .int .u8 0, .int .u8 0, .int .u8 0, .int .u8 0, .int .u8 0, .int .u8 0, .int .u8 0, .int .u8 0, .int .u8 0, .int .u8 0] 32)) = W2 at *
  go_loopw [6] (fun v wr => ∃ i : Nat, v = .int .i64 i ∧ i ≤ k / 8 ∧ Hid (BB 32 wr w.heap.size (tailB l i)) ∧ Hid (BB 32 wr (w.heap.size + 1) (List.replicate 20 0)) ∧ Hid (Below w.heap.size w wr)) (fun v _ => 20 - (intOf v).toNat)
  case atStart => exact ⟨0, rfl, by omega, by rw [tailB_zero l HL.out]; exact i1, i2, i5⟩
  case round =>
    clear i1 i2 i5
    obtain ⟨i, rfl, hi, j1, j2, j5⟩ := hrel
    have hi5 : (i : Int) < 20 := by omega
    by_cases hlt : i < k / 8
    · have htl := tail_last l HL.out i (by omega) (fun j hj => HH.out j (by omega))
      have c1 : wr.cell? ⟨w.heap.size, 19 - i, none⟩ = some (.int .u8 255) := j1.out.cell htl
      have hts := tailB_succ l HL.out i (by omega)
      clear htl
      have hj : 19 - i < 20 := by omega
      obtain ⟨j, hjj⟩ : ∃ j, 19 - i = j := ⟨_, rfl⟩
      have e1 : (19 : Int) - (i : Int) = (j : Int) := by omega
      have e2 : (j : Int) < 20 := by omega
      rw [hjj] at c1 hts
      have hz := j1.out.free j
      have k1 : Hid (BB 32 (wr.setCell ⟨w.heap.size, j, none⟩ (.int .u8 0)) w.heap.size (tailB l (i + 1))) := Lib.hid (by rw [← hts]; exact BB.set_ j1.out j 0)
      have on : Only (· = w.heap.size) wr (wr.setCell ⟨w.heap.size, j, none⟩ (.int .u8 0)) := Only.set_ _ _ _ _
      have k2 := Lib.hid (BB.far (S := (· = w.heap.size)) j2.out on (by omega))
      have k5 := Lib.hid (j5.out.trans (Only.below on j5.out.size fun k hk he => by omega))
      clear on hts hjj
      go_wp2_with fail
      go_roundw
      case rel => exact ⟨i + 1, by go_num, by omega, k1, k2, k5⟩
      case measure => simp [intOf]; omega
    · obtain rfl : i = k / 8 := by omega
      have c1 : wr.cell? ⟨w.heap.size, 19 - k / 8, none⟩ = some (.int .u8 (x.toNat : Int)) := j1.out.cell (by rw [tailB_get l HL.out _ (by omega) _ (by omega), if_pos (by omega)]; exact HX.out)
      have hs := HSET.out
      generalize hii : k / 8 = i at *
      obtain ⟨j, hjj⟩ : ∃ j, 19 - i = j := ⟨_, rfl⟩
      have e1 : (19 : Int) - (i : Int) = (j : Int) := by omega
      have e2 : (j : Int) < 20 := by omega
      rw [hjj] at c1 hs
      have hz := j1.out.free j
      obtain ⟨z, hzz⟩ : ∃ z, UInt8.ofNat (x.toNat + 1) = z := ⟨_, rfl⟩
      have hzn : (z.toNat : Int) = (x.toNat : Int) + 1 := by rw [← hzz, UInt8.toNat_ofNat']; omega
      rw [hzz] at hs
      have e3 : IntKind.u8.wrap ((x.toNat : Int) + 1) = (z.toNat : Int) := by rw [IntKind.wrap_u8, hzn]; have := z.toNat_lt; omega
      have e4 : (x.toNat : Int) + 1 = (z.toNat : Int) := hzn.symm
      have hz8 := z.toNat_lt
      have hzp : (z.toNat : Int) ≠ 0 := by omega
      have k1 : Hid (BB 32 (wr.setCell ⟨w.heap.size, j, none⟩ (.int .u8 (z.toNat : Int))) w.heap.size R) := Lib.hid (by rw [← hs]; exact BB.set_ j1.out j z)
      have on : Only (· = w.heap.size) wr (wr.setCell ⟨w.heap.size, j, none⟩ (.int .u8 (z.toNat : Int))) := Only.set_ _ _ _ _
      have k2 := Lib.hid (BB.far (S := (· = w.heap.size)) j2.out on (by omega))
      have k5 := Lib.hid (j5.out.trans (Only.below on j5.out.size fun k hk he => by omega))
      clear on hs hjj hzn hzz
      generalize x.toNat = xn at *
      generalize z.toNat = zn at *
      go_wp2_with (first
        | refine wpList_load_agg (o := ⟨some 20, _, _, _, _, _⟩) rfl _ (.tmp 1) rfl _ rfl (bytesV R) k1.out.row haR.out ?_
        | refine wpList_store_row (o := ⟨none, _, _, _, _, _⟩) rfl _ (.tmp 2) (.tmp 20) rfl (w.heap.size + 1) rfl (bytesV R) rfl _ _ k2.out 20 (by kernel_rfl) (bytes_len HRL.out) (bytes_size (by simp)) (bytesV_one _) ?_)
      have hw2 := BB.setRow k2.out R
      exact bodyPost_ret (results_row_tmp Try.results37 _ _ (w.heap.size + 1) _ _ _ _ rfl hw2 Try.underlying32 rfl HSZ.out) rfl ⟨rfl, k5.out.trans (Only.below (S := (· = w.heap.size + 1)) (Only.setRow _ _ _) k5.out.size fun k hk => by omega)⟩
end Go.Proofs.Ytjdmbegmbffhfaa
