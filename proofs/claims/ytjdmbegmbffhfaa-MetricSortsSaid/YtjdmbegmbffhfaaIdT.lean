/-
  What ident.With, ident.Next compute. Conditions: the id is twenty bytes.
-/
import Derived.Test.YtjdmbegmbffhfaaIdS
import Derived.Laws.ResultCell
namespace Go.Proofs.Ytjdmbegmbffhfaa
open Go.RowKit

theorem withB_set (l : List UInt8) (n : Nat) (x : UInt8) (hx : l[n / 8]? = some x) (v : Bool) (z : UInt8) (hz : z.toNat = if x.toNat.testBit (7 - n % 8) = v then x.toNat else x.toNat ^^^ 2 ^ (7 - n % 8)) : withB l n v = l.set (n / 8) z := by
  have hb : bitB l n = x.toNat.testBit (7 - n % 8) := by unfold bitB; rw [hx]; rfl
  unfold withB
  rw [hb, hx]
  by_cases h : x.toNat.testBit (7 - n % 8) = v
  · rw [if_pos h] at hz ⊢
    obtain rfl : z = x := UInt8.toNat_inj.1 hz
    apply List.ext_getElem?
    intro j
    rw [List.getElem?_set]
    by_cases hj : n / 8 = j
    · subst hj
      rw [if_pos rfl, if_pos (List.getElem?_eq_some_iff.1 hx).1, hx]
    · rw [if_neg hj]
  · rw [if_neg h] at hz ⊢
    congr 1
    apply UInt8.toNat_inj.1
    rw [hz, Option.getD_some, UInt8.toNat_ofNat', Nat.mod_eq_of_lt (by rw [← hz]; exact z.toNat_lt)]

/-- A bit set, at any place. -/
def withZ (l : List UInt8) (i bit : Int) : List UInt8 := if 0 ≤ i ∧ i < 160 then withB l i.toNat (decide (bit ≠ 0)) else l
theorem withZ_length (l : List UInt8) (i bit : Int) : (withZ l i bit).length = l.length := by
  unfold withZ
  split
  · rw [withB_length]
  · rfl
theorem withZ_in (l : List UInt8) (n : Nat) (bit : Int) (h : n < 160) : withZ l (n : Int) bit = withB l n (decide (bit ≠ 0)) := by
  unfold withZ
  rw [if_pos (by omega), Int.toNat_natCast]
theorem withZ_out (l : List UInt8) (i bit : Int) (h : i < 0 ∨ 160 ≤ i) : withZ l i bit = l := by
  unfold withZ
  rw [if_neg (by omega)]

set_option maxRecDepth 100000 in
set_option maxHeartbeats 1600000 in
theorem ident_With (l : List UInt8) (hl : l.length = 20) (i bit : Int) (hi0 : -9223372036854775808 ≤ i) (hi1 : i ≤ 9223372036854775807) (w : World) :
    Calls Try.prog 41 #[.agg (bytesV l).toArray, .int .i64 i, .int .i64 bit] w fun e w' => e = .returned (.agg (bytesV (withZ l i bit)).toArray) ∧ Below w.heap.size w w' := by
  have sa := bytes_size hl
  have i1 : Hid (BB 32 ((w.alloc (.cells (bytesV l).toArray 32)).alloc (.cells #[.int .u8 0, .int .u8 0, .int .u8 0, .int .u8 0, .int .u8 0, .int .u8 0, .int .u8 0, .int .u8 0, .int .u8 0, .int .u8 0, .int .u8 0, .int .u8 0, .int .u8 0, .int .u8 0, .int .u8 0, .int .u8 0, .int .u8 0, .int .u8 0, .int .u8 0, .int .u8 0] 32)) w.heap.size l) := Lib.hid (BB.alloc (l := l) (heap_alloc_new _ _) _)
  have i2 : Hid (BB 32 ((w.alloc (.cells (bytesV l).toArray 32)).alloc (.cells #[.int .u8 0, .int .u8 0, .int .u8 0, .int .u8 0, .int .u8 0, .int .u8 0, .int .u8 0, .int .u8 0, .int .u8 0, .int .u8 0, .int .u8 0, .int .u8 0, .int .u8 0, .int .u8 0, .int .u8 0, .int .u8 0, .int .u8 0, .int .u8 0, .int .u8 0, .int .u8 0] 32)) (w.heap.size + 1) (List.replicate 20 0)) := Lib.hid (heap_alloc2_new _ _ _)
  have i5 : Hid (Below w.heap.size w ((w.alloc (.cells (bytesV l).toArray 32)).alloc (.cells #[.int .u8 0, .int .u8 0, .int .u8 0, .int .u8 0, .int .u8 0, .int .u8 0, .int .u8 0, .int .u8 0, .int .u8 0, .int .u8 0, .int .u8 0, .int .u8 0, .int .u8 0, .int .u8 0, .int .u8 0, .int .u8 0, .int .u8 0, .int .u8 0, .int .u8 0, .int .u8 0] 32))) := Lib.hid (((Below.refl _ _).alloc (Nat.le_refl _) _).alloc (by simp) _)
  have hrl := withZ_length l i bit
  rw [hl] at hrl
  obtain ⟨R, hR⟩ : ∃ R, withZ l i bit = R := ⟨_, rfl⟩
  rw [hR] at hrl ⊢
  have HRL := Lib.hid hrl
  have haR : Hid (IsAgg Try.prog 32 (bytesV R).length) := Lib.hid (by rw [bytes_len hrl]; exact aggID)
  have HSZ : Hid ((Try.prog.info? 32).map (·.size) = some (bytesV R).toArray.size) := Lib.hid (by rw [bytes_size hrl]; kernel_rfl)
  clear hrl
  by_cases hin : 0 ≤ i ∧ i < 160
  · obtain ⟨n, rfl⟩ := Int.eq_ofNat_of_zero_le hin.1
    have hn : n < 160 := by omega
    rw [withZ_in l n bit hn] at hR
    obtain ⟨x, hx⟩ : ∃ x, l[n / 8]? = some x := ⟨l[n / 8]'(by omega), List.getElem?_eq_getElem _⟩
    have hws := withB_set l n x hx
    have c1 := i1.out.cell hx
    obtain ⟨m, hm⟩ : ∃ m, 7 - n % 8 = m := ⟨_, rfl⟩
    have hm8 : m < 8 := by omega
    have HMK := Lib.hid (fun w => ident_mask n m hm hn w)
    have HMY := Lib.hid (fun w => may_in (n : Int) hin.1 hin.2 w)
    rw [hm] at hws
    obtain ⟨j, hj⟩ : ∃ j, n / 8 = j := ⟨_, rfl⟩
    rw [hj] at c1 hws
    have t1 : (n : Int).tdiv 8 = (j : Int) := by rw [Int.tdiv_eq_ediv_of_nonneg (by omega)]; omega
    have t0 : (n : Int) / 8 = (j : Int) := by omega
    have t4 : IntKind.i64.wrap (j : Int) = (j : Int) := by rw [IntKind.wrap_i64]; omega
    have t5 : (j : Int) < 20 := by omega
    have hp := pow_lt8 ⟨m, hm8⟩
    have h1 := andNot_pow ⟨x.toNat, x.toNat_lt⟩ ⟨m, hm8⟩
    have h2 := or_pow ⟨x.toNat, x.toNat_lt⟩ ⟨m, hm8⟩
    simp only at h1 h2 hp
    have hf := flip_lt ⟨x.toNat, x.toNat_lt⟩ ⟨m, hm8⟩
    simp only at hf
    have b1 := u8_andNot_nat x.toNat (2 ^ m) x.toNat_lt hp
    have b2 := u8_or_nat x.toNat (2 ^ m) x.toNat_lt hp
    have hx8 := x.toNat_lt
    have hz := i1.out.free j
    obtain ⟨z, hzz, hzR⟩ : ∃ z : UInt8, (z.toNat = if decide (bit ≠ 0) = true then (x.toNat ||| 2 ^ m) else (x.toNat &&& (255 - 2 ^ m))) ∧ R = l.set j z := by
      by_cases hb0 : bit = 0
      · have hd : decide (bit ≠ 0) = false := by simp [hb0]
        refine ⟨UInt8.ofNat (x.toNat &&& (255 - 2 ^ m)), ?_, ?_⟩
        · rw [hd, if_neg (by decide), UInt8.toNat_ofNat', Nat.mod_eq_of_lt (by rw [h1]; split <;> omega)]
        · rw [← hR, hd]
          refine hws false _ ?_
          rw [UInt8.toNat_ofNat', Nat.mod_eq_of_lt (by rw [h1]; split <;> omega), h1]
          cases x.toNat.testBit m <;> simp
      · have hd : decide (bit ≠ 0) = true := by simp [hb0]
        refine ⟨UInt8.ofNat (x.toNat ||| 2 ^ m), ?_, ?_⟩
        · rw [hd, if_pos rfl, UInt8.toNat_ofNat', Nat.mod_eq_of_lt (by rw [h2]; split <;> omega)]
        · rw [← hR, hd]
          refine hws true _ ?_
          rw [UInt8.toNat_ofNat', Nat.mod_eq_of_lt (by rw [h2]; split <;> omega), h2]
    have HZR := Lib.hid hzR
    clear hR hws h1 h2 hf hm hj hx hzR
    by_cases hb0 : bit = 0
    · have hd : decide (bit ≠ 0) = false := by simp [hb0]
      rw [hd, if_neg (by decide)] at hzz
      rw [← hzz] at b1
      subst hb0
      clear hzz b2 hd
      generalize 2 ^ m = M at *
      generalize x.toNat = xn at *
      go_enter Try.func41, Try.ntmps41
      go_wp2_with fail
      generalize ((w.alloc (.cells (bytesV l).toArray 32)).alloc (.cells #[.int .u8 0, .int .u8 0, .int .u8 0, .int .u8 0, .int .u8 0, .int .u8 0, .int .u8 0, .int .u8 0, .int .u8 0, .int .u8 0, .int .u8 0, .int .u8 0, .int .u8 0, .int .u8 0, .int .u8 0, .int .u8 0, .int .u8 0, .int .u8 0, .int .u8 0, .int .u8 0] 32)) = W2 at *
      refine (HMY.out _).mono ?_; rintro e w3 ⟨rfl, rfl⟩
      go_wp2_with fail
      go_still_tail 8, (by kernel_rfl)
      still_call (HMK.out _)
      repeat still_step
      refine wpStill_nil ?_
      change wpList _ _ _ _ _ w3.drew
      have k1 : Hid (BB 32 ((w3.setCell ⟨w.heap.size, j, none⟩ (.int .u8 (z.toNat : Int))).drew) w.heap.size R) := Lib.hid (by rw [HZR.out]; exact BB.set_ i1.out j z)
      have on : Only (· = w.heap.size) w3 ((w3.setCell ⟨w.heap.size, j, none⟩ (.int .u8 (z.toNat : Int))).drew) := (Only.set_ _ _ _ _).drewN 1
      have k2 := Lib.hid (BB.far (S := (· = w.heap.size)) i2.out on (by omega))
      have k5 := Lib.hid (i5.out.trans (Only.below on i5.out.size fun k hk he => by omega))
      clear on
      go_wp2_with (refine wpList_load_agg (o := ⟨some 30, _, _, _, _, _⟩) rfl _ (.tmp 3) rfl _ rfl (bytesV R) k1.out.row haR.out ?_
                   refine wpList_store_row (o := ⟨none, _, _, _, _, _⟩) rfl _ (.tmp 6) (.tmp 30) rfl (w.heap.size + 1) rfl (bytesV R) rfl _ _ k2.out 20 (by kernel_rfl) (bytes_len HRL.out) (bytes_size (by simp)) (bytesV_one _) ?_)
      have hw2 := BB.setRow k2.out R
      exact bodyPost_ret (results_cell_row Try.results41 _ _ (w.heap.size + 1) _ _ _ _ rfl hw2 Try.underlying32 rfl HSZ.out) rfl ⟨rfl, k5.out.trans (Only.below (S := (· = w.heap.size + 1)) (Only.setRow _ _ _) k5.out.size fun k hk => by omega)⟩
    · have hd : decide (bit ≠ 0) = true := by simp [hb0]
      rw [hd, if_pos rfl] at hzz
      rw [← hzz] at b2
      clear hzz b1 hd
      generalize 2 ^ m = M at *
      generalize x.toNat = xn at *
      go_enter Try.func41, Try.ntmps41
      go_wp2_with fail
      generalize ((w.alloc (.cells (bytesV l).toArray 32)).alloc (.cells #[.int .u8 0, .int .u8 0, .int .u8 0, .int .u8 0, .int .u8 0, .int .u8 0, .int .u8 0, .int .u8 0, .int .u8 0, .int .u8 0, .int .u8 0, .int .u8 0, .int .u8 0, .int .u8 0, .int .u8 0, .int .u8 0, .int .u8 0, .int .u8 0, .int .u8 0, .int .u8 0] 32)) = W2 at *
      refine (HMY.out _).mono ?_; rintro e w3 ⟨rfl, rfl⟩
      go_wp2_with fail
      go_still_tail 8, (by kernel_rfl)
      still_call (HMK.out _)
      repeat still_step
      refine wpStill_nil ?_
      change wpList _ _ _ _ _ w3.drew
      have k1 : Hid (BB 32 ((w3.setCell ⟨w.heap.size, j, none⟩ (.int .u8 (z.toNat : Int))).drew) w.heap.size R) := Lib.hid (by rw [HZR.out]; exact BB.set_ i1.out j z)
      have on : Only (· = w.heap.size) w3 ((w3.setCell ⟨w.heap.size, j, none⟩ (.int .u8 (z.toNat : Int))).drew) := (Only.set_ _ _ _ _).drewN 1
      have k2 := Lib.hid (BB.far (S := (· = w.heap.size)) i2.out on (by omega))
      have k5 := Lib.hid (i5.out.trans (Only.below on i5.out.size fun k hk he => by omega))
      clear on
      go_wp2_with (refine wpList_load_agg (o := ⟨some 30, _, _, _, _, _⟩) rfl _ (.tmp 3) rfl _ rfl (bytesV R) k1.out.row haR.out ?_
                   refine wpList_store_row (o := ⟨none, _, _, _, _, _⟩) rfl _ (.tmp 6) (.tmp 30) rfl (w.heap.size + 1) rfl (bytesV R) rfl _ _ k2.out 20 (by kernel_rfl) (bytes_len HRL.out) (bytes_size (by simp)) (bytesV_one _) ?_)
      have hw2 := BB.setRow k2.out R
      exact bodyPost_ret (results_cell_row Try.results41 _ _ (w.heap.size + 1) _ _ _ _ rfl hw2 Try.underlying32 rfl HSZ.out) rfl ⟨rfl, k5.out.trans (Only.below (S := (· = w.heap.size + 1)) (Only.setRow _ _ _) k5.out.size fun k hk => by omega)⟩
  · have ho : i < 0 ∨ 160 ≤ i := by omega
    rw [withZ_out l i bit ho] at hR
    subst hR
    have HMY := Lib.hid (fun w => may_out i ho w)
    clear hin ho
    go_enter Try.func41, Try.ntmps41
    go_wp2_with fail
    generalize ((w.alloc (.cells (bytesV l).toArray 32)).alloc (.cells #[.int .u8 0, .int .u8 0, .int .u8 0, .int .u8 0, .int .u8 0, .int .u8 0, .int .u8 0, .int .u8 0, .int .u8 0, .int .u8 0, .int .u8 0, .int .u8 0, .int .u8 0, .int .u8 0, .int .u8 0, .int .u8 0, .int .u8 0, .int .u8 0, .int .u8 0, .int .u8 0] 32)) = W2 at *
    refine (HMY.out _).mono ?_; rintro e w3 ⟨rfl, rfl⟩
    go_wp2_with (refine wpList_load_agg (o := ⟨some 30, _, _, _, _, _⟩) rfl _ (.tmp 3) rfl _ rfl (bytesV l) i1.out.row haR.out ?_
                 refine wpList_store_row (o := ⟨none, _, _, _, _, _⟩) rfl _ (.tmp 6) (.tmp 30) rfl (w.heap.size + 1) rfl (bytesV l) rfl _ _ i2.out 20 (by kernel_rfl) (bytes_len HRL.out) (bytes_size (by simp)) (bytesV_one _) ?_)
    have hw2 := BB.setRow i2.out l
    exact bodyPost_ret (results_cell_row Try.results41 _ _ (w.heap.size + 1) _ _ _ _ rfl hw2 Try.underlying32 rfl HSZ.out) rfl ⟨rfl, i5.out.trans (Only.below (S := (· = w.heap.size + 1)) (Only.setRow _ _ _) i5.out.size fun k hk => by omega)⟩
end Go.Proofs.Ytjdmbegmbffhfaa
