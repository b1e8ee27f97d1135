/-
  What ident.may, mask, Bit, With compute. Conditions: the id is twenty bytes.
-/
import Derived.Test.YtjdmbegmbffhfaaIdR
import Derived.Test.YtjdmbegmbffhfaaIdF
import Derived.Deep.QuietTactic
import Derived.BigQuiet
namespace Go.Proofs.Ytjdmbegmbffhfaa
open Go.RowKit

set_option maxHeartbeats 400000 in
theorem may_in (i : Int) (h0 : 0 ≤ i) (h1 : i < 160) (w : World) : Calls Try.prog 76 #[.int .i64 i] w fun e w' => e = .returned (.bool true) ∧ w' = w := by
  go_enter Try.func76, Try.ntmps76
  go_wp2
  go_ret
  exact ⟨rfl, rfl⟩
set_option maxHeartbeats 400000 in
theorem may_out (i : Int) (h : i < 0 ∨ 160 ≤ i) (w : World) : Calls Try.prog 76 #[.int .i64 i] w fun e w' => e = .returned (.bool false) ∧ w' = w := by
  rcases h with h | h
  · go_enter Try.func76, Try.ntmps76
    go_wp2
    go_ret
    exact ⟨rfl, rfl⟩
  · have h0 : 0 ≤ i := by omega
    have hnf : ¬ i < 160 := by omega
    go_enter Try.func76, Try.ntmps76
    go_wp2
    go_ret
    exact ⟨rfl, rfl⟩

set_option maxHeartbeats 400000 in
theorem ident_mask (n m : Nat) (hm : 7 - n % 8 = m) (hn : n < 160) (w : World) : Calls Try.prog 77 #[.int .i64 (n : Int)] w fun e w' => e = .returned (.int .u8 ((2 ^ m : Nat) : Int)) ∧ w' = w := by
  have hc : (n : Int) % 8 = 0 ∧ m = 7 ∨ (n : Int) % 8 = 1 ∧ m = 6 ∨ (n : Int) % 8 = 2 ∧ m = 5 ∨ (n : Int) % 8 = 3 ∧ m = 4 ∨ (n : Int) % 8 = 4 ∧ m = 3 ∨ (n : Int) % 8 = 5 ∧ m = 2 ∨ (n : Int) % 8 = 6 ∧ m = 1 ∨ (n : Int) % 8 = 7 ∧ m = 0 := by omega
  rcases hc with ⟨h, rfl⟩ | ⟨h, rfl⟩ | ⟨h, rfl⟩ | ⟨h, rfl⟩ | ⟨h, rfl⟩ | ⟨h, rfl⟩ | ⟨h, rfl⟩ | ⟨h, rfl⟩
  all_goals
    clear hm
    go_enter Try.func77, Try.ntmps77
    go_wp2
    go_ret
    exact ⟨rfl, rfl⟩

theorem and_pow : ∀ (x : Fin 256) (m : Fin 8), x.val &&& 2 ^ m.val = if x.val.testBit m.val then 2 ^ m.val else 0 := by decide +kernel
theorem andNot_pow : ∀ (x : Fin 256) (m : Fin 8), x.val &&& (255 - 2 ^ m.val) = if x.val.testBit m.val then x.val ^^^ 2 ^ m.val else x.val := by decide +kernel
theorem or_pow : ∀ (x : Fin 256) (m : Fin 8), x.val ||| 2 ^ m.val = if x.val.testBit m.val then x.val else x.val ^^^ 2 ^ m.val := by decide +kernel
theorem pow_lt8 : ∀ m : Fin 8, 2 ^ m.val < 256 := by decide

/-- A bit, at any place. -/
def bitZ (l : List UInt8) (i : Int) : Int := if 0 ≤ i ∧ i < 160 then bitN l i.toNat else 0
theorem bitZ_in (l : List UInt8) (n : Nat) (h : n < 160) : bitZ l (n : Int) = bitN l n := by
  unfold bitZ
  rw [if_pos (by omega), Int.toNat_natCast]
theorem bitZ_out (l : List UInt8) (i : Int) (h : i < 0 ∨ 160 ≤ i) : bitZ l i = 0 := by
  unfold bitZ
  rw [if_neg (by omega)]
theorem bitN_at (l : List UInt8) (n : Nat) (x : UInt8) (hx : l[n / 8]? = some x) : bitN l n = if x.toNat.testBit (7 - n % 8) then 1 else 0 := by
  unfold bitN bitB
  rw [hx]
  rfl

set_option maxRecDepth 100000 in
set_option maxHeartbeats 1000000 in
theorem ident_Bit (l : List UInt8) (hl : l.length = 20) (i : Int) (hi0 : -9223372036854775808 ≤ i) (hi1 : i ≤ 9223372036854775807) (w : World) :
    Calls Try.prog 39 #[.agg (bytesV l).toArray, .int .i64 i] w fun e w' => e = .returned (.int .i64 (bitZ l i)) ∧ Below w.heap.size w w' := by
  have sa := bytes_size hl
  have i1 : BB 32 (w.alloc (.cells (bytesV l).toArray 32)) w.heap.size l := heap_alloc_new _ _
  have i5 : Hid (Below w.heap.size w (w.alloc (.cells (bytesV l).toArray 32))) := Lib.hid ((Below.refl _ _).alloc (Nat.le_refl _) _)
  by_cases hin : 0 ≤ i ∧ i < 160
  · obtain ⟨n, rfl⟩ := Int.eq_ofNat_of_zero_le hin.1
    have hn : n < 160 := by omega
    rw [bitZ_in l n hn]
    obtain ⟨x, hx⟩ : ∃ x, l[n / 8]? = some x := ⟨l[n / 8]'(by omega), List.getElem?_eq_getElem _⟩
    rw [bitN_at l n x hx]
    have c1 := i1.cell hx
    obtain ⟨m, hm⟩ : ∃ m, 7 - n % 8 = m := ⟨_, rfl⟩
    have hm8 : m < 8 := by omega
    have hmk := fun w => ident_mask n m hm hn w
    have hmy := fun w => may_in (n : Int) hin.1 hin.2 w
    rw [hm]
    obtain ⟨j, hj⟩ : ∃ j, n / 8 = j := ⟨_, rfl⟩
    rw [hj] at c1
    have t1 : (n : Int).tdiv 8 = (j : Int) := by rw [Int.tdiv_eq_ediv_of_nonneg (by omega)]; omega
    have t0 : (n : Int) / 8 = (j : Int) := by omega
    have t4 : IntKind.i64.wrap (j : Int) = (j : Int) := by rw [IntKind.wrap_i64]; omega
    have t5 : (j : Int) < 20 := by omega
    have hp := pow_lt8 ⟨m, hm8⟩
    have hpp : 0 < 2 ^ m := Nat.two_pow_pos m
    have ha := and_pow ⟨x.toNat, x.toNat_lt⟩ ⟨m, hm8⟩
    simp only at ha hp
    have hb := u8_and_nat x.toNat (2 ^ m) x.toNat_lt hp
    rw [ha] at hb
    generalize 2 ^ m = M at *
    have HMK := Lib.hid hmk
    have HMY := Lib.hid hmy
    clear hmk hmy hm hj hx ha i1
    have hx8 := x.toNat_lt
    cases hbit : x.toNat.testBit m with
    | true =>
      rw [hbit, if_pos rfl] at hb
      have hM : (M : Int) ≠ 0 := by omega
      generalize x.toNat = xn at *
      go_enter Try.func39, Try.ntmps39
      go_wp2_with fail
      go_quiet (first
        | (go_at_call 76; exact Calls.quiet_of_same (HMY.out _))
        | (go_at_call 77; exact Calls.quiet_of_same (HMK.out _)))
      go_wp2_with fail
      go_ret
      exact ⟨rfl, below_drewN i5.out _⟩
    | false =>
      rw [hbit, if_neg (by decide)] at hb
      have hb0 : bits .and .u8 (x.toNat : Int) (M : Int) = 0 := hb
      clear hb
      generalize x.toNat = xn at *
      go_enter Try.func39, Try.ntmps39
      go_wp2_with fail
      go_quiet (first
        | (go_at_call 76; exact Calls.quiet_of_same (HMY.out _))
        | (go_at_call 77; exact Calls.quiet_of_same (HMK.out _)))
      go_wp2_with fail
      go_ret
      exact ⟨rfl, below_drewN i5.out _⟩
  · have ho : i < 0 ∨ 160 ≤ i := by omega
    rw [bitZ_out l i ho]
    have HMY := Lib.hid (fun w => may_out i ho w)
    clear i1 hin ho
    go_enter Try.func39, Try.ntmps39
    go_wp2_with fail
    go_quiet (first
      | (go_at_call 76; exact Calls.quiet_of_same (HMY.out _)))
    go_wp2_with fail
    go_ret
    exact ⟨rfl, below_drewN i5.out _⟩
end Go.Proofs.Ytjdmbegmbffhfaa
