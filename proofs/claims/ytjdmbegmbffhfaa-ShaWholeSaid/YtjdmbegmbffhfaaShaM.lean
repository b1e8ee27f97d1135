/-
  The walk of ShaWhole. Conditions: the argument fits its kind.
-/
import Derived.Test.YtjdmbegmbffhfaaShaL
namespace Go.Proofs.Ytjdmbegmbffhfaa
open Go.RowKit

theorem getN_putB8 (n : Nat) (hn : n < 18446744073709551616) : getN (putB n 8) = n := by
  simp only [putB, List.range_succ, List.range_zero, List.nil_append, List.cons_append, List.map_cons, List.map_nil, getN, List.foldl_cons, List.foldl_nil, UInt8.toNat_ofNat']
  omega

theorem padB_drop (n : Nat) : (padB n).drop ((119 - n % 64) % 64 + 1) = putB (n * 8 % 18446744073709551616) 8 := by
  unfold padB
  rw [List.drop_append_of_le_length (by simp)]
  simp

set_option maxRecDepth 100000 in
set_option maxHeartbeats 1000000 in
theorem Whole_walk (n : Nat) (hn : n ≤ 18446744073709551615) (w : World) :
    Calls Try.prog 5 #[.int .u64 (n : Int)] w fun e w' => e = .returned (.bool true) ∧ Below w.heap.size w w' := by
  obtain ⟨z, hz⟩ : ∃ z, (119 - n % 64) % 64 = z := ⟨_, rfl⟩
  have hz64 : z < 64 := by omega
  have hsum : ((n : Int) % 64 + ((z : Int) + 9)) % 64 = 0 := by omega
  obtain ⟨N, hN⟩ : ∃ N, n * 8 % 18446744073709551616 = N := ⟨_, rfl⟩
  have hN2 : N < 18446744073709551616 := by omega
  have hP := sha_Pad n hn w
  have hdrop := padB_drop n
  have hlen := padB_length n
  rw [hz] at hlen hdrop
  rw [hN] at hdrop
  obtain ⟨P, hPP⟩ : ∃ P, padB n = P := ⟨_, rfl⟩
  have hp0 : P[0]? = some 128 := by rw [← hPP]; rfl
  have hpz : ∀ k, k < z → P[k + 1]? = some 0 := fun k hk => by
    rw [← hPP]
    simp [padB, hz, List.getElem?_append, hk]
  rw [hPP] at hP hlen hdrop
  have HP := Lib.hid hP
  have HZ := Lib.hid hpz
  have HD := Lib.hid hdrop
  have HLn := Lib.hid hlen
  have H0 := Lib.hid hp0
  have HNn := Lib.hid hN
  clear hP hz hdrop hPP hlen hp0 hpz hN
  go_enter Try.func5, Try.ntmps5
  go_wp2_with fail
  refine HP.out.mono ?_; rintro e w2 ⟨v', rfl, hsl, hb⟩
  obtain ⟨A, cap, rfl, hc1, hc2, hby⟩ := SLb.bytes hsl
  have hPl : P.length = z + 9 := by rw [HLn.out]; omega
  rw [hPl] at hc1 ⊢
  have HB := Lib.hid hby
  have HBl := Lib.hid hb
  obtain ⟨ad, rfl⟩ : ∃ ad, A = some ad := by
    cases A with
    | some ad => exact ⟨ad, rfl⟩
    | none =>
      have := hby.nil_ rfl
      rw [this] at hPl
      simp at hPl
  obtain ⟨ab, ao, rfl⟩ : ∃ ab ao, ad = ⟨ab, ao, none⟩ := by
    obtain ⟨_, _, he, _, _, _, hs'⟩ := SL.shape hsl
    injection he with he1 _ _
    subst he1
    have := (hs' ad rfl).2.2
    exact ⟨ad.block, ad.off, by cases ad; simp_all⟩
  have hrow := hby.row _ rfl
  have c0 : w2.cell? ⟨ab, ao, none⟩ = some (.int .u8 128) := by
    have := hrow 0 (.int .u8 128) (by simp [bytesV, H0.out, byteV])
    rwa [add_mk] at this
  have HR := Lib.hid hrow
  have hPL := Lib.hid hPl
  have g9 : (0 : Int) ≤ (z : Int) + 9 - 8 := by omega
  clear hsl hby hb hPl hrow
  go_wp2_with fail
  rw [show z + 9 - 8 = z + 1 by omega, show z + 9 - (z + 1) = 8 by omega]
  go_loopw [4, 41] (fun n i wr => ∃ k : Nat, i = .int .i64 k ∧ k ≤ 8 ∧ n = .int .u64 (getN ((putB N 8).take k) : Int) ∧ wr = w2) (fun _ i _ => 8 - (intOf i).toNat)
  case atStart => exact ⟨0, rfl, by omega, rfl, rfl⟩
  case round =>
    obtain ⟨k, rfl, hk, rfl, rfl⟩ := hrel
    by_cases hlt : k < 8
    · obtain ⟨x, hx⟩ : ∃ x, (putB N 8)[k]? = some x := ⟨(putB N 8)[k]'(by rw [putB_length]; exact hlt), List.getElem?_eq_getElem _⟩
      have hcell : wr.cell? ⟨ab, ao + (z + 1) + k, none⟩ = some (.int .u8 (x.toNat : Int)) := by
        rw [Nat.add_assoc, ← add_mk]
        exact HR.out (z + 1 + k) _ (by rw [← HD.out, List.getElem?_drop] at hx; simp [bytesV, hx, byteV])
      obtain ⟨m, HM⟩ : ∃ m, Hid (m = getN ((putB N 8).take k)) := ⟨_, rfl⟩
      rw [← HM.out]
      have hm : m < 72057594037927936 := by
        have h1 := getN_lt ((putB N 8).take k)
        have h2 : 256 ^ ((putB N 8).take k).length ≤ 256 ^ 7 := Nat.pow_le_pow_right (by omega) (by rw [List.length_take]; omega)
        rw [← HM.out] at h1
        omega
      have hx8 := x.toNat_lt
      have hnew : Hid (m * 256 + x.toNat = getN ((putB N 8).take (k + 1))) := by
        rw [List.take_add_one, hx, Option.toList_some, getN_snoc, ← HM.out]; exact rfl
      have hor : bits .or .u64 ((m : Int) * 256) (x.toNat : Int) = (m : Int) * 256 + (x.toNat : Int) := by
        have h1 := u64_or_nat (m * 256) x.toNat (by omega) (by omega)
        rw [nat_join 8 (m * 256) x.toNat (by omega) (by omega)] at h1
        have e1 : ((m * 256 : Nat) : Int) = (m : Int) * 256 := by omega
        rw [e1] at h1
        rw [h1]; omega
      clear hx
      generalize x.toNat = xn at *
      go_wp2_with fail
      go_roundw
      case rel => exact ⟨k + 1, by go_num, by omega, by rw [← hnew.out]; congr 1, trivial⟩
      case measure => simp [intOf]; omega
    · have hg8 : getN ((putB N 8).take k) = N := by
        rw [List.take_of_length_le (by rw [putB_length]; omega), getN_putB8 N hN2]
      rw [hg8]
      have hge : (8 : Int) ≤ (k : Int) := by omega
      obtain ⟨k0, rfl⟩ : ∃ k0 : Nat, k0 = k := ⟨_, rfl⟩
      obtain ⟨wo, rfl⟩ : ∃ wo : World, wo = wr := ⟨_, rfl⟩
      clear hg8
      go_wp2_with fail
      go_loopw [57] (fun i wr => ∃ k : Nat, i = .int .i64 k ∧ k ≤ z ∧ wr = wo) (fun i _ => z - (intOf i).toNat)
      case atStart => exact ⟨0, rfl, by omega, rfl⟩
      case round =>
        obtain ⟨k, rfl, hk, rfl⟩ := hrel
        by_cases hlt : k < z
        · have hcell : wr.cell? ⟨ab, ao + 1 + k, none⟩ = some (.int .u8 0) := by
            rw [Nat.add_assoc, ← add_mk]
            exact HR.out (1 + k) _ (by simp [bytesV, Nat.add_comm 1 k, HZ.out k hlt, byteV])
          go_wp2_with fail
          go_roundw
          case rel => exact ⟨k + 1, by go_num, by omega, trivial⟩
          case measure => simp [intOf]; omega
        · have e8 : IntKind.u64.wrap ((n : Int) * 8) = (N : Int) := by rw [IntKind.wrap_u64]; have := HNn.out; omega
          go_wp2_with fail
          refine (lives02 _).mono ?_; rintro e w5 ⟨rfl, hb5⟩
          go_wp2_with fail
          go_ret
          exact ⟨rfl, HBl.out.trans (hb5.mono HBl.out.size)⟩
end Go.Proofs.Ytjdmbegmbffhfaa
