/-
  What clock.Add, clock.Sub, inst.End, decay.Share, decay.Last and decay.Until compute. Conditions: the arguments fit their kinds.
-/
import Derived.Test.YtjdmbegmbffhfaaRows
import Derived.Test.YtjdmbegmbffhfaaMem
import Derived.WalkKit
import Derived.ProofKit
import Derived.WalkLawsBesides
import Derived.WalkSpells
namespace Go.Proofs.Ytjdmbegmbffhfaa
open Go.RowKit

abbrev u64max : Int := 18446744073709551615
/-- An instance as its cells; what of them is looked at. -/
structure Ins where
  cs : List Value
  born : Int
  life : Int
  tgt : ByteArray
structure Ins.Ok (x : Ins) : Prop where
  len : x.cs.length = 28
  hborn : x.cs[21]? = some (.int .u64 x.born)
  hlife : x.cs[22]? = some (.int .u32 x.life)
  htgt : x.cs[27]? = some (.string x.tgt)
  b0 : 0 ≤ x.born
  b1 : x.born ≤ 18446744073709551615
  l0 : 0 ≤ x.life
  l1 : x.life ≤ 4294967295
  tsize : x.tgt.size ≤ maxLen
  one : ∀ v ∈ x.cs, v.oneCell' = true
def Ins.fin (x : Ins) : Int := min (x.born + x.life) 18446744073709551615

theorem ret_int {k : IntKind} {a b : Int} (h : a = b) : Ending.returned (.int k a) = .returned (.int k b) := by rw [h]
theorem ret_bool {a b : Bool} (h : a = b) : Ending.returned (.bool a) = .returned (.bool b) := by rw [h]

theorem wrap_u64_low {x : Int} (h : 18446744073709551616 ≤ x) (h' : x < 36893488147419103232) : IntKind.u64.wrap x = x - 18446744073709551616 := by
  rw [IntKind.wrap_u64]; omega

set_option maxHeartbeats 400000 in
theorem Add_any (a b : Int) (ha : 0 ≤ a) (ha' : a ≤ 18446744073709551615) (hb : 0 ≤ b) (hb' : b ≤ 18446744073709551615) (w : World) :
    Calls Try.prog 63 #[.int .u64 a, .int .u64 b] w fun e w' => e = .returned (.int .u64 (min (a + b) 18446744073709551615)) ∧ w = w' := by
  by_cases h : a + b ≤ 18446744073709551615
  · go_enter Try.func63, Try.ntmps63
    go_wp2
    go_ret
    exact ⟨ret_int (by omega), rfl⟩
  · have hw := wrap_u64_low (x := a + b) (by omega) (by omega)
    go_enter Try.func63, Try.ntmps63
    go_wp2
    go_ret
    exact ⟨ret_int (by omega), rfl⟩

set_option maxHeartbeats 400000 in
theorem Sub_any (a b : Int) (ha : 0 ≤ a) (ha' : a ≤ 18446744073709551615) (hb : 0 ≤ b) (hb' : b ≤ 18446744073709551615) (w : World) :
    Calls Try.prog 64 #[.int .u64 a, .int .u64 b] w fun e w' => e = .returned (.int .u64 (a - min a b)) ∧ w = w' := by
  go_enter Try.func64, Try.ntmps64
  go_wp2
  all_goals
    go_ret
    exact ⟨ret_int (by omega), rfl⟩

set_option maxHeartbeats 400000 in
theorem End_any (x : Ins) (h : x.Ok) (w : World) :
    Calls Try.prog 62 #[.agg x.cs.toArray] w fun e w' => e = .returned (.int .u64 x.fin) ∧ Below w.heap.size w w' := by
  have hc21 : (w.alloc (.cells x.cs.toArray 99)).cell? ⟨w.heap.size, 21, none⟩ = some (.int .u64 x.born) := by simp [h.hborn]
  have hc22 : (w.alloc (.cells x.cs.toArray 99)).cell? ⟨w.heap.size, 22, none⟩ = some (.int .u32 x.life) := by simp [h.hlife]
  have b0 := h.b0
  have b1 := h.b1
  have l0 := h.l0
  have l1 := h.l1
  go_enter Try.func62, Try.ntmps62
  go_wp2
  all_goals
    go_ret
    exact ⟨ret_int (by unfold Ins.fin; omega), (Below.refl _ _).alloc (Nat.le_refl _) _⟩

def halves (life : Int) (n : Nat) : Int := life / 2 ^ n

set_option maxHeartbeats 400000 in
theorem Halve_any (life : Int) (a : Addr) (h0 : 0 ≤ life) (h1 : life ≤ 18446744073709551615) (w : World) (hc : w.cell? a = some (.int .u64 life)) (hf : w.frozen? a = false) :
    Calls Try.prog 61 #[.pointer (some a)] w fun e w' => e = .returned (.tuple #[]) ∧ w' = w.setCell a (.int .u64 (life / 2)) := by
  go_enter Try.func61, Try.ntmps61
  go_wp2
  go_end0
  exact ⟨rfl, rfl⟩

theorem pow_step (life : Int) (n : Nat) : life / 2 ^ n / 2 = life / 2 ^ (n + 1) := by
  rw [Int.pow_succ, Int.ediv_ediv_of_nonneg (Int.pow_nonneg (by omega))]
theorem pow_bd (life : Int) (h0 : 0 ≤ life) (n : Nat) : 0 ≤ life / 2 ^ n ∧ life / 2 ^ n ≤ life :=
  ⟨Int.ediv_nonneg h0 (Int.pow_nonneg (by omega)), Int.ediv_le_self _ h0⟩

/-- What a copy's life is. -/
def share (life rank k : Int) : Int := if rank < k then life else life / 2 ^ (min 64 (rank - k + 1).toNat)

set_option maxHeartbeats 400000 in
theorem Share_hi (life rank k : Int) (h0 : 0 ≤ life) (h1 : life ≤ 18446744073709551615) (r0 : -9223372036854775808 ≤ rank) (r1 : rank ≤ 9223372036854775807) (k0 : -9223372036854775808 ≤ k) (k1 : k ≤ 9223372036854775807) (h : k ≤ rank) (w : World) :
    Calls Try.prog 16 #[.int .u64 life, .int .i64 rank, .int .i64 k] w fun e w' => e = .returned (.int .u64 (life / 2 ^ (min 64 (rank - k + 1).toNat))) ∧ Below w.heap.size w w' := by
  have hd : IntKind.u64.wrap (IntKind.u64.wrap rank - IntKind.u64.wrap k) = rank - k := by simp only [IntKind.wrap_u64]; omega
  go_enter Try.func16, Try.ntmps16
  go_wp2
  go_loopw [8, 14] (fun _ i wr => ∃ n : Nat, n ≤ 64 ∧ (n : Int) ≤ rank - k + 1 ∧ i = .int .i64 n ∧ wr = w.alloc (.cells #[.int .u64 (life / 2 ^ n)] 22)) (fun _ i _ => 64 - (intOf i).toNat)
  case atStart => exact ⟨0, by omega, by omega, rfl, by simp⟩
  case round =>
    obtain ⟨n, hn, hk, rfl, rfl⟩ := hrel
    obtain ⟨p0, p1⟩ := pow_bd life h0 n
    have p2 : life / 2 ^ n ≤ 18446744073709551615 := by omega
    by_cases hlt : n < 64
    · by_cases hle : (n : Int) ≤ rank - k
      · go_wp2_with (go_at_call 61; refine (Halve_any (life / 2 ^ n) _ p0 p2 _ (by simp) (by simp)).mono ?_; rintro e w' ⟨rfl, rfl⟩)
        go_roundw
        case rel => exact ⟨n + 1, by omega, by omega, by go_num, by simp [pow_step]⟩
        case measure => simp [intOf]; omega
      · go_wp2
        go_ret
        exact ⟨ret_int (by rw [show min 64 (rank - k + 1).toNat = n from by omega]), (Below.refl _ _).alloc (Nat.le_refl _) _⟩
    · go_wp2
      go_ret
      exact ⟨ret_int (by rw [show min 64 (rank - k + 1).toNat = n from by omega]), (Below.refl _ _).alloc (Nat.le_refl _) _⟩

set_option maxHeartbeats 400000 in
theorem Share_any (life rank k : Int) (h0 : 0 ≤ life) (h1 : life ≤ 18446744073709551615) (r0 : -9223372036854775808 ≤ rank) (r1 : rank ≤ 9223372036854775807) (k0 : -9223372036854775808 ≤ k) (k1 : k ≤ 9223372036854775807) (w : World) :
    Calls Try.prog 16 #[.int .u64 life, .int .i64 rank, .int .i64 k] w fun e w' => e = .returned (.int .u64 (share life rank k)) ∧ Below w.heap.size w w' := by
  unfold share
  by_cases h : rank < k
  · rw [if_pos h]
    go_enter Try.func16, Try.ntmps16
    go_wp2
    go_ret
    exact ⟨rfl, (Below.refl _ _).alloc (Nat.le_refl _) _⟩
  · rw [if_neg h]
    exact Share_hi life rank k h0 h1 r0 r1 k0 k1 (by omega) w

theorem share_bd (life rank k : Int) (h0 : 0 ≤ life) : 0 ≤ share life rank k ∧ share life rank k ≤ life := by
  unfold share
  split
  · omega
  · exact pow_bd life h0 _
end Go.Proofs.Ytjdmbegmbffhfaa
