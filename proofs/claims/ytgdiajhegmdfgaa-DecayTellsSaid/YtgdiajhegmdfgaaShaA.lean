/-
  Words of 32 bits in the walk; what bits.RotateLeft32, sha.begin, sha.mix compute. Conditions: the arguments fit their kinds.
-/
import Derived.Test.YtgdiajhegmdfgaaOctet
namespace Go.Proofs.Ytgdiajhegmdfgaa
open Go.RowKit

/-- A word as a value. -/
def w32 (x : Nat) : Value := .int .u32 (x : Int)
/-- A word turned left. -/
def rotl (n x : Nat) : Nat := (x * 2 ^ n % 4294967296) ||| (x / 2 ^ (32 - n))

theorem or_lt32 {a b : Nat} (ha : a < 4294967296) (hb : b < 4294967296) : a ||| b < 4294967296 := Nat.or_lt_two_pow (n := 32) ha hb
theorem and_lt32 {a b : Nat} (hb : b < 4294967296) : a &&& b < 4294967296 := Nat.and_lt_two_pow (n := 32) a hb
theorem xor_lt32 {a b : Nat} (ha : a < 4294967296) (hb : b < 4294967296) : a ^^^ b < 4294967296 := Nat.xor_lt_two_pow (n := 32) ha hb
theorem rotl_lt (n x : Nat) (hx : x < 4294967296) : rotl n x < 4294967296 :=
  or_lt32 (Nat.mod_lt _ (by omega)) (Nat.lt_of_le_of_lt (Nat.div_le_self _ _) hx)

set_option maxHeartbeats 400000 in
theorem begin_any (w : World) : Calls Try.prog 77 #[] w fun e w' =>
    e = .returned (.agg #[.int .u32 1732584193, .int .u32 4023233417, .int .u32 2562383102, .int .u32 271733878, .int .u32 3285377520]) ∧ Below w.heap.size w w' := by
  go_enter Try.func77, Try.ntmps77
  go_wp2
  exact bodyPost_ret (v := .agg #[.int .u32 1732584193, .int .u32 4023233417, .int .u32 2562383102, .int .u32 271733878, .int .u32 3285377520]) (by simp [results, Try.results77, go_sem]) rfl ⟨rfl, (Below.refl _ _).alloc (Nat.le_refl _) _⟩

set_option maxHeartbeats 400000 in
theorem rotl_1 (x : Nat) (hx : x < 4294967296) (w : World) : Calls Try.prog 95 #[.int .u32 (x : Int), .int .i64 1] w fun e w' => e = .returned (.int .u32 ((rotl 1 x : Nat) : Int)) ∧ w = w' := by
  have h1 : bits .or .u32 ((x : Int) * 2 % 4294967296) ((x : Int) / 2147483648) = ((rotl 1 x : Nat) : Int) := by
    have := u32_or_nat (x * 2 ^ 1 % 4294967296) (x / 2 ^ 31) (by omega) (by omega)
    unfold rotl
    rw [← this]
    congr 1
  have h0 : bits .and .u64 1 31 = 1 := by kernel_rfl
  go_enter Try.func95, Try.ntmps95
  go_wp2
  go_ret
  exact ⟨rfl, rfl⟩

set_option maxHeartbeats 400000 in
theorem rotl_5 (x : Nat) (hx : x < 4294967296) (w : World) : Calls Try.prog 95 #[.int .u32 (x : Int), .int .i64 5] w fun e w' => e = .returned (.int .u32 ((rotl 5 x : Nat) : Int)) ∧ w = w' := by
  have h1 : bits .or .u32 ((x : Int) * 32 % 4294967296) ((x : Int) / 134217728) = ((rotl 5 x : Nat) : Int) := by
    have := u32_or_nat (x * 2 ^ 5 % 4294967296) (x / 2 ^ 27) (by omega) (by omega)
    unfold rotl
    rw [← this]
    congr 1
  have h0 : bits .and .u64 5 31 = 5 := by kernel_rfl
  go_enter Try.func95, Try.ntmps95
  go_wp2
  go_ret
  exact ⟨rfl, rfl⟩

set_option maxHeartbeats 400000 in
theorem rotl_30 (x : Nat) (hx : x < 4294967296) (w : World) : Calls Try.prog 95 #[.int .u32 (x : Int), .int .i64 30] w fun e w' => e = .returned (.int .u32 ((rotl 30 x : Nat) : Int)) ∧ w = w' := by
  have h1 : bits .or .u32 ((x : Int) * 1073741824 % 4294967296) ((x : Int) / 4) = ((rotl 30 x : Nat) : Int) := by
    have := u32_or_nat (x * 2 ^ 30 % 4294967296) (x / 2 ^ 2) (by omega) (by omega)
    unfold rotl
    rw [← this]
    congr 1
  have h0 : bits .and .u64 30 31 = 30 := by kernel_rfl
  go_enter Try.func95, Try.ntmps95
  go_wp2
  go_ret
  exact ⟨rfl, rfl⟩

set_option maxHeartbeats 400000 in
theorem mix_0 (i : Int) (b c d : Nat) (hb : b < 4294967296) (hc : c < 4294967296) (hd : d < 4294967296) (h : i < 20) (w : World) : Calls Try.prog 94 #[.int .i64 i, .int .u32 (b : Int), .int .u32 (c : Int), .int .u32 (d : Int)] w fun e w' =>
    e = .returned (.tuple #[.int .u32 ((d ^^^ (b &&& (c ^^^ d)) : Nat) : Int), .int .u32 1518500249]) ∧ w = w' := by
  have h1 := u32_xor_nat c d hc hd
  have h2 := u32_and_nat b (c ^^^ d) hb (xor_lt32 hc hd)
  have h3 := u32_xor_nat d (b &&& (c ^^^ d)) hd (and_lt32 (xor_lt32 hc hd))
  go_enter Try.func94, Try.ntmps94
  go_wp2
  go_ret2
  exact ⟨rfl, rfl⟩

set_option maxHeartbeats 400000 in
theorem mix_1 (i : Int) (b c d : Nat) (hb : b < 4294967296) (hc : c < 4294967296) (hd : d < 4294967296) (hl : 20 ≤ i) (h : i < 40) (w : World) : Calls Try.prog 94 #[.int .i64 i, .int .u32 (b : Int), .int .u32 (c : Int), .int .u32 (d : Int)] w fun e w' =>
    e = .returned (.tuple #[.int .u32 ((b ^^^ c ^^^ d : Nat) : Int), .int .u32 1859775393]) ∧ w = w' := by
  have h1 := u32_xor_nat b c hb hc
  have h2 := u32_xor_nat (b ^^^ c) d (xor_lt32 hb hc) hd
  go_enter Try.func94, Try.ntmps94
  go_wp2
  go_ret2
  exact ⟨rfl, rfl⟩

set_option maxHeartbeats 400000 in
theorem mix_2 (i : Int) (b c d : Nat) (hb : b < 4294967296) (hc : c < 4294967296) (hd : d < 4294967296) (hl : 40 ≤ i) (h : i < 60) (w : World) : Calls Try.prog 94 #[.int .i64 i, .int .u32 (b : Int), .int .u32 (c : Int), .int .u32 (d : Int)] w fun e w' =>
    e = .returned (.tuple #[.int .u32 (((b &&& c) ||| (d &&& (b ||| c)) : Nat) : Int), .int .u32 2400959708]) ∧ w = w' := by
  have h1 := u32_and_nat b c hb hc
  have h2 := u32_or_nat b c hb hc
  have h3 := u32_and_nat d (b ||| c) hd (or_lt32 hb hc)
  have h4 := u32_or_nat (b &&& c) (d &&& (b ||| c)) (and_lt32 hc) (and_lt32 (or_lt32 hb hc))
  have g : ¬ i < 20 := by omega
  have g' : ¬ i < 40 := by omega
  go_enter Try.func94, Try.ntmps94
  go_wp2
  go_ret2
  exact ⟨rfl, rfl⟩

set_option maxHeartbeats 400000 in
theorem mix_3 (i : Int) (b c d : Nat) (hb : b < 4294967296) (hc : c < 4294967296) (hd : d < 4294967296) (hl : 60 ≤ i) (w : World) : Calls Try.prog 94 #[.int .i64 i, .int .u32 (b : Int), .int .u32 (c : Int), .int .u32 (d : Int)] w fun e w' =>
    e = .returned (.tuple #[.int .u32 ((b ^^^ c ^^^ d : Nat) : Int), .int .u32 3395469782]) ∧ w = w' := by
  have h1 := u32_xor_nat b c hb hc
  have h2 := u32_xor_nat (b ^^^ c) d (xor_lt32 hb hc) hd
  have g : ¬ i < 20 := by omega
  have g' : ¬ i < 40 := by omega
  have g'' : ¬ i < 60 := by omega
  go_enter Try.func94, Try.ntmps94
  go_wp2
  go_ret2
  exact ⟨rfl, rfl⟩
end Go.Proofs.Ytgdiajhegmdfgaa
