/-
  The document's answer for numbers as bytes and for words (signpostref01.Put, Get; signpostref02.turned, part) in the walk. Conditions: lengths are no greater than memory allows.
-/
import Derived.Test.YtjdmbegmbffhfaaShaJ
namespace Go.Proofs.Ytjdmbegmbffhfaa
open Go.RowKit

theorem ch_eq (b c d : Nat) (hd : d < 4294967296) : (b &&& c) ||| ((4294967295 ^^^ b) &&& d) = d ^^^ (b &&& (c ^^^ d)) := by
  apply Nat.eq_of_testBit_eq
  intro i
  have h : (4294967295 : Nat).testBit i = decide (i < 32) := Nat.testBit_two_pow_sub_one 32 i
  simp only [Nat.testBit_or, Nat.testBit_and, Nat.testBit_xor, h]
  by_cases hi : i < 32
  · rw [decide_eq_true hi]
    cases b.testBit i <;> cases c.testBit i <;> cases d.testBit i <;> rfl
  · have hz : d.testBit i = false := Nat.testBit_lt_two_pow (Nat.lt_of_lt_of_le hd (Nat.pow_le_pow_right (n := 2) (i := 32) (by omega) (by omega)))
    rw [hz]
    cases b.testBit i <;> cases c.testBit i <;> simp
theorem maj_eq (b c d : Nat) : (b &&& c) ||| (b &&& d) ||| (c &&& d) = (b &&& c) ||| (d &&& (b ||| c)) := by
  apply Nat.eq_of_testBit_eq
  intro i
  simp only [Nat.testBit_or, Nat.testBit_and]
  cases b.testBit i <;> cases c.testBit i <;> cases d.testBit i <;> rfl

set_option maxHeartbeats 400000 in
theorem ref_turned_1 (x : Nat) (hx : x < 4294967296) (w : World) : Calls Try.prog 92 #[.int .u32 (x : Int), .int .i64 1] w fun e w' => e = .returned (.int .u32 ((rotl 1 x : Nat) : Int)) ∧ w = w' := by
  have h1 : bits .or .u32 ((x : Int) * 2 % 4294967296) ((x : Int) / 2147483648) = ((rotl 1 x : Nat) : Int) := by
    have := u32_or_nat (x * 2 ^ 1 % 4294967296) (x / 2 ^ 31) (by omega) (by omega)
    unfold rotl
    rw [← this]
    congr 1
  go_enter Try.func92, Try.ntmps92
  go_wp2
  go_ret
  exact ⟨rfl, rfl⟩
set_option maxHeartbeats 400000 in
theorem ref_turned_5 (x : Nat) (hx : x < 4294967296) (w : World) : Calls Try.prog 92 #[.int .u32 (x : Int), .int .i64 5] w fun e w' => e = .returned (.int .u32 ((rotl 5 x : Nat) : Int)) ∧ w = w' := by
  have h1 : bits .or .u32 ((x : Int) * 32 % 4294967296) ((x : Int) / 134217728) = ((rotl 5 x : Nat) : Int) := by
    have := u32_or_nat (x * 2 ^ 5 % 4294967296) (x / 2 ^ 27) (by omega) (by omega)
    unfold rotl
    rw [← this]
    congr 1
  go_enter Try.func92, Try.ntmps92
  go_wp2
  go_ret
  exact ⟨rfl, rfl⟩
set_option maxHeartbeats 400000 in
theorem ref_turned_30 (x : Nat) (hx : x < 4294967296) (w : World) : Calls Try.prog 92 #[.int .u32 (x : Int), .int .i64 30] w fun e w' => e = .returned (.int .u32 ((rotl 30 x : Nat) : Int)) ∧ w = w' := by
  have h1 : bits .or .u32 ((x : Int) * 1073741824 % 4294967296) ((x : Int) / 4) = ((rotl 30 x : Nat) : Int) := by
    have := u32_or_nat (x * 2 ^ 30 % 4294967296) (x / 2 ^ 2) (by omega) (by omega)
    unfold rotl
    rw [← this]
    congr 1
  go_enter Try.func92, Try.ntmps92
  go_wp2
  go_ret
  exact ⟨rfl, rfl⟩

set_option maxHeartbeats 400000 in
theorem ref_part_0 (i : Nat) (b c d : Nat) (hb : b < 4294967296) (hc : c < 4294967296) (hd : d < 4294967296) (h : i < 20) (w : World) : Calls Try.prog 91 #[.int .i64 (i : Int), .int .u32 (b : Int), .int .u32 (c : Int), .int .u32 (d : Int)] w fun e w' =>
    e = .returned (.tuple #[.int .u32 ((d ^^^ (b &&& (c ^^^ d)) : Nat) : Int), .int .u32 1518500249]) ∧ w = w' := by
  rw [← ch_eq b c d hd]
  have h1 := u32_and_nat b c hb hc
  have h0 : bits .xor .u32 IntKind.u32.max (b : Int) = ((4294967295 ^^^ b : Nat) : Int) := u32_xor_nat 4294967295 b (by omega) hb
  have hx : 4294967295 ^^^ b < 4294967296 := xor_lt32 (by omega) hb
  have h2 := u32_and_nat (4294967295 ^^^ b) d hx hd
  have h3 := u32_or_nat (b &&& c) ((4294967295 ^^^ b) &&& d) (and_lt32 hc) (and_lt32 hd)
  have hq : (i : Int) / 20 = 0 := by omega
  generalize (4294967295 ^^^ b) = nb at *
  go_enter Try.func91, Try.ntmps91
  go_wp2
  go_ret2
  exact ⟨rfl, rfl⟩

set_option maxHeartbeats 400000 in
theorem ref_part_1 (i : Nat) (b c d : Nat) (hb : b < 4294967296) (hc : c < 4294967296) (hd : d < 4294967296) (hl : 20 ≤ i) (h : i < 40) (w : World) : Calls Try.prog 91 #[.int .i64 (i : Int), .int .u32 (b : Int), .int .u32 (c : Int), .int .u32 (d : Int)] w fun e w' =>
    e = .returned (.tuple #[.int .u32 ((b ^^^ c ^^^ d : Nat) : Int), .int .u32 1859775393]) ∧ w = w' := by
  have h1 := u32_xor_nat b c hb hc
  have h2 := u32_xor_nat (b ^^^ c) d (xor_lt32 hb hc) hd
  have hq : (i : Int) / 20 = 1 := by omega
  go_enter Try.func91, Try.ntmps91
  go_wp2
  go_ret2
  exact ⟨rfl, rfl⟩

set_option maxHeartbeats 400000 in
theorem ref_part_2 (i : Nat) (b c d : Nat) (hb : b < 4294967296) (hc : c < 4294967296) (hd : d < 4294967296) (hl : 40 ≤ i) (h : i < 60) (w : World) : Calls Try.prog 91 #[.int .i64 (i : Int), .int .u32 (b : Int), .int .u32 (c : Int), .int .u32 (d : Int)] w fun e w' =>
    e = .returned (.tuple #[.int .u32 (((b &&& c) ||| (d &&& (b ||| c)) : Nat) : Int), .int .u32 2400959708]) ∧ w = w' := by
  rw [← maj_eq b c d]
  have h1 := u32_and_nat b c hb hc
  have h2 := u32_and_nat b d hb hd
  have h3 := u32_and_nat c d hc hd
  have h4 := u32_or_nat (b &&& c) (b &&& d) (and_lt32 hc) (and_lt32 hd)
  have h5 := u32_or_nat (b &&& c ||| b &&& d) (c &&& d) (or_lt32 (and_lt32 hc) (and_lt32 hd)) (and_lt32 hd)
  have hq : (i : Int) / 20 = 2 := by omega
  go_enter Try.func91, Try.ntmps91
  go_wp2
  go_ret2
  exact ⟨rfl, rfl⟩

set_option maxHeartbeats 400000 in
theorem ref_part_3 (i : Nat) (b c d : Nat) (hb : b < 4294967296) (hc : c < 4294967296) (hd : d < 4294967296) (hl : 60 ≤ i) (h : i < 80) (w : World) : Calls Try.prog 91 #[.int .i64 (i : Int), .int .u32 (b : Int), .int .u32 (c : Int), .int .u32 (d : Int)] w fun e w' =>
    e = .returned (.tuple #[.int .u32 ((b ^^^ c ^^^ d : Nat) : Int), .int .u32 3395469782]) ∧ w = w' := by
  have h1 := u32_xor_nat b c hb hc
  have h2 := u32_xor_nat (b ^^^ c) d (xor_lt32 hb hc) hd
  have hq : (i : Int) / 20 = 3 := by omega
  go_enter Try.func91, Try.ntmps91
  go_wp2
  go_ret2
  exact ⟨rfl, rfl⟩

theorem ref_part (i b c d : Nat) (hi : i < 80) (hb : b < 4294967296) (hc : c < 4294967296) (hd : d < 4294967296) (w : World) : Calls Try.prog 91 #[.int .i64 (i : Int), .int .u32 (b : Int), .int .u32 (c : Int), .int .u32 (d : Int)] w fun e w' =>
    e = .returned (.tuple #[.int .u32 (mixF i b c d : Int), .int .u32 (mixK i : Int)]) ∧ w = w' := by
  unfold mixF mixK
  by_cases h0 : i < 20
  · rw [if_pos h0, if_pos h0]; exact ref_part_0 i b c d hb hc hd h0 w
  rw [if_neg h0, if_neg h0]
  by_cases h1 : i < 40
  · rw [if_pos h1, if_pos h1]; exact ref_part_1 i b c d hb hc hd (by omega) h1 w
  rw [if_neg h1, if_neg h1]
  by_cases h2 : i < 60
  · rw [if_pos h2, if_pos h2]; exact ref_part_2 i b c d hb hc hd (by omega) h2 w
  rw [if_neg h2, if_neg h2]
  exact ref_part_3 i b c d hb hc hd (by omega) hi w

set_option maxRecDepth 100000 in
set_option maxHeartbeats 1000000 in
theorem ref_Put (A : Option Addr) (cap : Nat) (l : List UInt8) (len n width : Nat) (w : World) (h : Bytes w A l) (hlen : len = l.length) (hl : len ≤ 70368744177664) (hn : n ≤ 18446744073709551615) (hw1 : 1 ≤ width) (hw8 : width ≤ 8) :
    Calls Try.prog 67 #[.slice A len cap, .int .u64 (n : Int), .int .i64 (width : Int)] w fun e w' => ∃ v', e = .returned v' ∧ SLb w' w.heap.size v' (l ++ putB n width) ∧ Below w.heap.size w w' := by
  obtain ⟨i0, hi0, hz0, hz1, hz2⟩ := info_parts infoByte
  have HB := Lib.hid h
  have HL := Lib.hid hlen
  clear h hlen
  have HF : Hid (SL (w.alloc (.cells #[] 5)) w.heap.size 5 1 (.slice (some ⟨w.heap.size, 0, none⟩) 0 0) 0 []) :=
    SL.mk_ (n := 0) (cur := #[]) (Nat.le_refl _) (heap_alloc_new w _) (Nat.le_refl _) (by simp) (by simp)
  have HS : Hid (Src Try.prog 1 30 (.slice A len cap) len (bytesV l) (w.alloc (.cells #[] 5))) :=
    (HB.out.below ((Below.refl _ _).alloc (Nat.le_refl _) _)).src HL.out
  have g1 : (1 : Int) ≤ (width : Int) := by omega
  have g2 : (width : Int) ≤ 8 := by omega
  go_enter Try.func67, Try.ntmps67
  go_wp2_with (at_builtin; refine wpList_append_SL rfl (.tmp 9) (.tmp 10) 30 30 rfl w.heap.size 5 i0 _ 1 1 Try.underlying30 hi0 hz0 hz1 hz2 rfl (by omega) _ 0 [] rfl HF.out _ len (bytesV l) rfl HS.out (by simp only [maxLen]; omega) (by omega) (by simp) ?_; intro v1 w1 hsl1 hgr1 hob1
               obtain ⟨A1, c1, rfl, hc1, hc2, _, _⟩ := SL.shape hsl1
               have HS1 := Lib.hid hsl1
               have hb1 : Below w.heap.size w w1 := ((Below.refl _ _).alloc (Nat.le_refl _) (.cells #[] 5)).trans (Below.grown (Below.refl _ _) hgr1 (by simp) (fun k hk => Nat.le_of_eq (Option.some.inj hk)))
               clear hsl1 hgr1 hob1)
  go_loopw [7, 8] (fun v i wr => ∃ k : Nat, i = .int .i64 ((width : Int) - 1 - (k : Int)) ∧ k ≤ width ∧ ∃ A' c', v = .slice A' (len + k) c' ∧ Hid (SL wr w.heap.size 5 1 v (len + k) (bytesV (l ++ (putB n width).take k))) ∧ Below w.heap.size w wr) (fun _ i _ => (intOf i + 1).toNat)
  case atStart =>
    refine ⟨0, by go_num, by omega, A1, c1, by simp, ?_, hb1⟩
    have := HS1.out
    exact Lib.hid (by simpa [bytesV] using this)
  case round =>
    obtain ⟨k, rfl, hk, A', c', rfl, HSV, hb⟩ := hrel
    by_cases hlt : k < width
    · have g5 : (0 : Int) ≤ ((width : Int) - 1 - (k : Int)) := by omega
      have g3 : (0 : Int) ≤ 8 * ((width : Int) - 1 - (k : Int)) := by omega
      have g4 : 8 * ((width : Int) - 1 - (k : Int)) ≤ 56 := by omega
      have HSA := Lib.hid (SL.alloc HSV.out (.cells #[.int .u8 ((n : Int) / 2 ^ (8 * (width - 1 - k)) % 256)] 5))
      have hwr := hb.size
      go_wp2_with (at_builtin; refine wpList_append_SL rfl (.tmp 25) (.tmp 32) 30 30 rfl w.heap.size 5 i0 _ 1 1 Try.underlying30 hi0 hz0 hz1 hz2 rfl (by omega) _ (len + k) _ rfl HSA.out _ 1 [.int .u8 ((n : Int) / 2 ^ (8 * (width - 1 - k)) % 256)] rfl (src_of_row Try.underlying30 rfl (fun h => by cases h) (fun ad had => by obtain rfl := Option.some.inj had; exact Row.of_block (heap_alloc_new wr _)) (by simp [Value.oneCell'])) (by simp only [maxLen]; omega) (by omega) (by simp; omega) ?_; intro v2 w2 hsl2 hgr2 hob2)
      obtain ⟨A2, c2, rfl, hc3, hc4, _, _⟩ := SL.shape hsl2
      have hb2 : Below w.heap.size w w2 := (hb.alloc hwr _).trans (Below.grown (Below.refl _ _) hgr2 (by simp; omega) (fun g hg => (SL.block_lt HSA.out hg).2))
      have hsl3 : SL w2 w.heap.size 5 1 (.slice A2 (len + (k + 1)) c2) (len + (k + 1)) (bytesV (l ++ (putB n width).take (k + 1))) := by
        rw [putB_take n width k hlt, ← List.append_assoc, bytesV_append, show bytesV [UInt8.ofNat (n / 2 ^ (8 * (width - 1 - k)))] = [.int .u8 ((n : Int) / 2 ^ (8 * (width - 1 - k)) % 256)] by simp [bytesV, byteV_ofNat]]
        exact hsl2
      have HS3 := Lib.hid hsl3
      clear hsl2 hsl3 hgr2 hob2 HSA
      go_wp2_with fail
      go_roundw
      case rel => exact ⟨k + 1, by go_num, by omega, A2, c2, rfl, HS3, hb2⟩
      case measure => simp [intOf]; omega
    · have g5 : ((width : Int) - 1 - (k : Int)) < 0 := by omega
      go_wp2_with fail
      go_ret
      have hkw : k = width := by omega
      subst hkw
      refine ⟨_, rfl, ?_, hb⟩
      have := HSV.out
      rw [List.take_of_length_le (by rw [putB_length]; omega)] at this
      unfold SLb
      rw [List.length_append, putB_length, ← HL.out]
      exact this

set_option maxRecDepth 100000 in
set_option maxHeartbeats 1000000 in
theorem ref_Get (A : Option Addr) (cap : Nat) (l : List UInt8) (len at_ width : Nat) (w : World) (h : Bytes w A l) (hlen : len = l.length) (hcap : len ≤ cap) (hl : cap ≤ maxLen) (hw1 : 1 ≤ width) (hw8 : width ≤ 8) (ha : at_ + width ≤ len) :
    Calls Try.prog 105 #[.slice A len cap, .int .i64 (at_ : Int), .int .i64 (width : Int)] w fun e w' => e = .returned (.tuple #[.int .u64 (getN ((l.drop at_).take width) : Int), .bool true]) ∧ ∃ n, w' = w.drewN n := by
  unfold maxLen at hl
  have HB := Lib.hid h
  have HL := Lib.hid hlen
  clear h hlen
  have g1 : (1 : Int) ≤ (width : Int) := by omega
  have g2 : (width : Int) ≤ 8 := by omega
  have g4 : (at_ : Int) ≤ (len : Int) := by omega
  have g5 : (width : Int) ≤ (len : Int) - (at_ : Int) := by omega
  cases A with
  | none => exact absurd (HB.out.nil_ rfl) (fun e => by have := HL.out; rw [e] at this; simp at this; omega)
  | some ad =>
    go_enter Try.func105, Try.ntmps105
    go_wp2_with fail
    go_loopw [8, 9] (fun n i wr => ∃ k : Nat, i = .int .i64 k ∧ k ≤ width ∧ n = .int .u64 (getN ((l.drop at_).take k) : Int) ∧ wr = w) (fun _ i _ => width - (intOf i).toNat)
    case atStart => exact ⟨0, rfl, by omega, rfl, rfl⟩
    case round =>
      obtain ⟨k, rfl, hk, rfl, rfl⟩ := hrel
      by_cases hlt : k < width
      · obtain ⟨x, hx⟩ : ∃ x, (l.drop at_)[k]? = some x := ⟨(l.drop at_)[k]'(by rw [List.length_drop]; have := HL.out; omega), List.getElem?_eq_getElem _⟩
        have hcell : wr.cell? (ad.add (at_ + k)) = some (.int .u8 (x.toNat : Int)) :=
          HB.out.row ad rfl (at_ + k) _ (by rw [List.getElem?_drop] at hx; simp [bytesV, hx, byteV])
        obtain ⟨m, HM⟩ : ∃ m, Hid (m = getN ((l.drop at_).take k)) := ⟨_, rfl⟩
        rw [← HM.out]
        have hm : m < 72057594037927936 := by
          have h1 := getN_lt ((l.drop at_).take k)
          have h2 : 256 ^ ((l.drop at_).take k).length ≤ 256 ^ 7 := Nat.pow_le_pow_right (by omega) (by rw [List.length_take]; omega)
          rw [← HM.out] at h1
          omega
        have hx8 := x.toNat_lt
        have hnew : Hid (m * 256 + x.toNat = getN ((l.drop at_).take (k + 1))) := by
          rw [List.take_add_one, hx, Option.toList_some, getN_snoc, ← HM.out]; exact rfl
        clear hx
        generalize x.toNat = xn at *
        have gi : (at_ : Int) + (k : Int) < (len : Int) := by omega
        go_wp2_with fail
        go_roundw
        case rel => exact ⟨k + 1, by go_num, by omega, by rw [← hnew.out]; congr 1, trivial⟩
        case measure => simp [intOf]; omega
      · go_wp2_with fail
        go_ret2
        have hkw : k = width := by omega
        subst hkw
        exact ⟨rfl, 0, rfl⟩
end Go.Proofs.Ytjdmbegmbffhfaa
