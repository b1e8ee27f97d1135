/-
  What octet.Put and octet.Get compute. Conditions: the slice reads as bytes; lengths are no greater than memory allows.
-/
import Derived.Test.YtgdiajhegmdfgaaRows
import Derived.Test.YtgdiajhegmdfgaaSlice
import Derived.ProofKit
import Derived.WalkLawsBesides
import Derived.WalkSpells
import Derived.Laws.BitsAllLaws
import Derived.BigQuiet
import Derived.Deep.QuietTactic
namespace Go.Proofs.Ytgdiajhegmdfgaa
open Go.RowKit

theorem ret_int {k : IntKind} {a b : Int} (h : a = b) : Ending.returned (.int k a) = .returned (.int k b) := by rw [h]
theorem ret_bool {a b : Bool} (h : a = b) : Ending.returned (.bool a) = .returned (.bool b) := by rw [h]
theorem below_drewN {B : Nat} {a w : World} (h : Below B a w) (n : Nat) : Below B a (w.drewN n) := ⟨h.os, h.tape, h.output, h.size, h.block⟩

def byteV (b : UInt8) : Value := .int .u8 (b.toNat : Int)
def bytesV (l : List UInt8) : List Value := l.map byteV
theorem bytesV_length (l : List UInt8) : (bytesV l).length = l.length := by simp [bytesV]
theorem bytesV_append (a b : List UInt8) : bytesV (a ++ b) = bytesV a ++ bytesV b := by simp [bytesV]
theorem bytesV_one (l : List UInt8) : ∀ u ∈ bytesV l, u.oneCell' = true := by
  intro u hu
  obtain ⟨b, _, rfl⟩ := List.mem_map.1 hu
  rfl
theorem infoByte : (Try.prog.info? 5).map (fun i => (i.zero, i.size, i.bytes)) = some (some (.int .u8 0), 1, 1) := by kernel_rfl

/-- A slice of bytes that reads as a list, nil let in. -/
structure Bytes (w : World) (A : Option Addr) (l : List UInt8) : Prop where
  nil_ : A = none → l = []
  row : ∀ ad, A = some ad → Row w ad (bytesV l)

theorem Bytes.at_ {w : World} {A : Option Addr} {l : List UInt8} (h : Bytes w A l) {k : Nat} {x : UInt8} (hx : l[k]? = some x) : ∃ ad, A = some ad ∧ w.cell? (ad.add k) = some (byteV x) := by
  cases A with
  | none => rw [h.nil_ rfl] at hx; cases hx
  | some ad => exact ⟨ad, rfl, h.row ad rfl k _ (by simp [bytesV, hx])⟩
theorem Bytes.below {w w' : World} {A : Option Addr} {l : List UInt8} (h : Bytes w A l) (hb : Below w.heap.size w w') : Bytes w' A l :=
  ⟨h.nil_, fun ad had j v hv => by
    have h1 := h.row ad had j v hv
    exact (hb.cell (block_lt_of_cell h1)).trans h1⟩
theorem Bytes.src {w : World} {A : Option Addr} {l : List UInt8} {N cap : Nat} (h : Bytes w A l) (hN : N = l.length) : Src Try.prog 1 23 (.slice A N cap) N (bytesV l) w :=
  src_of_row Try.underlying23 (by rw [bytesV_length, hN, Nat.mul_one]) (fun ha => by rw [hN, h.nil_ ha]; rfl) h.row (bytesV_one l)

/-- A slice of bytes of the call's own. -/
def SLb (w : World) (base : Nat) (v : Value) (l : List UInt8) : Prop := SL w base 5 1 v l.length (bytesV l)
theorem SLb.bytes {w : World} {base : Nat} {v : Value} {l : List UInt8} (h : SLb w base v l) : ∃ A cap, v = .slice A l.length cap ∧ l.length ≤ cap ∧ cap ≤ maxLen ∧ Bytes w A l := by
  obtain ⟨A, cap, rfl, h1, h2, hn, hs⟩ := SL.shape h
  exact ⟨A, cap, rfl, h1, h2, fun ha => List.eq_nil_of_length_eq_zero (hn ha).1, fun ad had => (hs ad had).2.1⟩

set_option maxHeartbeats 400000 in
theorem octet_may (width : Int) (w : World) : Calls Try.prog 64 #[.int .i64 width] w fun e w' => e = .returned (.bool (decide (1 ≤ width) && decide (width ≤ 8))) ∧ w = w' := by
  go_enter Try.func64, Try.ntmps64
  go_wp2
  all_goals
    go_ret
    exact ⟨ret_bool (by simp [*]; try omega), rfl⟩

/-- The bytes that a number is put by. -/
def putB (n : Nat) (width : Nat) : List UInt8 := (List.range width).map fun i => UInt8.ofNat (n / 2 ^ (8 * (width - 1 - i)))

theorem putB_length (n width : Nat) : (putB n width).length = width := by simp [putB]
theorem putB_take (n width k : Nat) (h : k < width) : (putB n width).take (k + 1) = (putB n width).take k ++ [UInt8.ofNat (n / 2 ^ (8 * (width - 1 - k)))] := by
  rw [List.take_add_one]
  congr 1
  simp [putB, h]

theorem byteV_ofNat (m e : Nat) : byteV (UInt8.ofNat (m / 2 ^ e)) = .int .u8 ((m : Int) / 2 ^ e % 256) := by
  unfold byteV
  rw [UInt8.toNat_ofNat']
  congr 1

set_option maxRecDepth 100000 in
set_option maxHeartbeats 1000000 in
theorem octet_Put (A : Option Addr) (cap : Nat) (l : List UInt8) (len n width : Nat) (w : World) (h : Bytes w A l) (hlen : len = l.length) (hl : len ≤ 70368744177664) (hn : n ≤ 18446744073709551615) (hw1 : 1 ≤ width) (hw8 : width ≤ 8) :
    Calls Try.prog 37 #[.slice A len cap, .int .u64 (n : Int), .int .i64 (width : Int)] w fun e w' => ∃ v', e = .returned v' ∧ SLb w' w.heap.size v' (l ++ putB n width) ∧ Below w.heap.size w w' := by
  obtain ⟨i0, hi0, hz0, hz1, hz2⟩ := info_parts infoByte
  have HB := Lib.hid h
  have HL := Lib.hid hlen
  clear h hlen
  have HF : Hid (SL (w.alloc (.cells #[] 5)) w.heap.size 5 1 (.slice (some ⟨w.heap.size, 0, none⟩) 0 0) 0 []) :=
    SL.mk_ (n := 0) (cur := #[]) (Nat.le_refl _) (heap_alloc_new w _) (Nat.le_refl _) (by simp) (by simp)
  have HS : Hid (Src Try.prog 1 23 (.slice A len cap) len (bytesV l) (w.alloc (.cells #[] 5))) :=
    (HB.out.below ((Below.refl _ _).alloc (Nat.le_refl _) _)).src HL.out
  have g1 : (1 : Int) ≤ (width : Int) := by omega
  have g2 : (width : Int) ≤ 8 := by omega
  go_enter Try.func37, Try.ntmps37
  go_wp2_with (at_builtin; refine wpList_append_SL rfl (.tmp 9) (.tmp 10) 23 23 rfl w.heap.size 5 i0 _ 1 1 Try.underlying23 hi0 hz0 hz1 hz2 rfl (by omega) _ 0 [] rfl HF.out _ len (bytesV l) rfl HS.out (by simp only [maxLen]; omega) (by omega) (by simp) ?_; intro v1 w1 hsl1 hgr1 hob1)
  refine (octet_may _ _).mono ?_; rintro e w2 ⟨rfl, rfl⟩
  obtain ⟨A1, c1, rfl, hc1, hc2, _, _⟩ := SL.shape hsl1
  have HS1 := Lib.hid hsl1
  have hb1 : Below w.heap.size w w1 := ((Below.refl _ _).alloc (Nat.le_refl _) (.cells #[] 5)).trans (Below.grown (Below.refl _ _) hgr1 (by simp) (fun k hk => Nat.le_of_eq (Option.some.inj hk)))
  clear hsl1 hgr1 hob1
  go_wp2_with fail
  go_loopw [7, 17] (fun v i wr => ∃ k : Nat, i = .int .i64 k ∧ k ≤ width ∧ ∃ A' c', v = .slice A' (len + k) c' ∧ Hid (SL wr w.heap.size 5 1 v (len + k) (bytesV (l ++ (putB n width).take k))) ∧ Below w.heap.size w wr) (fun _ i _ => width - (intOf i).toNat)
  case atStart =>
    refine ⟨0, rfl, by omega, A1, c1, by simp, ?_, hb1⟩
    have := HS1.out
    exact Lib.hid (by simpa [bytesV] using this)
  case round =>
    obtain ⟨k, rfl, hk, A', c', rfl, HSV, hb⟩ := hrel
    by_cases hlt : k < width
    · have g3 : (0 : Int) ≤ 8 * ((width : Int) - 1 - (k : Int)) := by omega
      have g4 : 8 * ((width : Int) - 1 - (k : Int)) ≤ 56 := by omega
      have HSA := Lib.hid (SL.alloc HSV.out (.cells #[.int .u8 ((n : Int) / 2 ^ (8 * (width - 1 - k)) % 256)] 5))
      have hwr := hb.size
      go_wp2_with (at_builtin; refine wpList_append_SL rfl (.tmp 20) (.tmp 30) 23 23 rfl w.heap.size 5 i0 _ 1 1 Try.underlying23 hi0 hz0 hz1 hz2 rfl (by omega) _ (len + k) _ rfl HSA.out _ 1 [.int .u8 ((n : Int) / 2 ^ (8 * (width - 1 - k)) % 256)] rfl (src_of_row Try.underlying23 rfl (fun h => by cases h) (fun ad had => by obtain rfl := Option.some.inj had; exact Row.of_block (heap_alloc_new wr _)) (by simp [Value.oneCell'])) (by simp only [maxLen]; omega) (by omega) (by simp; omega) ?_; intro v2 w2 hsl2 hgr2 hob2)
      obtain ⟨A2, c2, rfl, hc3, hc4, _, _⟩ := SL.shape hsl2
      have hb2 : Below w.heap.size w w2 := (hb.alloc hwr _).trans (Below.grown (Below.refl _ _) hgr2 (by simp; omega) (fun g hg => (SL.block_lt HSA.out hg).2))
      have hsl3 : SL w2 w.heap.size 5 1 (.slice A2 (len + (k + 1)) c2) (len + (k + 1)) (bytesV (l ++ (putB n width).take (k + 1))) := by
        rw [putB_take n width k hlt, ← List.append_assoc, bytesV_append, show bytesV [UInt8.ofNat (n / 2 ^ (8 * (width - 1 - k)))] = [.int .u8 ((n : Int) / 2 ^ (8 * (width - 1 - k)) % 256)] by simp [bytesV, byteV_ofNat]]
        exact hsl2
      have HS3 := Lib.hid hsl3
      clear hsl2 hsl3 hgr2 hob2 HSA
      go_wp2_with fail
      go_roundw
      case rel => exact ⟨k + 1, by go_num, by omega, A2, c2, rfl, HS3, hb2⟩
      case measure => simp [intOf]; omega
    · go_wp2_with fail
      go_ret
      have hkw : k = width := by omega
      subst hkw
      refine ⟨_, rfl, ?_, hb⟩
      have := HSV.out
      rw [List.take_of_length_le (by rw [putB_length]; omega)] at this
      unfold SLb
      rw [List.length_append, putB_length, ← HL.out]
      exact this

/-- The number that bytes tell. -/
def getN (l : List UInt8) : Nat := l.foldl (fun n b => n * 256 + b.toNat) 0
theorem getN_snoc (l : List UInt8) (b : UInt8) : getN (l ++ [b]) = getN l * 256 + b.toNat := by simp [getN, List.foldl_append]
theorem getN_lt (l : List UInt8) : getN l < 256 ^ l.length := by
  have key : ∀ (l : List UInt8) (m k : Nat), m < 256 ^ k → l.foldl (fun n b => n * 256 + b.toNat) m < 256 ^ (k + l.length) := by
    intro l
    induction l with
    | nil => intro m k h; simpa using h
    | cons b l ih =>
      intro m k h
      have hb : b.toNat < 256 := b.toNat_lt
      have := ih (m * 256 + b.toNat) (k + 1) (by rw [Nat.pow_succ]; omega)
      rw [show k + (b :: l).length = k + 1 + l.length by simp; omega]
      exact this
  have := key l 0 0 (by simp)
  rw [Nat.zero_add] at this
  exact this

set_option maxRecDepth 100000 in
set_option maxHeartbeats 1000000 in
theorem octet_Get (A : Option Addr) (cap : Nat) (l : List UInt8) (len at_ width : Nat) (w : World) (h : Bytes w A l) (hlen : len = l.length) (hcap : len ≤ cap) (hl : cap ≤ maxLen) (hw1 : 1 ≤ width) (hw8 : width ≤ 8) (ha : at_ + width ≤ len) :
    Calls Try.prog 102 #[.slice A len cap, .int .i64 (at_ : Int), .int .i64 (width : Int)] w fun e w' => e = .returned (.tuple #[.int .u64 (getN ((l.drop at_).take width) : Int), .bool true]) ∧ ∃ n, w' = w.drewN n := by
  unfold maxLen at hl
  have HB := Lib.hid h
  have HL := Lib.hid hlen
  clear h hlen
  have g1 : (1 : Int) ≤ (width : Int) := by omega
  have g2 : (width : Int) ≤ 8 := by omega
  have g3 : ((at_ : Int) + (width : Int)) ≤ (cap : Int) := by omega
  have g4 : (at_ : Int) ≤ (len : Int) := by omega
  have g5 : (width : Int) ≤ (len : Int) - (at_ : Int) := by omega
  have g6 : (at_ : Int) ≤ (at_ : Int) + (width : Int) := by omega
  go_enter Try.func102, Try.ntmps102
  go_wp2_with fail
  refine (octet_may _ _).mono ?_; rintro e w2 ⟨rfl, rfl⟩
  cases A with
  | none => exact absurd (HB.out.nil_ rfl) (fun e => by have := HL.out; rw [e] at this; simp at this; omega)
  | some ad =>
    go_wp2_with fail
    go_loopw [8, 39] (fun n i wr => ∃ k : Nat, i = .int .i64 k ∧ k ≤ width ∧ n = .int .u64 (getN ((l.drop at_).take k) : Int) ∧ wr = w) (fun _ i _ => width - (intOf i).toNat)
    case atStart => exact ⟨0, rfl, by omega, rfl, rfl⟩
    case round =>
      obtain ⟨k, rfl, hk, rfl, rfl⟩ := hrel
      by_cases hlt : k < width
      · obtain ⟨x, hx⟩ : ∃ x, (l.drop at_)[k]? = some x := ⟨(l.drop at_)[k]'(by rw [List.length_drop]; have := HL.out; omega), List.getElem?_eq_getElem _⟩
        have hcell : wr.cell? ((ad.add at_).add k) = some (.int .u8 (x.toNat : Int)) := by
          rw [add_add]
          exact HB.out.row ad rfl (at_ + k) _ (by rw [List.getElem?_drop] at hx; simp [bytesV, hx, byteV])
        obtain ⟨m, HM⟩ : ∃ m, Hid (m = getN ((l.drop at_).take k)) := ⟨_, rfl⟩
        rw [← HM.out]
        have hm : m < 72057594037927936 := by
          have h1 := getN_lt ((l.drop at_).take k)
          have h2 : 256 ^ ((l.drop at_).take k).length ≤ 256 ^ 7 := Nat.pow_le_pow_right (by omega) (by rw [List.length_take]; omega)
          rw [← HM.out] at h1
          omega
        have hx8 := x.toNat_lt
        have hnew : Hid (m * 256 + x.toNat = getN ((l.drop at_).take (k + 1))) := by
          rw [List.take_add_one, hx, Option.toList_some, getN_snoc, ← HM.out]; exact rfl
        have hor : bits .or .u64 ((m : Int) * 256) (x.toNat : Int) = (m : Int) * 256 + (x.toNat : Int) := by
          have h1 := u64_or_nat (m * 256) x.toNat (by omega) (by omega)
          rw [nat_join 8 (m * 256) x.toNat (by omega) (by omega)] at h1
          have e1 : ((m * 256 : Nat) : Int) = (m : Int) * 256 := by omega
          rw [e1] at h1
          rw [h1]; omega
        clear hx
        generalize x.toNat = xn at *
        go_wp2_with fail
        go_roundw
        case rel => exact ⟨k + 1, by go_num, by omega, by rw [← hnew.out]; congr 1, trivial⟩
        case measure => simp [intOf]; omega
      · go_wp2_with fail
        go_ret2
        have hkw : k = width := by omega
        subst hkw
        exact ⟨rfl, 0, rfl⟩
end Go.Proofs.Ytgdiajhegmdfgaa
