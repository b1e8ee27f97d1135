/-
  The document's answer for ids' texts (signpostref03.digit, Text, value, Parse). Conditions: the text fits in memory.
-/
import Derived.Test.YtjdmbegmbffhfaaIdE
import Derived.Test.YtjdmbegmbffhfaaSliceB
namespace Go.Proofs.Ytjdmbegmbffhfaa
open Go.RowKit

theorem aggR3 : IsAgg Try.prog 57 20 := ⟨_, Try.underlying57, rfl, by kernel_rfl⟩

set_option maxRecDepth 100000 in
set_option maxHeartbeats 1000000 in
theorem ref_digit (n : Nat) (hn : n < 16) (w : World) : Calls Try.prog 75 #[.int .i64 (n : Int)] w fun e w' => e = .returned (.int .u8 ((hexd n).toNat : Int)) ∧ w = w' := by
  have hh : (hexd n).toNat = if n < 10 then 48 + n else 87 + n := by
    unfold hexd
    rw [UInt8.toNat_ofNat']
    split <;> omega
  rw [hh]
  by_cases h : n < 10
  · rw [if_pos h]
    have g1 : (n : Int) < 10 := by omega
    have e1 : ((48 + n : Nat) : Int) = 48 + (n : Int) := by omega
    have e2 : IntKind.u8.wrap (48 + (n : Int)) = 48 + (n : Int) := by rw [IntKind.wrap_u8]; omega
    rw [e1]
    go_enter Try.func75, Try.ntmps75
    go_wp2
    go_ret
    exact ⟨rfl, rfl⟩
  · rw [if_neg h]
    have g1 : (10 : Int) ≤ (n : Int) := by omega
    have e1 : ((87 + n : Nat) : Int) = 97 + (n : Int) - 10 := by omega
    have e2 : IntKind.u8.wrap (97 + (n : Int) - 10) = 97 + (n : Int) - 10 := by rw [IntKind.wrap_u8]; omega
    rw [e1]
    go_enter Try.func75, Try.ntmps75
    go_wp2
    go_ret
    exact ⟨rfl, rfl⟩

/-- A digit's value, or -1. -/
def valI (c : UInt8) : Int := match valB c with | some n => (n : Int) | none => -1
theorem valI_some {c : UInt8} {n : Nat} (h : valB c = some n) : valI c = (n : Int) := by unfold valI; rw [h]
theorem valI_none {c : UInt8} (h : valB c = none) : valI c = -1 := by unfold valI; rw [h]

set_option maxRecDepth 100000 in
set_option maxHeartbeats 1000000 in
theorem ref_value (c : UInt8) (w : World) : Calls Try.prog 74 #[.int .u8 (c.toNat : Int)] w fun e w' =>
    e = .returned (.int .i64 (valI c)) ∧ w = w' := by
  obtain ⟨r, hr⟩ : ∃ r : Int, valI c = r := ⟨_, rfl⟩
  rw [hr]
  have HR := Lib.hid hr
  clear hr
  have hc8 := c.toNat_lt
  go_enter Try.func74, Try.ntmps74
  go_wp2_with fail
  go_loopw [3] (fun i wr => ∃ k : Nat, i = .int .i64 k ∧ k ≤ 16 ∧ Hid (∀ j, j < k → hexd j ≠ c) ∧ wr = w) (fun i _ => 16 - (intOf i).toNat)
  case atStart => exact ⟨0, rfl, by omega, Lib.hid (fun j hj => by omega), rfl⟩
  case round =>
    obtain ⟨k, rfl, hk, HZ, rfl⟩ := hrel
    by_cases hlt : k < 16
    · have hk5 : (k : Int) < 16 := by omega
      have hd := fun w => ref_digit k hlt w
      have HD := Lib.hid hd
      clear hd
      by_cases he : hexd k = c
      · have hv : valB c = some k := by rw [← he]; exact valB_hex ⟨k, hlt⟩
        have hrk : r = (k : Int) := by rw [← HR.out, valI_some hv]
        rw [he] at HD
        subst hrk
        clear he hv
        go_wp2_with fail
        refine (HD.out _).mono ?_; rintro e w3 ⟨rfl, rfl⟩
        go_wp2_with fail
        go_ret
        exact ⟨rfl, rfl⟩
      · have hne : ((hexd k).toNat : Int) ≠ (c.toNat : Int) := fun h => he (UInt8.toNat_inj.1 (by omega))
        have HE := Lib.hid he
        clear he
        generalize (hexd k).toNat = d at *
        generalize c.toNat = cn at *
        go_wp2_with fail
        refine (HD.out _).mono ?_; rintro e w3 ⟨rfl, rfl⟩
        go_wp2_with fail
        go_roundw
        case rel => exact ⟨k + 1, by go_num, by omega, Lib.hid (fun j hj => by by_cases h : j = k; exact h ▸ HE.out; exact HZ.out j (by omega)), trivial⟩
        case measure => simp [intOf]; omega
    · have hk16 : k = 16 := by omega
      have hv : valB c = none := by
        cases h : valB c with
        | none => rfl
        | some n => exact absurd (hex_valB h) (HZ.out n (by have := valB_lt h; omega))
      have hrm : r = -1 := by rw [← HR.out, valI_none hv]
      subst hrm
      have hge : (16 : Int) ≤ (k : Int) := by omega
      go_wp2_with fail
      go_ret
      exact ⟨rfl, rfl⟩

theorem BB.grown {T : TypeId} {w w' : World} {g : Nat} {l : List UInt8} {row : Option Nat} (h : BB T w g l) (hg : w.grownBy w' row) (hr : some g ≠ row) : BB T w' g l := (hg.block g h.lt hr).trans h

set_option maxRecDepth 100000 in
set_option maxHeartbeats 1600000 in
theorem ref_Text (a : List UInt8) (ha : a.length = 20) (w : World) :
    Calls Try.prog 35 #[.agg (bytesV a).toArray] w fun e w' => e = .returned (.string ⟨(textB a).toArray⟩) ∧ Below w.heap.size w w' := by
  obtain ⟨i0, hi0, hz0, hz1, hz2⟩ := info_parts infoByte
  have sa := bytes_size ha
  have HL := Lib.hid ha
  have i1 : Hid (BB 57 (w.alloc (.cells (bytesV a).toArray 57)) w.heap.size a) := Lib.hid (heap_alloc_new _ _)
  have i5 : Hid (Below w.heap.size w (w.alloc (.cells (bytesV a).toArray 57))) := Lib.hid ((Below.refl _ _).alloc (Nat.le_refl _) _)
  go_enter Try.func35, Try.ntmps35
  go_wp2_with fail
  go_loopw [3, 4] (fun v i wr => ∃ k : Nat, i = .int .i64 k ∧ k ≤ 20 ∧ ∃ A' c', v = .slice A' (2 * k) c' ∧ Hid (SL wr (w.heap.size + 1) 5 1 v (2 * k) (bytesV (textB (a.take k)))) ∧ Hid (BB 57 wr w.heap.size a) ∧ w.heap.size + 1 ≤ wr.heap.size ∧ Hid (Below w.heap.size w wr)) (fun _ i _ => 20 - (intOf i).toNat)
  case atStart => exact ⟨0, rfl, by omega, none, 0, rfl, Lib.hid (SL.nil_ _ _ _ _), i1, by simp, i5⟩
  case round =>
    clear i1 i5
    obtain ⟨k, rfl, hk, A', c', rfl, j1, j2, hwr1, j5⟩ := hrel
    by_cases hlt : k < 20
    · obtain ⟨x, hx⟩ : ∃ x, a[k]? = some x := ⟨a[k]'(by have := HL.out; omega), List.getElem?_eq_getElem _⟩
      have c0 := j2.out.cell hx
      have hk5 : (k : Int) < 20 := by omega
      have hx256 := x.toNat_lt
      have htk : a.take (k + 1) = a.take k ++ [x] := by rw [List.take_add_one, hx]; rfl
      have ht : textB (a.take (k + 1)) = textB (a.take k) ++ [hexd (x.toNat / 16), hexd (x.toNat % 16)] := by rw [htk, textB_snoc]
      have e2 : (x.toNat : Int) % 16 = ((x.toNat % 16 : Nat) : Int) := by omega
      have e1 : (x.toNat : Int) / 16 = ((x.toNat / 16 : Nat) : Int) := by omega
      have l1 : x.toNat / 16 < 16 := by omega
      have l2 : x.toNat % 16 < 16 := by omega
      generalize x.toNat / 16 = n1 at *
      generalize x.toNat % 16 = n2 at *
      have HT := Lib.hid ht
      have t1 : (x.toNat : Int).tdiv 16 = (n1 : Int) := by rw [Int.tdiv_eq_ediv_of_nonneg (by omega)]; exact e1
      have t2 : (x.toNat : Int).tmod 16 = (n2 : Int) := by rw [Int.tmod_eq_emod_of_nonneg (by omega)]; exact e2
      have t3 : IntKind.i64.wrap (x.toNat : Int) = (x.toNat : Int) := by rw [IntKind.wrap_i64]; omega
      have t4 : IntKind.i64.wrap (n1 : Int) = (n1 : Int) := by rw [IntKind.wrap_i64]; omega
      have t5 : IntKind.i64.wrap (n2 : Int) = (n2 : Int) := by rw [IntKind.wrap_i64]; omega
      have hwr := j5.out.size
      have HSA : Hid (SL (wr.drew.alloc (.cells #[.int .u8 ((hexd n1).toNat : Int), .int .u8 ((hexd n2).toNat : Int)] 5)) (w.heap.size + 1) 5 1 (.slice A' (2 * k) c') (2 * k) (bytesV (textB (a.take k)))) := Lib.hid (SL.alloc (w := wr.drew) j1.out _)
      have HBA : Hid (BB 57 (wr.drew.alloc (.cells #[.int .u8 ((hexd n1).toNat : Int), .int .u8 ((hexd n2).toNat : Int)] 5)) w.heap.size a) := Lib.hid (BB.alloc (w := wr.drew) j2.out _)
      have c1 : (wr.alloc (.cells #[.int .u8 ((hexd n1).toNat : Int), .int .u8 ((hexd n2).toNat : Int)] 5)).cell? ⟨w.heap.size, k, none⟩ = some (.int .u8 (x.toNat : Int)) := (BB.alloc (w := wr) j2.out _).cell hx
      have HNE : Hid (some w.heap.size ≠ (Value.slice A' (2 * k) c').ownBlock) := Lib.hid (fun h => by have := (SL.block_lt j1.out h.symm).2; omega)
      have hxx := Lib.hid hx
      generalize hxn : x.toNat = xn at *
      clear hx htk ht
      go_wp2_with fail
      go_region_held3 (fun w' => w'.cell? ⟨w.heap.size, k, none⟩ = some (.int .u8 (xn : Int)))
        (first
          | exact c0
          | exact c1
          | exact hkp)
        (first
          | (go_at_call 75; refine (ref_digit _ (by assumption) _).mono ?_; rintro e w' ⟨rfl, rfl⟩)
          | (refine step_append_SL (by rfl) (.tmp 9) (.tmp 22) 30 30 (by rfl) (w.heap.size + 1) 5 i0 _ 1 1 Try.underlying30 hi0 hz0 hz1 hz2 rfl (by omega) _ (2 * k) _ (by rfl) HSA.out _ 2 [.int .u8 ((hexd n1).toNat : Int), .int .u8 ((hexd n2).toNat : Int)] (by rfl) (src_of_row Try.underlying30 rfl (fun h => by cases h) (fun ad had => by obtain rfl := Option.some.inj had; exact Row.of_block (heap_alloc_new wr.drew _)) (by simp [Value.oneCell'])) (by simp only [maxLen]; omega) (by omega) (by simp; omega) ?_; intro v2 w2 hsl2 hgr2 hob2
             have hbb2 := BB.grown HBA.out hgr2 HNE.out
             have hkp := BB.cell hbb2 hxx.out; rw [hxn] at hkp))
      all_goals
        obtain ⟨A2, c2, rfl, hc3, hc4, _, _⟩ := SL.shape hsl2
        have hb2 : Below w.heap.size w w2 := (Below.alloc (below_drewN j5.out 1) hwr _).trans (Below.grown (Below.refl _ _) hgr2 (by simp; omega) (fun g hg => Nat.le_trans (Nat.le_succ _) (SL.block_lt HSA.out hg).2))
        have hsz2 : w.heap.size + 1 ≤ w2.heap.size := Nat.le_trans hwr1 (Nat.le_trans (by simp) hgr2.size)
        have hsl3 : SL w2 (w.heap.size + 1) 5 1 (.slice A2 (2 * (k + 1)) c2) (2 * (k + 1)) (bytesV (textB (a.take (k + 1)))) := by
          rw [HT.out, bytesV_append]
          exact hsl2
        have HS3 := Lib.hid hsl3
        have HB2 := Lib.hid hb2
        have HBB2 := Lib.hid hbb2
        clear hsl2 hsl3 hgr2 hob2 HSA hb2 hbb2 hkp
        go_wp2_with fail
        go_roundw
        case rel => exact ⟨k + 1, by go_num, by omega, A2, c2, rfl, HS3, HBB2, hsz2, HB2⟩
        case measure => simp [intOf]; omega
    · have hk20 : k = 20 := by omega
      subst hk20
      rw [List.take_of_length_le (by have := HL.out; omega)] at j1
      have hb : SLb wr (w.heap.size + 1) (.slice A' 40 c') (textB a) := by
        have h := j1.out
        have e : (textB a).length = 40 := by rw [textB_length, HL.out]
        unfold SLb
        rw [e]
        exact h
      have hcv := conv_bytes wr _ _ _ hb
      clear hb
      go_wp2_with fail
      go_ret
      exact ⟨rfl, j5.out⟩
end Go.Proofs.Ytjdmbegmbffhfaa
