/-
  What ident.Of and ident.Text compute. Conditions: the id is twenty bytes; the text fits in memory.
-/
import Derived.Test.YtgdiajhegmdfgaaIdA
import Derived.Lib.ConvBytes
namespace Go.Proofs.Ytgdiajhegmdfgaa
open Go.RowKit

theorem world_conv (w : World) (s : ByteArray) : Below w.heap.size w (Lib.bytesWorld w 5 s) :=
  ⟨rfl, rfl, rfl, by rw [Lib.bytesWorld_size]; omega, fun i hi => Lib.bytesWorld_at_old w _ s i hi⟩

set_option maxRecDepth 100000 in
set_option maxHeartbeats 1000000 in
theorem ident_Of (l : List UInt8) (hl : l.length ≤ 1048576) (w : World) :
    Calls Try.prog 40 #[.string ⟨l.toArray⟩] w fun e w' => e = .returned (.agg (bytesV (shaB l)).toArray) ∧ Below w.heap.size w w' := by
  have f1 : Hid (BB 34 (w.alloc (.cells #[.int .u8 0, .int .u8 0, .int .u8 0, .int .u8 0, .int .u8 0, .int .u8 0, .int .u8 0, .int .u8 0, .int .u8 0, .int .u8 0, .int .u8 0, .int .u8 0, .int .u8 0, .int .u8 0, .int .u8 0, .int .u8 0, .int .u8 0, .int .u8 0, .int .u8 0, .int .u8 0] 34)) w.heap.size (List.replicate 20 0)) := Lib.hid (heap_alloc_new _ _)
  have f2 : Hid (Below w.heap.size w (w.alloc (.cells #[.int .u8 0, .int .u8 0, .int .u8 0, .int .u8 0, .int .u8 0, .int .u8 0, .int .u8 0, .int .u8 0, .int .u8 0, .int .u8 0, .int .u8 0, .int .u8 0, .int .u8 0, .int .u8 0, .int .u8 0, .int .u8 0, .int .u8 0, .int .u8 0, .int .u8 0, .int .u8 0] 34))) := Lib.hid ((Below.refl _ _).alloc (Nat.le_refl _) _)
  have hcv : ∀ w : World, (convert 9 23 (.string ⟨l.toArray⟩)).run Try.prog w = .ok (.slice (some ⟨w.heap.size, 0, none⟩) l.length (grownCap w l.length 0 5)) (Lib.bytesWorld w 5 ⟨l.toArray⟩) := fun w =>
    Lib.run_convert_string_bytes w 9 23 5 ⟨l.toArray⟩ Try.underlying9 Try.underlying23 Try.underlying5
  have hby : ∀ w : World, Bytes (Lib.bytesWorld w 5 ⟨l.toArray⟩) (some ⟨w.heap.size, 0, none⟩) l := fun w =>
    ⟨(fun h => by cases h), fun ad had j v hv => by
      obtain rfl := Option.some.inj had
      simp only [bytesV, List.getElem?_map, Option.map_eq_some_iff] at hv
      obtain ⟨x, hx, rfl⟩ := hv
      have hj : j < l.length := (List.getElem?_eq_some_iff.1 hx).1
      rw [add_mk, Nat.zero_add, Lib.bytesWorld_cell w 5 ⟨l.toArray⟩ j (by show j < l.toArray.size; simpa using hj)]
      simp [List.getD, hx, byteV]⟩
  have hwc := world_conv (w.alloc (.cells #[.int .u8 0, .int .u8 0, .int .u8 0, .int .u8 0, .int .u8 0, .int .u8 0, .int .u8 0, .int .u8 0, .int .u8 0, .int .u8 0, .int .u8 0, .int .u8 0, .int .u8 0, .int .u8 0, .int .u8 0, .int .u8 0, .int .u8 0, .int .u8 0, .int .u8 0, .int .u8 0] 34)) ⟨l.toArray⟩
  have hby1 := hby (w.alloc (.cells #[.int .u8 0, .int .u8 0, .int .u8 0, .int .u8 0, .int .u8 0, .int .u8 0, .int .u8 0, .int .u8 0, .int .u8 0, .int .u8 0, .int .u8 0, .int .u8 0, .int .u8 0, .int .u8 0, .int .u8 0, .int .u8 0, .int .u8 0, .int .u8 0, .int .u8 0, .int .u8 0] 34))
  rw [World.size_alloc] at hby1
  have hS := fun w' A cap (h : Bytes w' A l) => sha_Sum A cap l l.length rfl hl w' h
  generalize (⟨l.toArray⟩ : ByteArray) = S at *
  have hxl := shaB_length l
  generalize shaB l = X at *
  have HXL := Lib.hid hxl
  have HS := Lib.hid hS
  have HY := Lib.hid hby1
  have HC := Lib.hid hwc
  clear hby hby1 hS hwc hxl
  go_enter Try.func40, Try.ntmps40
  go_wp2_with fail
  have hb1 := HC.out
  have hy1 := HY.out
  clear hcv HC HY
  generalize Lib.bytesWorld (w.alloc (.cells #[.int .u8 0, .int .u8 0, .int .u8 0, .int .u8 0, .int .u8 0, .int .u8 0, .int .u8 0, .int .u8 0, .int .u8 0, .int .u8 0, .int .u8 0, .int .u8 0, .int .u8 0, .int .u8 0, .int .u8 0, .int .u8 0, .int .u8 0, .int .u8 0, .int .u8 0, .int .u8 0] 34)) 5 S = W2 at *
  generalize grownCap (w.alloc (.cells #[.int .u8 0, .int .u8 0, .int .u8 0, .int .u8 0, .int .u8 0, .int .u8 0, .int .u8 0, .int .u8 0, .int .u8 0, .int .u8 0, .int .u8 0, .int .u8 0, .int .u8 0, .int .u8 0, .int .u8 0, .int .u8 0, .int .u8 0, .int .u8 0, .int .u8 0, .int .u8 0] 34)) l.length 0 5 = gc at *
  refine (HS.out _ _ _ hy1).mono ?_; rintro e w2 ⟨rfl, hb2⟩
  have hbb := hb1.trans (hb2.mono hb1.size)
  have F1 := Lib.hid (f1.out.below hbb)
  have F2 := Lib.hid (f2.out.trans (hbb.mono f2.out.size))
  clear hb2 hb1 hbb f1 f2 hy1
  go_wp2_with (refine wpList_store_row (o := ⟨none, _, _, _, _, _⟩) rfl _ (.tmp 2) (.tmp 5) rfl w.heap.size rfl (bytesV X) rfl _ _ F1.out 20 (by kernel_rfl) (bytes_len HXL.out) (bytes_size (by simp)) (bytesV_one _) ?_)
  have hw2 := BB.setRow F1.out X
  have hsz2 : (Try.prog.info? 34).map (·.size) = some (bytesV X).toArray.size := by rw [bytes_size HXL.out]; kernel_rfl
  exact bodyPost_ret (results_cell_row Try.results40 _ _ w.heap.size _ _ _ _ rfl hw2 Try.underlying34 rfl hsz2) rfl ⟨rfl, F2.out.trans (Only.below (S := (· = w.heap.size)) (Only.setRow _ _ _) F2.out.size fun k hk => by omega)⟩

/-- A digit. -/
def hexd (n : Nat) : UInt8 := UInt8.ofNat (if n < 10 then 48 + n else 87 + n)
/-- Bytes as digits. -/
def textB (l : List UInt8) : List UInt8 := l.flatMap fun x => [hexd (x.toNat / 16), hexd (x.toNat % 16)]
theorem textB_snoc (l : List UInt8) (x : UInt8) : textB (l ++ [x]) = textB l ++ [hexd (x.toNat / 16), hexd (x.toNat % 16)] := by simp [textB]
theorem textB_length (l : List UInt8) : (textB l).length = 2 * l.length := by
  induction l with
  | nil => rfl
  | cons x l ih =>
    show (hexd _ :: hexd _ :: textB l).length = _
    simp only [List.length_cons, ih]
    omega
theorem idx_hex (n : Nat) (hn : n < 16) (w : World) : (Instr.index 9 (.string ⟨#[48, 49, 50, 51, 52, 53, 54, 55, 56, 57, 97, 98, 99, 100, 101, 102]⟩) (.int .u8 (n : Int))).run Try.prog w = .ok (.int .u8 ((hexd n).toNat : Int)) w := by
  obtain rfl | rfl | rfl | rfl | rfl | rfl | rfl | rfl | rfl | rfl | rfl | rfl | rfl | rfl | rfl | rfl : n = 0 ∨ n = 1 ∨ n = 2 ∨ n = 3 ∨ n = 4 ∨ n = 5 ∨ n = 6 ∨ n = 7 ∨ n = 8 ∨ n = 9 ∨ n = 10 ∨ n = 11 ∨ n = 12 ∨ n = 13 ∨ n = 14 ∨ n = 15 := by omega
  all_goals kernel_rfl

set_option maxRecDepth 100000 in
set_option maxHeartbeats 1000000 in
theorem ident_Text (a : List UInt8) (ha : a.length = 20) (w : World) :
    Calls Try.prog 39 #[.agg (bytesV a).toArray] w fun e w' => e = .returned (.string ⟨(textB a).toArray⟩) ∧ Below w.heap.size w w' := by
  obtain ⟨i0, hi0, hz0, hz1, hz2⟩ := info_parts infoByte
  have sa := bytes_size ha
  have haA : Hid (IsAgg Try.prog 34 (bytesV a).length) := Lib.hid (by rw [bytes_len ha]; exact aggID)
  have HL := Lib.hid ha
  have hmk : ∀ w : World, (Instr.makeSlice 23 (.int .i64 0) (.int .i64 40)).run Try.prog w = .ok (.slice (some ⟨w.heap.size, 0, none⟩) 0 40) (w.alloc (.cells (madeCells #[.int .u8 0] 40) 5)) := fun w => by
    have hr := run_make (P := Try.prog) w 23 5 i0 _ Try.underlying23 hi0 hz0 .i64 .i64 0 40 (by omega) (by omega) (by rw [hz2]; omega) (by omega)
    simp only [hz1, Nat.mul_one] at hr
    exact hr
  have i1 : Hid (Row ((w.alloc (.cells (bytesV a).toArray 34)).alloc (.cells (madeCells #[.int .u8 0] 40) 5)) ⟨w.heap.size, 0, none⟩ (bytesV a)) := Lib.hid (BB.row (BB.alloc (T := 34) (l := a) (heap_alloc_new _ _) _))
  have i2 : Hid (SL ((w.alloc (.cells (bytesV a).toArray 34)).alloc (.cells (madeCells #[.int .u8 0] 40) 5)) (w.heap.size + 1) 5 1 (.slice (some ⟨w.heap.size + 1, 0, none⟩) (2 * 0) 40) (2 * 0) (bytesV (textB (a.take 0)))) := Lib.hid (SL.mk_ (n := 0) (cur := madeCells #[.int .u8 0] 40) (Nat.le_refl _) (heap_alloc2_new _ _ _) (by omega) (by decide) (by rw [made_bytes]; simp [bytesV]))
  have i5 : Hid (Below w.heap.size w ((w.alloc (.cells (bytesV a).toArray 34)).alloc (.cells (madeCells #[.int .u8 0] 40) 5))) := Lib.hid (((Below.refl _ _).alloc (Nat.le_refl _) _).alloc (by simp) _)
  generalize hmc : madeCells #[.int .u8 0] 40 = MC at *
  clear hmc
  go_enter Try.func39, Try.ntmps39
  go_wp2_with (first
    | refine wpList_load_agg (o := ⟨some 7, _, _, _, _, _⟩) rfl _ (.tmp 1) rfl _ rfl (bytesV a) i1.out haA.out ?_)
  go_loopw [3, 8] (fun v i wr => ∃ k : Nat, i = .int .i64 k ∧ k ≤ 20 ∧ ∃ A' c', v = .slice A' (2 * k) c' ∧ Hid (SL wr (w.heap.size + 1) 5 1 v (2 * k) (bytesV (textB (a.take k)))) ∧ w.heap.size + 1 ≤ wr.heap.size ∧ Hid (Below w.heap.size w wr)) (fun _ i _ => 20 - (intOf i).toNat)
  case atStart => exact ⟨0, rfl, by omega, _, _, rfl, i2, by simp, i5⟩
  case round =>
    clear i1 i2 i5
    obtain ⟨k, rfl, hk, A', c', rfl, j1, hwr1, j5⟩ := hrel
    by_cases hlt : k < 20
    · obtain ⟨x, hx⟩ : ∃ x, a[k]? = some x := ⟨a[k]'(by have := HL.out; omega), List.getElem?_eq_getElem _⟩
      have hi := index_ID wr a HL.out k x hx
      have hk5 : (k : Int) < 20 := by omega
      have hx256 := x.toNat_lt
      have htk : a.take (k + 1) = a.take k ++ [x] := by rw [List.take_add_one, hx]; rfl
      have ht : textB (a.take (k + 1)) = textB (a.take k) ++ [hexd (x.toNat / 16), hexd (x.toNat % 16)] := by rw [htk, textB_snoc]
      have e2 : bits .and .u8 (x.toNat : Int) 15 = ((x.toNat % 16 : Nat) : Int) := by
        have h1 := u8_and_nat x.toNat 15 x.toNat_lt (by omega)
        rw [show x.toNat &&& 15 = x.toNat % 16 from Nat.and_two_pow_sub_one_eq_mod x.toNat 4] at h1
        exact h1
      have e1 : (x.toNat : Int) / 16 = ((x.toNat / 16 : Nat) : Int) := by omega
      have h1 := fun w => idx_hex (x.toNat / 16) (by omega) w
      have h2 := fun w => idx_hex (x.toNat % 16) (by omega) w
      have l1 : x.toNat / 16 < 16 := by omega
      have l2 : x.toNat % 16 < 16 := by omega
      generalize hexd (x.toNat / 16) = d1 at *
      generalize hexd (x.toNat % 16) = d2 at *
      generalize x.toNat / 16 = n1 at *
      generalize x.toNat % 16 = n2 at *
      have HT := Lib.hid ht
      have hwr := j5.out.size
      have HSA : Hid (SL (wr.drew.alloc (.cells #[.int .u8 (d1.toNat : Int), .int .u8 (d2.toNat : Int)] 5)) (w.heap.size + 1) 5 1 (.slice A' (2 * k) c') (2 * k) (bytesV (textB (a.take k)))) := Lib.hid (SL.alloc (w := wr.drew) j1.out _)
      generalize x.toNat = xn at *
      clear hx htk ht
      go_wp2_with fail
      go_region_held3 (fun _ => True) (first | trivial)
        (first
          | (refine step_append_SL (by rfl) (.tmp 11) (.tmp 18) 23 23 (by rfl) (w.heap.size + 1) 5 i0 _ 1 1 Try.underlying23 hi0 hz0 hz1 hz2 rfl (by omega) _ (2 * k) _ (by rfl) HSA.out _ 2 [.int .u8 (d1.toNat : Int), .int .u8 (d2.toNat : Int)] (by rfl) (src_of_row Try.underlying23 rfl (fun h => by cases h) (fun ad had => by obtain rfl := Option.some.inj had; exact Row.of_block (heap_alloc_new wr.drew _)) (by simp [Value.oneCell'])) (by simp only [maxLen]; omega) (by omega) (by simp; omega) ?_; intro v2 w2 hsl2 hgr2 hob2))
      all_goals
        obtain ⟨A2, c2, rfl, hc3, hc4, _, _⟩ := SL.shape hsl2
        have hb2 : Below w.heap.size w w2 := (Below.alloc (below_drewN j5.out 1) hwr _).trans (Below.grown (Below.refl _ _) hgr2 (by simp; omega) (fun g hg => Nat.le_trans (Nat.le_succ _) (SL.block_lt HSA.out hg).2))
        have hsz2 : w.heap.size + 1 ≤ w2.heap.size := Nat.le_trans hwr1 (Nat.le_trans (by simp) hgr2.size)
        have hsl3 : SL w2 (w.heap.size + 1) 5 1 (.slice A2 (2 * (k + 1)) c2) (2 * (k + 1)) (bytesV (textB (a.take (k + 1)))) := by
          rw [HT.out, bytesV_append]
          exact hsl2
        have HS3 := Lib.hid hsl3
        have HB2 := Lib.hid hb2
        clear hsl2 hsl3 hgr2 hob2 HSA hb2
        go_wp2_with fail
        go_roundw
        case rel => exact ⟨k + 1, by go_num, by omega, A2, c2, rfl, HS3, hsz2, HB2⟩
        case measure => simp [intOf]; omega
    · have hk20 : k = 20 := by omega
      subst hk20
      rw [List.take_of_length_le (by have := HL.out; omega)] at j1
      have hb : SLb wr (w.heap.size + 1) (.slice A' 40 c') (textB a) := by
        have h := j1.out
        have e : (textB a).length = 40 := by rw [textB_length, HL.out]
        unfold SLb
        rw [e]
        exact h
      have hcv := conv_bytes wr _ _ _ hb
      clear hb
      go_wp2_with fail
      go_ret
      exact ⟨rfl, j5.out⟩
end Go.Proofs.Ytgdiajhegmdfgaa
