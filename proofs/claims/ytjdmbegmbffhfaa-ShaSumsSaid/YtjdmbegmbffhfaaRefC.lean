/-
  The document's answer for a block (signpostref02.block) in the walk. Conditions: 64 bytes stand in the slice's cells.
-/
import Derived.Test.YtjdmbegmbffhfaaRefB
namespace Go.Proofs.Ytjdmbegmbffhfaa
open Go.RowKit

def refK (f g : Nat → Nat) (k j : Nat) : Nat := if j < k then f j else g j
theorem refK_zero (f g : Nat → Nat) : refK f g 0 = g := by
  funext j
  unfold refK
  rw [if_neg (by omega)]
theorem eatH_sum (h : Nat → Nat) (l : List UInt8) (j : Nat) : ((eatV h l 80).1 j + h j) % 4294967296 = eatH h l j := by
  unfold eatH
  rw [Nat.add_comm]

set_option maxRecDepth 100000 in
set_option maxHeartbeats 1600000 in
theorem ref_block (h : Nat → Nat) (hh : ∀ j, h j < 4294967296) (A : Option Addr) (cap : Nat) (l : List UInt8) (w : World) (hb : Bytes w A l) (hlen : l.length = 64) (hcap : 64 ≤ cap) (hl : cap ≤ maxLen) :
    Calls Try.prog 66 #[.agg (wcells 5 h), .slice A 64 cap] w fun e w' => e = .returned (.agg (wcells 5 (eatH h l))) ∧ Below w.heap.size w w' := by
  have HF := Lib.hid (eatH_sum h l)
  generalize eatH h l = f at *
  have ld := fun (w : World) (hb : Bytes w A l) => ref_words A cap l w hb hlen hcap hl
  have LD := Lib.hid ld
  have HB := Lib.hid hb
  have hs5 : (wcells 5 h).size = 5 := wcells_size _ _
  clear ld hb
  have ha5 : IsAgg Try.prog 43 (wcells 5 h).toList.length := by rw [wcells_len]; exact agg5
  have f1 : Words 5 43 ((w.alloc (.cells (wcells 5 h) 43)).alloc (.cells #[.int .u32 0, .int .u32 0, .int .u32 0, .int .u32 0, .int .u32 0] 43)) w.heap.size h :=
    (heap_alloc_old _ _ (by simp)).trans (heap_alloc_new _ _)
  have F1 := Lib.hid f1
  clear f1
  go_enter Try.func66, Try.ntmps66
  go_wp2_with (first
    | refine wpList_load_agg (o := ⟨some 12, _, _, _, _, _⟩) rfl _ (.tmp 2) rfl _ rfl (wcells 5 h).toList F1.out.row ha5 ?_
    | refine wpList_store_new2 (o := ⟨none, _, _, _, _, _⟩) rfl _ (.tmp 5) (.tmp 12) rfl _ _ _ rfl (by simp) (wcells 5 h).toList rfl 5 (by kernel_rfl) (wcells_len _ _) rfl (wcells_one _ _) ?_)
  have i1 : Words 5 43 (((w.alloc (.cells (wcells 5 h) 43)).alloc (.cells #[.int .u32 0, .int .u32 0, .int .u32 0, .int .u32 0, .int .u32 0] 43)).alloc (.cells (wcells 5 h) 43)) w.heap.size h := Words.alloc F1.out _
  have i2 : Words 5 43 (((w.alloc (.cells (wcells 5 h) 43)).alloc (.cells #[.int .u32 0, .int .u32 0, .int .u32 0, .int .u32 0, .int .u32 0] 43)).alloc (.cells (wcells 5 h) 43)) (w.heap.size + 1) (fun _ => 0) := Words.alloc (show Words 5 43 ((w.alloc (.cells (wcells 5 h) 43)).alloc (.cells (wcells 5 fun _ => 0) 43)) (w.heap.size + 1) (fun _ => 0) from heap_alloc2_new _ _ _) _
  have i3 : Words 5 43 (((w.alloc (.cells (wcells 5 h) 43)).alloc (.cells #[.int .u32 0, .int .u32 0, .int .u32 0, .int .u32 0, .int .u32 0] 43)).alloc (.cells (wcells 5 h) 43)) (w.heap.size + 1 + 1) h := by
    have := heap_alloc_new ((w.alloc (.cells (wcells 5 h) 43)).alloc (.cells #[.int .u32 0, .int .u32 0, .int .u32 0, .int .u32 0, .int .u32 0] 43)) (.cells (wcells 5 h) 43)
    rw [World.size_alloc, World.size_alloc] at this
    exact this
  have i5 : Below w.heap.size w (((w.alloc (.cells (wcells 5 h) 43)).alloc (.cells #[.int .u32 0, .int .u32 0, .int .u32 0, .int .u32 0, .int .u32 0] 43)).alloc (.cells (wcells 5 h) 43)) := (((Below.refl _ _).alloc (Nat.le_refl _) _).alloc (by simp) _).alloc (by simp; omega) _
  have i6 : (((w.alloc (.cells (wcells 5 h) 43)).alloc (.cells #[.int .u32 0, .int .u32 0, .int .u32 0, .int .u32 0, .int .u32 0] 43)).alloc (.cells (wcells 5 h) 43)).heap.size = w.heap.size + 1 + 1 + 1 := by simp
  generalize (((w.alloc (.cells (wcells 5 h) 43)).alloc (.cells #[.int .u32 0, .int .u32 0, .int .u32 0, .int .u32 0, .int .u32 0] 43)).alloc (.cells (wcells 5 h) 43)) = W3 at *
  clear F1
  refine (LD.out _ (HB.out.below i5)).mono ?_; rintro e w2 ⟨v, rfl, hsl, hb2⟩
  obtain ⟨A9, c9, rfl, hc9, hc9', hnil, hs'⟩ := SL.shape hsl
  obtain ⟨ad, rfl⟩ : ∃ ad, A9 = some ad := by
    cases A9 with
    | some ad => exact ⟨ad, rfl⟩
    | none => have := (hnil rfl).1; omega
  obtain ⟨ab, ao, rfl⟩ : ∃ ab ao, ad = ⟨ab, ao, none⟩ := by
    have := (hs' ad rfl).2.2
    exact ⟨ad.block, ad.off, by cases ad; simp_all⟩
  have hab : w.heap.size + 1 + 1 < ab := by
    have := (SL.block_lt hsl (hs' _ rfl).1).2
    rw [i6] at this
    exact this
  have R2 := Lib.hid (hs' _ rfl).2.1
  have I1 := Lib.hid (Words.far (S := fun _ => False) i1 (Only.of_below (S := fun _ => False) hb2) id)
  have I2 := Lib.hid (Words.far (S := fun _ => False) i2 (Only.of_below (S := fun _ => False) hb2) id)
  have I3 := Lib.hid (Words.far (S := fun _ => False) i3 (Only.of_below (S := fun _ => False) hb2) id)
  have I5 := Lib.hid (i5.trans (hb2.mono i5.size))
  clear i1 i2 i3 i5 i6 hb2 hsl hnil hs' LD ha5
  have EV := Lib.hid (eatV_lt h l hh)
  have HH := Lib.hid hh
  generalize hg0 : w.heap.size = s0 at *
  generalize hg2 : s0 + 1 + 1 = s2 at *
  have hsz : s0 ≤ w.heap.size := Nat.le_of_eq hg0.symm
  have hgs := Lib.hid hg0
  clear hg0
  have n02 : s0 ≠ s2 := by omega
  have n12 : s0 + 1 ≠ s2 := by omega
  have nab : ab ≠ s2 := by omega
  have nlt : s0 ≤ s2 := by omega
  clear hg2
  go_wp2_with fail
  go_loopw [7] (fun i wr => ∃ k : Nat, i = .int .i64 k ∧ k ≤ 80 ∧ Hid (Words 5 43 wr s0 h) ∧ Hid (Words 5 43 wr (s0 + 1) (fun _ => 0)) ∧ Hid (Words 5 43 wr s2 (eatV h l k).1) ∧ Hid (Row wr ⟨ab, ao, none⟩ (wcells 80 (Wf l)).toList) ∧ Hid (Below s0 w wr)) (fun i _ => 80 - (intOf i).toNat)
  case atStart => exact ⟨0, rfl, by omega, I1, I2, I3, R2, I5⟩
  case round =>
    obtain ⟨k, rfl, hk, j1, j2, j3, jr, j5⟩ := hrel
    clear I1 I2 I3 R2 I5
    by_cases hlt : k < 80
    · have hvn := fun s => vnext_cells (eatV h l k).1 (eatV h l k).2 k s
      have hrs := rsum_rs (eatV h l k).1 (eatV h l k).2 k
      rw [xw_eq] at hrs
      have hst := eatV_step h l k
      have hv := (EV.out k).1
      have q3 := j3.out
      generalize (eatV h l k).2 = ws at *
      generalize (eatV h l k).1 = v at *
      have c0 := q3.cell 0 (by omega)
      have c1 := q3.cell 1 (by omega)
      have c2 := q3.cell 2 (by omega)
      have c3 := q3.cell 3 (by omega)
      have c4 := q3.cell 4 (by omega)
      have cx : wr.cell? ⟨ab, ao + k, none⟩ = some (.int .u32 (Wf l k : Int)) := by
        have := jr.out k (w32 (Wf l k)) (by rw [Array.getElem?_toList]; exact wcells_at 80 (Wf l) k hlt)
        rwa [add_mk] at this
      have hk8 : (k : Int) < 80 := by omega
      have m := ref_part k (v 1) (v 2) (v 3) hlt (hv 1) (hv 2) (hv 3)
      have r5 := fun w => (ref_turned_5 (v 0) (hv 0) w).mono fun e w' (h : _ ∧ _) => (⟨h.1, h.2.symm⟩ : e = _ ∧ w' = w)
      have r30 := fun w => (ref_turned_30 (v 1) (hv 1) w).mono fun e w' (h : _ ∧ _) => (⟨h.1, h.2.symm⟩ : e = _ ∧ w' = w)
      unfold rs at hrs
      have e1 := wrap_u32 (rotl 5 (v 0)) (mixF k (v 1) (v 2) (v 3))
      generalize (rotl 5 (v 0) + mixF k (v 1) (v 2) (v 3)) % 4294967296 = s1 at e1 hrs
      have e2 := wrap_u32 s1 (v 4)
      generalize (s1 + v 4) % 4294967296 = s3 at e2 hrs
      have e3 := wrap_u32 s3 (Wf l k)
      generalize (s3 + Wf l k) % 4294967296 = s4 at e3 hrs
      have e4 := wrap_u32 s4 (mixK k)
      generalize (s4 + mixK k) % 4294967296 = s5 at e4 hrs
      have HS := Lib.hid hrs
      have HV := Lib.hid hvn
      have HT := Lib.hid hst
      have Q3 := Lib.hid q3
      clear hrs hvn hst q3 j3
      go_wp2_with fail
      refine (m _).mono ?_; rintro e w3 ⟨rfl, rfl⟩
      go_wp2_with fail
      go_still_tail 15, (by kernel_rfl)
      still_call (r5 _)
      repeat still_step
      refine wpStill_nil ?_
      change wpList _ _ _ _ _ wr.drew
      have C0 : wr.drew.cell? ⟨s2, 0, none⟩ = some (.int .u32 (v 0 : Int)) := c0
      have C1 : wr.drew.cell? ⟨s2, 1, none⟩ = some (.int .u32 (v 1 : Int)) := c1
      have C2 : wr.drew.cell? ⟨s2, 2, none⟩ = some (.int .u32 (v 2 : Int)) := c2
      have C3 : wr.drew.cell? ⟨s2, 3, none⟩ = some (.int .u32 (v 3 : Int)) := c3
      have DQ : Hid (Words 5 43 wr.drew s2 v) := Lib.hid (Words.drew Q3.out)
      have DO : Hid (Only (· = s2) wr wr.drew) := Lib.hid (Only.of_drew (Only.refl _ _))
      have hbl : ab < wr.heap.size := by have := block_lt_of_cell cx; simpa using this
      clear c0 c1 c2 c3 c4 cx Q3 e1 e2 e3 e4 m r5
      generalize wr.drew = wd at *
      go_wp2_with fail
      go_still_tail 11, (by kernel_rfl)
      still_call (r30 _)
      repeat still_step
      refine wpStill_nil ?_
      change wpList _ _ _ _ _ wd.drew
      refine wpList_store_row rfl _ (.tmp 5) (.tmp 55) rfl s2 rfl [.int .u32 (s5 : Int), .int .u32 (v 0 : Int), .int .u32 (rotl 30 (v 1) : Int), .int .u32 (v 2 : Int), .int .u32 (v 3 : Int)] rfl _ _ (Words.drew DQ.out) 5 (by kernel_rfl) rfl (wcells_size _ _) (by simp [Value.oneCell']) ?_
      have hcs : ([.int .u32 (s5 : Int), .int .u32 (v 0 : Int), .int .u32 (rotl 30 (v 1) : Int), .int .u32 (v 2 : Int), .int .u32 (v 3 : Int)] : List Value).toArray = wcells 5 (vnext v ws k) := HV.out s5 HS.out
      rw [hcs]
      have on : Only (· = s2) wr (wd.drew.setRow s2 (wcells 5 (vnext v ws k))) := DO.out.trans (Only.of_drew (Only.setRow _ _ _))
      have P1 := Lib.hid (Words.far (S := (· = s2)) j1.out on n02)
      have P2 := Lib.hid (Words.far (S := (· = s2)) j2.out on n12)
      have P3 : Hid (Words 5 43 (wd.drew.setRow s2 (wcells 5 (vnext v ws k))) s2 (vnext v ws k)) := Lib.hid ((Words.drew DQ.out).setRow _)
      have PR := Lib.hid (on.row jr.out hbl nab)
      have P5 := Lib.hid (j5.out.trans (Only.below on (Nat.le_trans hsz j5.out.size) fun k hk he => by omega))
      clear hcs on
      generalize wd.drew.setRow s2 (wcells 5 (vnext v ws k)) = we at *
      go_wp2_with fail
      go_roundw
      case rel => exact ⟨k + 1, by go_num, by omega, P1, P2, by rw [HT.out]; exact P3, PR, P5⟩
      case measure => simp [intOf]; omega
    · have e80 : k = 80 := by omega
      rw [e80] at j3
      generalize (eatV h l 80).1 = g at *
      have hge : (80 : Int) ≤ (k : Int) := by omega
      obtain ⟨k0, rfl⟩ : ∃ k0 : Nat, k0 = k := ⟨_, rfl⟩
      clear e80
      obtain ⟨wo, rfl⟩ : ∃ wo : World, wo = wr := ⟨_, rfl⟩
      go_wp2_with fail
      clear jr
      go_loopw [11] (fun i wr => ∃ k : Nat, i = .int .i64 k ∧ k ≤ 5 ∧ Hid (Words 5 43 wr s0 h) ∧ Hid (Words 5 43 wr (s0 + 1) (fun _ => 0)) ∧ Hid (Words 5 43 wr s2 (refK f g k)) ∧ Hid (Below s0 w wr)) (fun i _ => 5 - (intOf i).toNat)
      case atStart => exact ⟨0, rfl, by omega, j1, j2, by rw [refK_zero]; exact j3, j5⟩
      case round =>
        clear j1 j2 j3 j5
        obtain ⟨k, rfl, hk, j1, j2, j3, j5⟩ := hrel
        by_cases hlt : k < 5
        · have hek : refK f g k k = g k := if_neg (by omega)
          have c1 := j3.out.cell k hlt
          rw [hek] at c1
          have c2 := j1.out.cell k hlt
          have hz := j3.out.free k
          have hk5 : (k : Int) < 5 := by omega
          obtain ⟨v, hv⟩ : ∃ v, g k = v := ⟨_, rfl⟩
          rw [hv] at c1
          have e1 := wrap_u32 v (h k)
          obtain ⟨s, hs⟩ : ∃ s, (v + h k) % 4294967296 = s := ⟨_, rfl⟩
          rw [hs] at e1
          have hes : Hid (s = f k) := Lib.hid (by rw [← hs, ← hv]; exact HF.out k)
          clear hs hv hek
          go_wp2_with fail
          go_still_tail 9, (by kernel_rfl)
          change wpList _ _ _ _ _ wr.drew
          go_wp2_with fail
          go_roundw
          case rel =>
            have hu : upd (refK f g k) k s = refK f g (k + 1) := by
              funext j
              unfold upd refK
              by_cases hj : j = k
              · subst hj; rw [if_pos rfl, if_pos (by omega)]; exact hes.out
              · rw [if_neg hj]
                by_cases hj2 : j < k
                · rw [if_pos hj2, if_pos (by omega)]
                · rw [if_neg hj2, if_neg (by omega)]
            refine ⟨k + 1, by go_num, by omega, Lib.hid ?_, Lib.hid ?_, Lib.hid ?_, Lib.hid ?_⟩
            · exact Words.far (S := (· = s2)) j1.out ((Only.set_ wr s2 k (.int .u32 (s : Int))).drewN 1) n02
            · exact Words.far (S := (· = s2)) j2.out ((Only.set_ wr s2 k (.int .u32 (s : Int))).drewN 1) n12
            · rw [← hu]; exact Words.set_ (w := wr) j3.out k s
            · exact below_drewN (Below.setCell (p := ⟨s2, k, none⟩) j5.out nlt (.int .u32 (s : Int))) 1
          case measure => simp [intOf]; omega
        · obtain rfl : k = 5 := by omega
          have ha5 : IsAgg Try.prog 43 (wcells 5 (refK f g 5)).toList.length := by rw [wcells_len]; exact agg5
          go_wp2_with (refine wpList_load_agg (o := ⟨some 69, _, _, _, _, _⟩) rfl _ (.tmp 5) rfl _ rfl (wcells 5 (refK f g 5)).toList (Words.row j3.out) ha5 ?_
                       refine wpList_store_row (o := ⟨none, _, _, _, _, _⟩) rfl _ (.tmp 4) (.tmp 69) rfl (s0 + 1) rfl (wcells 5 (refK f g 5)).toList rfl _ _ j2.out 5 (by kernel_rfl) (wcells_len _ _) (wcells_size _ _) (wcells_one _ _) ?_)
          have hw2 : Words 5 43 (wr.setRow (s0 + 1) (wcells 5 (refK f g 5)).toList.toArray) (s0 + 1) (refK f g 5) := Words.setRow j2.out _
          refine bodyPost_ret (results_cell_row Try.results66 _ _ (s0 + 1) _ _ _ _ rfl hw2 Try.underlying43 rfl (by kernel_rfl)) rfl ⟨?_, ?_⟩
          · rw [wcells_congr 5 (refK f g 5) f fun j hj => if_pos hj]
          · rw [hgs.out]
            exact j5.out.trans (Only.below (S := (· = s0 + 1)) (Only.setRow _ _ _) (Nat.le_trans hsz j5.out.size) fun k hk => by omega)
end Go.Proofs.Ytjdmbegmbffhfaa
