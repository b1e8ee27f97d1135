/-
  The walk of BoxPlays. Conditions: the arguments read as data.
-/
import Derived.Test.YthcflakdimedpaaBoxD
import Derived.Deep.DeepCutAuto
import Derived.Deep.RegionHeld3
namespace Go.Proofs.Ythcflakdimedpaa
open Go.RowKit Go.Conc

theorem below_drewN {B : Nat} {a w : World} (h : Below B a w) (n : Nat) : Below B a (w.drewN n) := ⟨h.os, h.tape, h.output, h.size, h.block⟩

theorem Ints.below {w w' : World} {A : Option Addr} {xs : List Int} (h : Ints w A xs) (hb : Below w.heap.size w w') : Ints w' A xs :=
  ⟨h.nil_, fun ad had j v hv => by
    have h1 := h.row ad had j v hv
    exact (hb.cell (block_lt_of_cell h1)).trans h1⟩

theorem src_of_SL {P : Program} {w : World} {base n size : Nat} {e tx : TypeId} {v : Value} {xs : List Value} (hk : P.underlying tx = some (.slice e)) (h : SL w base e size v n xs) (h1 : ∀ u ∈ xs, u.oneCell' = true) : Src P size tx v n xs w := by
  have hl := h.1
  obtain ⟨A, cap, rfl, _, _, hn, hs⟩ := h.shape
  exact src_of_row hk hl (fun h => (hn h).1) (fun ad h => (hs ad h).2.1) h1

theorem Ints.src {w : World} {A : Option Addr} {xs : List Int} {N cap : Nat} (h : Ints w A xs) (hN : N ≤ xs.length) : Src Try.prog 1 26 (.slice A N cap) N (ints (xs.take N)) w :=
  src_of_row Try.underlying26 (by simp [ints]; omega) (fun ha => by rw [h.nil_ ha] at hN; simpa using hN) (fun ad ha => fun j v hv => h.row ad ha j v (by
    simp only [ints, List.getElem?_map, List.getElem?_take] at hv ⊢
    split at hv
    · exact hv
    · simp at hv)) (fun u hu => by
    obtain ⟨y, _, rfl⟩ := List.mem_map.1 hu
    rfl)

/-- Two appends, one behind the other, to an empty slice of the call's own. -/
theorem two_appends {w3 w4 w5 : World} {v1 v2 : Value} {t : TypeId} (hgr1 : ((w3.alloc (.cells #[] t)).drew).grownBy w4 (some w3.heap.size)) (hob1 : v1.ownBlock = some w3.heap.size ∨ v1.ownBlock = some ((w3.alloc (.cells #[] t)).drew).heap.size)
    (hgr2 : w4.grownBy w5 v1.ownBlock) (hob2 : v2.ownBlock = v1.ownBlock ∨ v2.ownBlock = some w4.heap.size) : Below w3.heap.size w3 w5 ∧ ∀ g, v2.ownBlock = some g → w3.heap.size ≤ g := by
  have hsz : ((w3.alloc (.cells #[] t)).drew).heap.size = w3.heap.size + 1 := by simp
  rw [hsz] at hob1
  have h4 := hgr1.size
  rw [hsz] at h4
  have hv1 : ∀ g, v1.ownBlock = some g → w3.heap.size ≤ g := fun g hg => by
    rcases hob1 with h | h <;> (rw [h] at hg; have := Option.some.inj hg; omega)
  refine ⟨((Below.refl _ _).alloc (Nat.le_refl _) (.cells #[] t)).drew.trans ((Below.grown (Below.refl _ _) hgr1 (by omega) (fun k hk => by have := Option.some.inj hk; omega)).trans (Below.grown (Below.refl _ _) hgr2 (by omega) hv1)), fun g hg => ?_⟩
  rcases hob2 with h | h
  · exact hv1 g (h ▸ hg)
  · rw [h] at hg; have := Option.some.inj hg; omega

theorem own_map {A : Option Addr} {n m c d k : Nat} : (Value.slice (A.map (·.add k)) m d).ownBlock = (Value.slice A n c).ownBlock := by
  cases A with
  | none => rfl
  | some a => simp [Value.ownBlock, add_block]

theorem take_fits {N most : Nat} {va xs : List Int} (h : N = fits va most xs) : xs.take N = xs.take (most - va.length) := by
  unfold fits at h
  by_cases hc : most - va.length ≤ xs.length
  · rw [show N = most - va.length by omega]
  · rw [List.take_of_length_le (by omega), List.take_of_length_le (by omega)]

set_option maxRecDepth 100000 in
set_option maxHeartbeats 16000000 in
theorem Box_loop (most other : Nat) (A : Option Addr) (len cap : Nat) (l : List OpB) (w0 w : World) (hm0 : 1 ≤ most) (hm1 : most ≤ 65536) (ho0 : 1 ≤ other) (ho1 : other ≤ 50) (h : OpsB w0 A len l) (h60 : len ≤ 60) (hw : w = w0) :
    Calls Try.prog 3 #[.int .i64 (most : Int), .int .i64 (other : Int), .slice A len cap] w fun e w' => e = .returned (.bool true) ∧ Below w0.heap.size w0 w' := by
  subst hw
  have HO := Lib.hid h
  clear h
  have g1 : ¬ (60 < (len : Int)) := by omega
  go_enter Try.func3, Try.ntmps3
  go_wp2_with fail
  refine (box_New_good most hm0 hm1 _).mono ?_; rintro e w1 ⟨ga, ca, rfl, hba, hb1, hga, hca⟩
  have HA := Lib.hid hba
  have hlta := hba.lt
  clear hba
  go_wp2_with fail
  refine (box_New_good other ho0 (by omega) _).mono ?_; rintro e w2 ⟨gb, cb, rfl, hbb, hb2, hgb, hcb⟩
  have HI : Hid (PI w w2 ga ca gb cb most other (.slice none 0 0) (.slice none 0 0) [] [] [] []) :=
    ⟨HA.out.keep (hb2.block _ hlta.1) (hb2.block _ hlta.2), hbb, by omega, by omega, by omega, SL.nil_ _ _ _ _, SL.nil_ _ _ _ _, fun g hg => by (cases hg), hga, hca, Nat.le_trans hb1.size hgb, Nat.le_trans hb1.size hcb, hb1.trans (hb2.mono hb1.size)⟩
  clear hbb HA hlta hb1 hb2 hga hca hgb hcb
  go_wp2_with fail
  go_loopw [9, 10, 66] (fun vv ww i wr => ∃ k : Nat, i = .int .i64 k ∧ k ≤ len ∧ Head w wr ga ca gb cb most other vv ww) (fun _ _ i _ => len - (intOf i).toNat)
  case atStart => exact ⟨0, rfl, by omega, [], [], HI, by simp, by simp⟩
  case round =>
    obtain ⟨k, rfl, hk, va, wb, hI, hla, hlb⟩ := hrel
    obtain ⟨Av, cv, rfl, hcv, hcvm, hvn, _⟩ := SL.shape hI.slv
    obtain ⟨Aw, cw, rfl, hcw, hcwm, hwn, _⟩ := SL.shape hI.slw
    have HJ := Lib.hid hI
    clear hI
    by_cases hlt : k < len
    · obtain ⟨x, hx⟩ : ∃ x, l[k]? = some x := ⟨l[k]'(by rw [← HO.out.len]; exact hlt), List.getElem?_eq_getElem _⟩
      obtain ⟨ad, rfl, hab, hrow, hxo⟩ := HO.out.at_ k x hx
      have hrow' : Row wr (ad.add (k * 3)) x.cs := hrow.below HJ.out.below (by rw [add_block]; exact hab)
      have hr0 : wr.cell? (ad.add (k * 3)) = some (.int .i64 x.kind) := hrow' 0 _ rfl
      have hr1 : wr.cell? ⟨(ad.add (k * 3)).block, (ad.add (k * 3)).off + 1, none⟩ = some (.int .i64 x.n) := hrow' 1 _ rfl
      have hr2 : wr.cell? ⟨(ad.add (k * 3)).block, (ad.add (k * 3)).off + 2, none⟩ = some (.slice x.A x.l.length x.cap) := hrow' 2 _ rfl
      have hc1 : (wr.alloc (.cells #[.int .i64 x.kind, .int .i64 x.n, .slice x.A x.l.length x.cap] 28)).cell? ⟨wr.heap.size, 1, none⟩ = some (.int .i64 x.n) := by simp
      have hc2 : (wr.alloc (.cells #[.int .i64 x.kind, .int .i64 x.n, .slice x.A x.l.length x.cap] 28)).cell? ⟨wr.heap.size, 2, none⟩ = some (.slice x.A x.l.length x.cap) := by simp
      have HP := Lib.hid (HJ.out.later ((Below.refl _ _).alloc (Nat.le_refl _) (.cells #[.int .i64 x.kind, .int .i64 x.n, .slice x.A x.l.length x.cap] 28)))
      have HX := Lib.hid hxo
      have hn0 := hxo.n0
      have hn1 := hxo.n1
      have hcalt := HJ.out.boxA.lt.2
      have hcblt := HJ.out.boxB.lt.2
      obtain ⟨i0, hi0, hz0, hz1, hz2⟩ := info_parts infoInt
      clear hx hxo hrow hrow'
      by_cases hL : x.l.length ≤ 20
      · by_cases k0 : x.kind = 0
        · as_aux_lemma =>
            have b0 : (x.kind == 0) = true := by simp [k0]
            clear k0
            by_cases hroom : va.length < most
            · have hroom' : ((va.length : Nat) : Int) < (most : Int) := by omega
              go_wp2_with fail
              refine (Put_room ga ca most va x.n _ HP.out.boxA hroom).mono ?_; rintro e w3 ⟨rfl, hb3, ho3⟩
              have HP3 := Lib.hid (HP.out.box (Only.of_grown ho3 fun k hk _ => .inl (Option.some.inj hk).symm) hb3 (HP.out.boxB.far ho3 HP.out.d1 HP.out.d2))
              have hc1' : w3.cell? ⟨wr.heap.size, 1, none⟩ = some (.int .i64 x.n) := by
                refine Eq.trans (World.cell?_of_block (ho3.block wr.heap.size (by simp) ?_)) hc1
                intro e
                have := Option.some.inj e
                omega
              have HS3 := Lib.hid (SL.alloc HP3.out.slv (.cells #[.int .i64 x.n] 3))
              clear hb3 hc1 ho3
              go_wp2_with (at_builtin; refine wpList_append_SL rfl (.tmp 119) (.tmp 122) 26 26 rfl w.heap.size 3 i0 _ 1 8 Try.underlying26 hi0 hz0 hz1 hz2 rfl (by omega) _ va.length (ints va) rfl HS3.out _ 1 [.int .i64 x.n] rfl (src_of_row Try.underlying26 rfl (fun h => by cases h) (fun ad had => by obtain rfl := Option.some.inj had; exact Row.of_block (heap_alloc_new w3 _)) (by simp [Value.oneCell'])) (by simp only [maxLen]; omega) (by omega) (by have := HP3.out.below.size; simp; omega) ?_; intro v' w4 hsl hgr hob)
              have hsl' : SLi w4 w.heap.size v' (va ++ [x.n]) := by
                unfold SLi
                rw [List.length_append, show ints (va ++ [x.n]) = ints va ++ [.int .i64 x.n] by simp [ints]]
                exact hsl
              have HT := Lib.hid ((HP3.out.later ((Below.refl _ _).alloc (Nat.le_refl _) (.cells #[.int .i64 x.n] 3))).setv (Only.of_grown hgr fun k hk _ => hk) hsl' fun g hg => by
                rcases hob with h | h
                · exact .inl (h ▸ hg)
                · rw [h] at hg; exact .inr (Nat.le_of_eq (Option.some.inj hg)))
              obtain ⟨A', c', rfl, hc', hc'', _, _⟩ := SL.shape hsl
              have hTa : (va ++ [x.n]).length ≤ most := by simp; omega
              have hTb := hlb
              clear hsl hsl' hgr hob HS3
              go_wp2_with fail
              refine (Len_any ga ca most _ _ HT.out.boxA).mono ?_; rintro e wt ⟨rfl, rfl⟩
              go_wp2_with fail
              refine (Len_any gb cb other _ _ HT.out.boxB).mono ?_; rintro e wt ⟨rfl, rfl⟩
              go_wp2_with fail
              refine (Room_any ga ca most _ _ HT.out.boxA hTa hm1).mono ?_; rintro e wt ⟨rfl, nq', rfl⟩
              go_wp2_with fail
              go_roundw
              case rel => exact ⟨k + 1, by go_num, by omega, _, _, HT.out.later (below_drewN (Below.refl _ _) nq'), hTa, hTb⟩
              case measure => simp [intOf]; omega
            · have hroom' : (most : Int) ≤ ((va.length : Nat) : Int) := by omega
              have HT := HP
              have hTa := hla
              have hTb := hlb
              go_wp2_with fail
              refine (Put_full ga ca most va x.n _ HP.out.boxA (by omega)).mono ?_; rintro e w3 ⟨rfl, rfl⟩
              go_wp2_with fail
              refine (Len_any ga ca most _ _ HT.out.boxA).mono ?_; rintro e wt ⟨rfl, rfl⟩
              go_wp2_with fail
              refine (Len_any gb cb other _ _ HT.out.boxB).mono ?_; rintro e wt ⟨rfl, rfl⟩
              go_wp2_with fail
              refine (Room_any ga ca most _ _ HT.out.boxA hTa hm1).mono ?_; rintro e wt ⟨rfl, nq', rfl⟩
              go_wp2_with fail
              go_roundw
              case rel => exact ⟨k + 1, by go_num, by omega, _, _, HT.out.later (below_drewN (Below.refl _ _) nq'), hTa, hTb⟩
              case measure => simp [intOf]; omega
        · by_cases k1 : x.kind = 1
          · as_aux_lemma =>
              have b0 : (x.kind == 0) = false := by simp [k0]
              have b1 : (x.kind == 1) = true := by simp [k1]
              clear k0 k1
              obtain ⟨vt, HV⟩ : ∃ vt, Hid (vt = va.tail) := ⟨_, rfl⟩
              go_wp2_with fail
              refine (cut_any w.heap.size _ va _ HP.out.slv).mono ?_; rintro e w3 ⟨v', rfl, hsl, hob, nq, rfl⟩
              rw [← HV.out] at hsl
              have HP3 := Lib.hid ((HP.out.later (below_drewN (Below.refl _ _) nq)).setv (Only.refl _ _) hsl fun g hg => by
                rcases hob with h | h
                · rw [h] at hg; cases hg
                · exact .inl (h ▸ hg))
              obtain ⟨A', c', rfl, hc', hc'', _, _⟩ := SL.shape hsl
              clear hsl hob
              go_wp2_with fail
              refine (Take_any ga ca most va _ HP3.out.boxA).mono ?_; rintro e w4 ⟨rfl, hb4, ho4⟩
              rw [← HV.out] at hb4
              have HT := Lib.hid (HP3.out.box (Only.of_grown ho4 fun k hk _ => .inl (Option.some.inj hk).symm) hb4 (HP3.out.boxB.far ho4 HP3.out.d1 HP3.out.d2))
              have hTa : vt.length ≤ most := by rw [HV.out]; simp; omega
              have hTb := hlb
              clear hb4 ho4
              go_wp2_with fail
              refine (Len_any ga ca most _ _ HT.out.boxA).mono ?_; rintro e wt ⟨rfl, rfl⟩
              go_wp2_with fail
              refine (Len_any gb cb other _ _ HT.out.boxB).mono ?_; rintro e wt ⟨rfl, rfl⟩
              go_wp2_with fail
              refine (Room_any ga ca most _ _ HT.out.boxA hTa hm1).mono ?_; rintro e wt ⟨rfl, nq', rfl⟩
              go_wp2_with fail
              go_roundw
              case rel => exact ⟨k + 1, by go_num, by omega, _, _, HT.out.later (below_drewN (Below.refl _ _) nq'), hTa, hTb⟩
              case measure => simp [intOf]; omega
          · by_cases k2 : x.kind = 2
            · as_aux_lemma =>
                have b0 : (x.kind == 0) = false := by simp [k0]
                have b1 : (x.kind == 1) = false := by simp [k1]
                have b2 : (x.kind == 2) = true := by simp [k2]
                clear k0 k1 k2
                obtain ⟨N, HN⟩ : ∃ N, Hid (N = fits va most x.l) := ⟨_, rfl⟩
                have hN1 : N ≤ x.l.length := by have := HN.out; unfold fits at this; omega
                have hN2 : N ≤ most - va.length := by have := HN.out; unfold fits at this; omega
                have hN3 : N = most - va.length ∨ N = x.l.length := by have := HN.out; unfold fits at this; omega
                go_upto_region 34 with fail
                go_cut [20] (fun n wc => n = .int .i64 (N : Int) ∧ wc = wr.alloc (.cells #[.int .i64 x.kind, .int .i64 x.n, .slice x.A x.l.length x.cap] 28))
                case first =>
                  go_wp2_with fail
                  all_goals
                    go_meet
                    exact ⟨by congr 1; omega, rfl⟩
                case rest =>
                  obtain ⟨rfl, rfl⟩ := hcut
                  go_wp2_with fail
                  refine (Fill_any ga ca most va x.A x.cap x.l x.l.length _ HP.out.boxA hla (HX.out.row.below HP.out.below) rfl (by omega)).mono ?_; rintro e w3 ⟨rfl, hb3, ho3⟩
                  rw [← HN.out]
                  obtain ⟨vb, HVB⟩ : ∃ vb, Hid (vb = va ++ x.l.take N) := ⟨_, rfl⟩
                  have hvl : Hid (vb.length = va.length + N) := by rw [HVB.out, List.length_append, List.length_take]; show _ = _; omega
                  have hb3' : IsBox w3 ga ca most vb := by rw [HVB.out, take_fits HN.out]; exact hb3
                  have HP3 := Lib.hid (HP.out.box (Only.of_grown ho3 fun k hk _ => .inl (Option.some.inj hk).symm) hb3' (HP.out.boxB.far ho3 HP.out.d1 HP.out.d2))
                  have hc2' : w3.cell? ⟨wr.heap.size, 2, none⟩ = some (.slice x.A x.l.length x.cap) := by
                    refine Eq.trans (World.cell?_of_block (ho3.block wr.heap.size (by simp) ?_)) hc2
                    intro e
                    have := Option.some.inj e
                    omega
                  have hwr3 : wr.heap.size < w3.heap.size := by have := ho3.size; simp at this; omega
                  have hcl := HX.out.len
                  have hcm := HX.out.cap
                  clear hb3 hb3' ho3 hc1 hc2 hr0 hr1 hr2
                  go_upto_region 36 with fail
                  have hi1 : (N : Int) ≤ (x.cap : Int) := by omega
                  have hi2 : (0 : Int) ≤ (N : Int) := by omega
                  have HF : Hid (SL ((w3.alloc (.cells #[] 3)).drew) w3.heap.size 3 1 (.slice (some ⟨w3.heap.size, 0, none⟩) 0 0) 0 []) :=
                    SL.mk_ (n := 0) (cur := #[]) (Nat.le_refl _) (heap_alloc_new w3 _) (Nat.le_refl _) (by simp) (by simp)
                  have HV : Hid (Src Try.prog 1 26 (.slice Av va.length cv) va.length (ints va) ((w3.alloc (.cells #[] 3)).drew)) :=
                    src_of_SL Try.underlying26 (SL.drew (SL.alloc HP3.out.slv _)) (by simp [ints, Value.oneCell'])
                  have HK4 : Hid (∀ w4, ((w3.alloc (.cells #[] 3)).drew).grownBy w4 (some w3.heap.size) → w4.cell? ⟨wr.heap.size, 2, none⟩ = some (.slice x.A x.l.length x.cap)) := fun w4 hg => by
                    rw [World.cell?_of_block (hg.block wr.heap.size (by simp; omega) (fun e => by have := Option.some.inj e; omega))]
                    exact (World.cell?_alloc_lt w3 _ _ (by simpa using hwr3)).trans hc2'
                  have HK5 : Hid (∀ (w4 w5 : World) (v1 : Value), ((w3.alloc (.cells #[] 3)).drew).grownBy w4 (some w3.heap.size) → (v1.ownBlock = some w3.heap.size ∨ v1.ownBlock = some ((w3.alloc (.cells #[] 3)).drew).heap.size) → w4.grownBy w5 v1.ownBlock → w5.cell? ⟨wr.heap.size, 2, none⟩ = some (.slice x.A x.l.length x.cap)) := fun w4 w5 v1 hg ho hg2 => by
                    rw [World.cell?_of_block (hg2.block wr.heap.size (by have := hg.size; simp at this; omega) (fun e => by
                      rcases ho with h | h
                      · rw [h] at e; have := Option.some.inj e; omega
                      · rw [h] at e; have := Option.some.inj e; simp at this; omega))]
                    exact HK4.out w4 hg
                  have HS4 : Hid (∀ w4, ((w3.alloc (.cells #[] 3)).drew).grownBy w4 (some w3.heap.size) → Src Try.prog 1 26 (.slice x.A N x.cap) N (ints (x.l.take N)) w4) := fun w4 hg => by
                    have h1 : Ints w4 x.A x.l := HX.out.row.below ((HP3.out.below.alloc HP3.out.below.size _).trans ⟨hg.os, hg.tape, hg.output, by have := hg.size; simpa using this, fun k hk => hg.block k (by have := HP3.out.below.size; simp; omega) (fun e => by have := Option.some.inj e; have := HP3.out.below.size; omega)⟩)
                    exact h1.src hN1
                  go_region_held3 (fun w' => w'.cell? ⟨wr.heap.size, 2, none⟩ = some (.slice x.A x.l.length x.cap)) (first | go_keep | exact HK5.out _ _ _ hgr1 hob1 hgr2 | exact HK4.out _ hgr1)
                    (first
                      | (refine step_append_SL (by rfl) (.tmp 162) (.tmp 163) 26 26 (by rfl) w3.heap.size 3 i0 _ 1 8 Try.underlying26 hi0 hz0 hz1 hz2 rfl (by omega) _ 0 [] (by rfl) HF.out _ va.length (ints va) (by rfl) HV.out (by simp only [maxLen]; omega) (by omega) (by simp) ?_; intro v1 w4 hsl1 hgr1 hob1)
                      | (refine step_append_SL (by rfl) (.tmp 164) (.tmp 168) 26 26 (by rfl) w3.heap.size 3 i0 _ 1 8 Try.underlying26 hi0 hz0 hz1 hz2 rfl (by omega) _ _ _ (by rfl) hsl1 _ N (ints (x.l.take N)) (by rfl) ?_ (by simp only [maxLen]; omega) (by omega) (by have := hgr1.size; simp at this; omega) ?_; (show Src Try.prog 1 26 (.slice x.A N x.cap) N _ w4; exact HS4.out w4 hgr1); intro v2 w5 hsl2 hgr2 hob2))
                  have hv2 : SLi w5 w.heap.size v2 vb := by
                    have h := SL.mono hsl2 HP3.out.below.size
                    unfold SLi
                    rw [hvl.out, HVB.out, show ints (va ++ x.l.take N) = [] ++ ints va ++ ints (x.l.take N) by simp [ints], show va.length + N = 0 + va.length + N by omega]
                    exact h
                  obtain ⟨hb5, hnew⟩ := two_appends hgr1 hob1 hgr2 hob2
                  have HT := Lib.hid (HP3.out.setv (Only.of_below hb5) hv2 fun g hg => .inr (hnew g hg))
                  obtain ⟨A', c', rfl, hc', hc'', _, _⟩ := SL.shape hv2
                  have hTa : vb.length ≤ most := by rw [hvl.out]; omega
                  have hTb := hlb
                  clear hsl1 hsl2 hgr1 hgr2 hob1 hob2 hv2 hb5 hnew HF HV HS4 HK4 HK5
                  go_wp2_with fail
                  refine (Len_any ga ca most _ _ HT.out.boxA).mono ?_; rintro e wt ⟨rfl, rfl⟩
                  go_wp2_with fail
                  refine (Len_any gb cb other _ _ HT.out.boxB).mono ?_; rintro e wt ⟨rfl, rfl⟩
                  go_wp2_with fail
                  refine (Room_any ga ca most _ _ HT.out.boxA hTa hm1).mono ?_; rintro e wt ⟨rfl, nq', rfl⟩
                  go_wp2_with fail
                  go_roundw
                  case rel => exact ⟨k + 1, by go_num, by omega, _, _, HT.out.later (below_drewN (Below.refl _ _) nq'), hTa, hTb⟩
                  case measure => simp [intOf]; omega
            · by_cases k3 : x.kind = 3
              · as_aux_lemma =>
                  have b0 : (x.kind == 0) = false := by simp [k0]
                  have b1 : (x.kind == 1) = false := by simp [k1]
                  have b2 : (x.kind == 2) = false := by simp [k2]
                  have b3 : (x.kind == 3) = true := by simp [k3]
                  clear k0 k1 k2 k3
                  obtain ⟨N, HN⟩ : ∃ N, Hid (N = pours x.n va wb other) := ⟨_, rfl⟩
                  have hN1 : N ≤ va.length := by have := HN.out; unfold pours at this; omega
                  have hN2 : N ≤ other - wb.length := by have := HN.out; unfold pours at this; omega
                  go_upto_region 38 with fail
                  go_cut [21] (fun n wc => n = .int .i64 (N : Int) ∧ wc = wr.alloc (.cells #[.int .i64 x.kind, .int .i64 x.n, .slice x.A x.l.length x.cap] 28))
                  case first =>
                    go_wp2_with fail
                    all_goals
                      go_meet
                      exact ⟨by congr 1; have := HN.out; unfold pours at this; omega, rfl⟩
                  case rest =>
                    obtain ⟨rfl, rfl⟩ := hcut
                    go_wp2_with fail
                    refine (Pour_any ga ca most va gb cb other wb x.n _ HP.out.boxA HP.out.boxB HP.out.d1 HP.out.d2 HP.out.d3 hlb (by omega) (by omega)).mono ?_; rintro e w3 ⟨rfl, hbA, hbB, ho3⟩
                    rw [← HN.out]
                    rw [← HN.out] at hbA hbB
                    obtain ⟨vd, HVD⟩ : ∃ vd, Hid (vd = va.drop N) := ⟨_, rfl⟩
                    obtain ⟨wc, HWC⟩ : ∃ wc, Hid (wc = wb ++ va.take N) := ⟨_, rfl⟩
                    have hvl : Hid (vd.length = va.length - N) := by rw [HVD.out, List.length_drop]; exact rfl
                    have hwl : Hid (wc.length = wb.length + N) := by rw [HWC.out, List.length_append, List.length_take]; show _ = _; omega
                    rw [← HVD.out] at hbA
                    rw [← HWC.out] at hbB
                    have HP3 := Lib.hid (HP.out.box ho3 hbA hbB)
                    clear hbA hbB ho3 hc1 hc2 hr0 hr1 hr2
                    have hi1 : (N : Int) ≤ (cv : Int) := by omega
                    have hi2 : (0 : Int) ≤ (N : Int) := by omega
                    have hi3 : (N : Int) ≤ (va.length : Int) := by omega
                    have HF : Hid (SL ((w3.alloc (.cells #[] 3)).drew) w3.heap.size 3 1 (.slice (some ⟨w3.heap.size, 0, none⟩) 0 0) 0 []) :=
                      SL.mk_ (n := 0) (cur := #[]) (Nat.le_refl _) (heap_alloc_new w3 _) (Nat.le_refl _) (by simp) (by simp)
                    have HV : Hid (Src Try.prog 1 26 (.slice Aw wb.length cw) wb.length (ints wb) ((w3.alloc (.cells #[] 3)).drew)) :=
                      src_of_SL Try.underlying26 (SL.drew (SL.alloc HP3.out.slw _)) (by simp [ints, Value.oneCell'])
                    have HS4 : Hid (∀ w4, ((w3.alloc (.cells #[] 3)).drew).grownBy w4 (some w3.heap.size) → Src Try.prog 1 26 (.slice Av N cv) N (ints (va.take N)) w4) := fun w4 hg => by
                      have hsl : SLi w4 w.heap.size (.slice Av va.length cv) va := SL.grown (SL.drew (SL.alloc HP3.out.slv _)) hg fun g hg2 e => by
                        have := (SL.block_lt HP3.out.slv hg2).1
                        have := Option.some.inj e
                        omega
                      obtain ⟨A2, c2, hv2, _, _, hn2, hs2⟩ := SL.shape hsl
                      injection hv2 with e1 e2 e3
                      subst e1
                      exact Ints.src ⟨fun h => List.eq_nil_of_length_eq_zero (hn2 h).1, fun ad had => (hs2 ad had).2.1⟩ hN1
                    have HVX : Hid (∀ w5, Below w3.heap.size w3 w5 → SLi w5 w.heap.size (.slice (if cv = N then Av else Av.map (·.add (N * 1))) vd.length (cv - N)) vd) := fun w5 hb => by
                      have h1 := SL.later HP3.out.slv hb
                      have h2 := SL.cut (lo := N) (hi := va.length) h1 hN1 (Nat.le_refl _)
                      have h3 : ((ints va).drop (N * 1)).take ((va.length - N) * 1) = ints vd := by
                        rw [HVD.out, Nat.mul_one, Nat.mul_one, List.take_of_length_le (by simp [ints])]
                        simp [ints]
                      rw [h3, ← hvl.out] at h2
                      exact h2
                    go_upto_region 40 with fail
                    by_cases hcN : cv = N
                    · subst hcN
                      obtain rfl : vd = [] := List.eq_nil_of_length_eq_zero (by rw [hvl.out]; omega)
                      go_region_law (first
                          | (refine step_append_SL (by rfl) (.tmp 189) (.tmp 190) 26 26 (by rfl) w3.heap.size 3 i0 _ 1 8 Try.underlying26 hi0 hz0 hz1 hz2 rfl (by omega) _ 0 [] (by rfl) HF.out _ wb.length (ints wb) (by rfl) HV.out (by simp only [maxLen]; omega) (by omega) (by simp) ?_; intro v1 w4 hsl1 hgr1 hob1)
                          | (refine step_append_SL (by rfl) (.tmp 191) (.tmp 194) 26 26 (by rfl) w3.heap.size 3 i0 _ 1 8 Try.underlying26 hi0 hz0 hz1 hz2 rfl (by omega) _ _ _ (by rfl) hsl1 _ cv (ints (va.take cv)) (by rfl) ?_ (by simp only [maxLen]; omega) (by omega) (by have := hgr1.size; simp at this; omega) ?_; (show Src Try.prog 1 26 (.slice Av cv cv) cv _ w4; exact HS4.out w4 hgr1); intro v2 w5 hsl2 hgr2 hob2))
                      have hv2 : SLi w5 w.heap.size v2 wc := by
                        have h := SL.mono hsl2 HP3.out.below.size
                        unfold SLi
                        rw [hwl.out, HWC.out, show ints (wb ++ va.take cv) = [] ++ ints wb ++ ints (va.take cv) by simp [ints], show wb.length + cv = 0 + wb.length + cv by omega]
                        exact h
                      obtain ⟨hb5, hnew⟩ := two_appends hgr1 hob1 hgr2 hob2
                      have HT0 := Lib.hid (HP3.out.setw (Only.of_below hb5) hv2 fun g hg => .inr (hnew g hg))
                      have hvx := HVX.out w5 hb5
                      rw [if_pos rfl, Nat.sub_self] at hvx
                      have HT := Lib.hid (HT0.out.setv (Only.refl _ _) hvx fun g hg => .inl (by rw [← hg]; cases Av <;> rfl))
                      obtain ⟨A', c', rfl, hc', hc'', _, _⟩ := SL.shape hv2
                      have hTa : ([] : List Int).length ≤ most := by simp
                      have hTb : wc.length ≤ other := by rw [hwl.out]; omega
                      clear hsl1 hsl2 hgr1 hgr2 hob1 hob2 hv2 hb5 hnew hvx
                      go_wp2_with fail
                      refine (Len_any ga ca most _ _ HT.out.boxA).mono ?_; rintro e wt ⟨rfl, rfl⟩
                      go_wp2_with fail
                      refine (Len_any gb cb other _ _ HT.out.boxB).mono ?_; rintro e wt ⟨rfl, rfl⟩
                      go_wp2_with fail
                      refine (Room_any ga ca most _ _ HT.out.boxA hTa hm1).mono ?_; rintro e wt ⟨rfl, nq', rfl⟩
                      go_wp2_with fail
                      go_roundw
                      case rel => exact ⟨k + 1, by go_num, by omega, _, _, HT.out.later (below_drewN (Below.refl _ _) nq'), hTa, hTb⟩
                      case measure => simp [intOf]; omega
                    · have hcN' := Lib.hid hcN
                      clear hcN
                      go_region_law (first
                          | (refine step_append_SL (by rfl) (.tmp 189) (.tmp 190) 26 26 (by rfl) w3.heap.size 3 i0 _ 1 8 Try.underlying26 hi0 hz0 hz1 hz2 rfl (by omega) _ 0 [] (by rfl) HF.out _ wb.length (ints wb) (by rfl) HV.out (by simp only [maxLen]; omega) (by omega) (by simp) ?_; intro v1 w4 hsl1 hgr1 hob1)
                          | (refine step_append_SL (by rfl) (.tmp 191) (.tmp 194) 26 26 (by rfl) w3.heap.size 3 i0 _ 1 8 Try.underlying26 hi0 hz0 hz1 hz2 rfl (by omega) _ _ _ (by rfl) hsl1 _ N (ints (va.take N)) (by rfl) ?_ (by simp only [maxLen]; omega) (by omega) (by have := hgr1.size; simp at this; omega) ?_; (show Src Try.prog 1 26 (.slice Av N cv) N _ w4; exact HS4.out w4 hgr1); intro v2 w5 hsl2 hgr2 hob2))
                      have hv2 : SLi w5 w.heap.size v2 wc := by
                        have h := SL.mono hsl2 HP3.out.below.size
                        unfold SLi
                        rw [hwl.out, HWC.out, show ints (wb ++ va.take N) = [] ++ ints wb ++ ints (va.take N) by simp [ints], show wb.length + N = 0 + wb.length + N by omega]
                        exact h
                      obtain ⟨hb5, hnew⟩ := two_appends hgr1 hob1 hgr2 hob2
                      have HT0 := Lib.hid (HP3.out.setw (Only.of_below hb5) hv2 fun g hg => .inr (hnew g hg))
                      have hvx := HVX.out w5 hb5
                      rw [if_neg hcN'.out, Nat.mul_one, hvl.out] at hvx
                      have HT := Lib.hid (HT0.out.setv (Only.refl _ _) hvx fun g hg => .inl (by rw [← hg]; exact own_map.symm))
                      obtain ⟨A', c', rfl, hc', hc'', _, _⟩ := SL.shape hv2
                      have hTa : vd.length ≤ most := by rw [hvl.out]; omega
                      have hTb : wc.length ≤ other := by rw [hwl.out]; omega
                      clear hsl1 hsl2 hgr1 hgr2 hob1 hob2 hv2 hb5 hnew hvx
                      have hvl' := hvl.out
                      go_wp2_with fail
                      refine (Len_any ga ca most _ _ HT.out.boxA).mono ?_; rintro e wt ⟨rfl, rfl⟩
                      go_wp2_with fail
                      refine (Len_any gb cb other _ _ HT.out.boxB).mono ?_; rintro e wt ⟨rfl, rfl⟩
                      go_wp2_with fail
                      refine (Room_any ga ca most _ _ HT.out.boxA hTa hm1).mono ?_; rintro e wt ⟨rfl, nq', rfl⟩
                      go_wp2_with fail
                      go_roundw
                      case rel => exact ⟨k + 1, by go_num, by omega, _, _, HT.out.later (below_drewN (Below.refl _ _) nq'), hTa, hTb⟩
                      case measure => simp [intOf]; omega
              · as_aux_lemma =>
                  have b0 : (x.kind == 0) = false := by simp [k0]
                  have b1 : (x.kind == 1) = false := by simp [k1]
                  have b2 : (x.kind == 2) = false := by simp [k2]
                  have b3 : (x.kind == 3) = false := by simp [k3]
                  clear k0 k1 k2 k3
                  cases va with
                  | nil =>
                    obtain ⟨wt, HWT⟩ : ∃ wt, Hid (wt = wb.tail) := ⟨_, rfl⟩
                    obtain ⟨h1, H1⟩ : ∃ h1, Hid (h1 = headOf wb) := ⟨_, rfl⟩
                    obtain ⟨e1, H2⟩ : ∃ e1, Hid (e1 = !wb.isEmpty) := ⟨_, rfl⟩
                    go_wp2_with fail
                    refine (cut_any w.heap.size _ [] _ HP.out.slv).mono ?_; rintro e w3 ⟨v', rfl, hsl, hob, nq, rfl⟩
                    clear hsl hob
                    have HP3 := Lib.hid (HP.out.later (below_drewN (Below.refl _ _) nq))
                    go_wp2_with fail
                    refine (cut_any w.heap.size _ wb _ HP3.out.slw).mono ?_; rintro e w4 ⟨v2, rfl, hsl, hob, nq2, rfl⟩
                    rw [← H1.out, ← H2.out]
                    rw [← HWT.out] at hsl
                    have hp4 := (HP3.out.later (below_drewN (Below.refl _ _) nq2)).setw (Only.refl _ _) hsl fun g hg => by
                      rcases hob with h | h
                      · rw [h] at hg; cases hg
                      · exact .inl (h ▸ hg)
                    rw [World.drewN_drewN] at hp4
                    have HP4 := Lib.hid hp4
                    clear hp4
                    obtain ⟨A', c', rfl, hc', hc'', _, _⟩ := SL.shape hsl
                    clear hsl hob
                    go_wp2_with fail
                    refine (Either_any ga ca most [] gb cb other wb _ HP4.out.boxA HP4.out.boxB HP4.out.d1 HP4.out.d2 HP4.out.d3).mono ?_; rintro e w5 ⟨rfl, hbA, hbB, ho5⟩
                    rw [List.nil_append, ← H1.out, ← H2.out]
                    simp only [List.isEmpty_nil, if_true] at hbB
                    rw [← HWT.out] at hbB
                    have HT := Lib.hid (HP4.out.box ho5 hbA hbB)
                    have hTa : ([] : List Int).tail.length ≤ most := by simp
                    have hTb : wt.length ≤ other := by rw [HWT.out]; simp; omega
                    clear hbA hbB ho5
                    go_wp2_with fail
                    refine (Len_any ga ca most _ _ HT.out.boxA).mono ?_; rintro e wt ⟨rfl, rfl⟩
                    go_wp2_with fail
                    refine (Len_any gb cb other _ _ HT.out.boxB).mono ?_; rintro e wt ⟨rfl, rfl⟩
                    go_wp2_with fail
                    refine (Room_any ga ca most _ _ HT.out.boxA hTa hm1).mono ?_; rintro e wt ⟨rfl, nq', rfl⟩
                    go_wp2_with fail
                    go_roundw
                    case rel => exact ⟨k + 1, by go_num, by omega, _, _, HT.out.later (below_drewN (Below.refl _ _) nq'), hTa, hTb⟩
                    case measure => simp [intOf]; omega
                  | cons y va =>
                    go_wp2_with fail
                    refine (cut_any w.heap.size _ (y :: va) _ HP.out.slv).mono ?_; rintro e w3 ⟨v', rfl, hsl, hob, nq, rfl⟩
                    have hsl2 : SLi _ w.heap.size v' va := hsl
                    rw [show headOf (y :: va) = y from rfl, show (!(y :: va).isEmpty) = true from rfl]
                    have HP3 := Lib.hid ((HP.out.later (below_drewN (Below.refl _ _) nq)).setv (Only.refl _ _) hsl2 fun g hg => by
                      rcases hob with h | h
                      · rw [h] at hg; cases hg
                      · exact .inl (h ▸ hg))
                    obtain ⟨A', c', rfl, hc', hc'', _, _⟩ := SL.shape hsl2
                    clear hsl hsl2 hob
                    go_wp2_with fail
                    refine (Either_any ga ca most (y :: va) gb cb other wb _ HP3.out.boxA HP3.out.boxB HP3.out.d1 HP3.out.d2 HP3.out.d3).mono ?_; rintro e w5 ⟨rfl, hbA, hbB, ho5⟩
                    rw [show headOf (y :: va ++ wb) = y from rfl, show (!(y :: va ++ wb).isEmpty) = true from rfl]
                    have HT := Lib.hid (HP3.out.box ho5 (show IsBox w5 ga ca most va from hbA) (show IsBox w5 gb cb other wb from hbB))
                    have hTa : va.length ≤ most := by simp at hla; omega
                    have hTb := hlb
                    clear hbA hbB ho5
                    go_wp2_with fail
                    refine (Len_any ga ca most _ _ HT.out.boxA).mono ?_; rintro e wt ⟨rfl, rfl⟩
                    go_wp2_with fail
                    refine (Len_any gb cb other _ _ HT.out.boxB).mono ?_; rintro e wt ⟨rfl, rfl⟩
                    go_wp2_with fail
                    refine (Room_any ga ca most _ _ HT.out.boxA hTa hm1).mono ?_; rintro e wt ⟨rfl, nq', rfl⟩
                    go_wp2_with fail
                    go_roundw
                    case rel => exact ⟨k + 1, by go_num, by omega, _, _, HT.out.later (below_drewN (Below.refl _ _) nq'), hTa, hTb⟩
                    case measure => simp [intOf]; omega
      · as_aux_lemma =>
          have hL' : (20 : Int) < (x.l.length : Int) := by omega
          go_wp2_with fail
          refine (lives42 _).mono ?_; rintro e w3 ⟨rfl, hb3⟩
          go_wp2_with fail
          go_ret
          exact ⟨rfl, HP.out.below.trans (hb3.mono HP.out.below.size)⟩
    · as_aux_lemma =>
        obtain rfl : k = len := by omega
        clear hk
        obtain ⟨wo, rfl⟩ : ∃ wo : World, wo = wr := ⟨_, rfl⟩
        have HW := Lib.hid HJ.out.slw
        go_wp2_with fail
        go_loopw [227] (fun i wr => ∃ j : Nat, i = .int .i64 j ∧ j ≤ wb.length ∧ Hid (IsBox wr gb cb other (wb.drop j)) ∧ wo.grownBy wr (some cb)) (fun i _ => wb.length - (intOf i).toNat)
        case atStart => exact ⟨0, rfl, by omega, Lib.hid (by simpa using HJ.out.boxB), World.grownBy.refl wo _⟩
        case round =>
          obtain ⟨j, rfl, hj, HB, ho⟩ := hrel
          by_cases hlt2 : j < wb.length
          · obtain ⟨y, hy⟩ : ∃ y, wb[j]? = some y := ⟨wb[j], List.getElem?_eq_getElem hlt2⟩
            obtain ⟨A2, c2, hv2, _, _, hn2, hs2⟩ := SL.shape (SL.grown HJ.out.slw ho fun g hg e => (HJ.out.chans (.inr rfl)).2 (by rw [hg, Option.some.inj e]))
            injection hv2 with e1 e2 e3
            subst e1
            clear e2 e3
            cases Aw with
            | none => exact absurd (hn2 rfl).1 (by omega)
            | some aw =>
              have hcell : wr.cell? (aw.add j) = some (.int .i64 y) := (hs2 aw rfl).2.1 j _ (by simp [ints, hy])
              have hd : wb.drop j = y :: wb.drop (j + 1) := by
                rw [List.drop_eq_getElem_cons hlt2]
                rw [List.getElem?_eq_getElem hlt2] at hy
                rw [Option.some.inj hy]
              have HD := Lib.hid hd
              clear hd hy hs2 hn2
              go_wp2_with fail
              refine (Take_some gb cb other (wb.drop (j + 1)) y _ (HD.out ▸ HB.out)).mono ?_; rintro e w4 ⟨rfl, hb4, ho4⟩
              go_wp2_with fail
              go_roundw
              case rel => first | exact ⟨j + 1, by go_num, by omega, Lib.hid hb4, ho.trans ho4⟩ | ((repeat apply Exists.intro); exact ⟨⟨j + 1, by go_num, by omega, Lib.hid hb4, ho.trans ho4⟩, rfl⟩)
              case measure => simp [intOf]; omega
          · go_wp2_with fail
            refine (lives42 _).mono ?_; rintro e w3 ⟨rfl, hb3⟩
            go_wp2_with fail
            go_ret
            have hbq : Below w.heap.size w wr := HJ.out.below.trans (Below.grown (Below.refl _ _) ho HJ.out.below.size (fun k hk => by have := Option.some.inj hk; have := HJ.out.cb0; omega))
            exact ⟨rfl, hbq.trans (hb3.mono hbq.size)⟩
end Go.Proofs.Ythcflakdimedpaa
