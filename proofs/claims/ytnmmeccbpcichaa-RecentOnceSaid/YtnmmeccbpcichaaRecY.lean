/-
  RecentOnce walked: whatever the input, signpostlaw18.RecentOnce returns true. Conditions: the ops read as data.
-/
import Derived.Test.YtnmmeccbpcichaaRecX
import Derived.Test.YtnmmeccbpcichaaRecV
import Derived.Deep.DeepCutAuto
import Derived.Deep.CutBlock
import Derived.Maps.AppendAt
namespace Go.Proofs.Ytnmmeccbpcichaa
open Go.RowKit

set_option maxRecDepth 100000 in
set_option maxHeartbeats 4000000 in
theorem Once_walk (kk : KeyI) (a : Option Addr) (len cap : Nat) (l : List OpK) (w : World) (h : OpsR w w.heap.size a len l) :
    Calls Try.prog 3 #[.slice a len cap, .int .i64 kk.1] w fun e w' => e = .returned (.bool true) ∧ Below w.heap.size w w' := by
  obtain ⟨i0, hi, hz0, hz1, hz2⟩ := info_parts infoInt
  have HI := Lib.hid (⟨hi, hz0, hz1, hz2⟩ : Try.prog.info? 3 = some i0 ∧ i0.zero = some (.int .i64 0) ∧ i0.size = 1 ∧ i0.bytes = 8)
  have HR := Lib.hid h
  clear h hi hz0 hz1 hz2
  by_cases hl : len ≤ 60
  case neg =>
    have hl60 : 60 < (len : Int) := by omega
    go_enter Try.func3, Try.ntmps3
    go_wp2_with (go_at_call 9; refine (lives18 _).mono ?_; rintro e w1 ⟨rfl, hb1⟩)
    go_ret
    exact ⟨rfl, hb1⟩
  case pos =>
  have hl60 : (len : Int) ≤ 60 := by omega
  go_enter Try.func3, Try.ntmps3
  go_wp2_with fail
  refine (recI_New 40 (by omega) (by omega) _).mono ?_; rintro e w1 ⟨p, rfl, hL, hb⟩
  have HO : Hid (On w p [] (.slice (some ⟨w1.heap.size, 0, none⟩) 0 0) [] 0 (w1.alloc (.cells #[] 3))) := by
    have hb1 : Below w1.heap.size w1 (w1.alloc (.cells #[] 3)) := (Below.refl _ _).alloc (Nat.le_refl _) _
    refine Lib.hid ⟨⟨_, hL.below hb1, fun i hi => ⟨hi.1, Nat.lt_of_lt_of_le hi.2 hb1.size⟩, fun g hg hf => ?_⟩, OwnI.empty hb.size, Nat.zero_le _, hb.trans (hb1.mono hb.size)⟩
    have e : w1.heap.size = g := Option.some.inj hg
    have := hf.2
    omega
  have HN : Hid (Once kk [] [] false) := Lib.hid ⟨by simp, fun h => by cases h⟩
  clear hL hb
  go_wp2_with fail
  go_loopw [6, 7, 23] (fun s6 s7 s23 wr => ∃ (i : Nat) (ks since : List KeyI) (on : Bool), s23 = .int .i64 i ∧ i ≤ len ∧ s7 = .bool on ∧ Hid (On w p ks s6 since i wr) ∧ Hid (Once kk ks since on)) (fun _ _ s23 _ => len - (intOf s23).toNat)
  case atStart => exact ⟨0, [], [], false, rfl, Nat.zero_le _, rfl, HO, HN⟩
  case round =>
    clear HO HN
    obtain ⟨i, ks, since, on, rfl, hile, rfl, HO, HN⟩ := hrel
    by_cases hlt : i < len
    · obtain ⟨x, hx⟩ : ∃ x, l[i]? = some x := ⟨l[i]'(by rw [← HR.out.len]; exact hlt), List.getElem?_eq_getElem _⟩
      obtain ⟨ad, rfl, hab, hrow⟩ := HR.out.at_ i x hx
      have hr : Hid (Row wr (ad.add (i * 2)) [.int .i64 x.kind, .int .i64 x.key.1]) := Lib.hid (hrow.below HO.out.bel (by rw [add_block]; exact hab))
      have hi1 : (i : Int) < (len : Int) := by omega
      clear hrow hab hx
      go_upto_region 11 with (first
        | ((with_reducible show wpList _ _ _ (⟨some 26, _, _, _, _, _⟩ :: _) _ _); refine wpList_load_agg (o := ⟨some 26, _, _, _, _, _⟩) rfl _ (.tmp 25) rfl _ rfl [.int .i64 x.kind, .int .i64 x.key.1] hr.out aggOp ?_)
        | ((with_reducible show wpList _ _ _ (⟨none, _, _, _, _, _⟩ :: _) _ _); refine wpList_store_new (o := ⟨none, _, _, _, _, _⟩) rfl _ (.tmp 9) (.tmp 26) rfl _ _ rfl [.int .i64 x.kind, .int .i64 x.key.1] rfl 2 (by kernel_rfl) rfl rfl (by simp [Value.oneCell']) ?_))
      have HB := Lib.hid (HO.out.open_ (x := x))
      have hc0 : (wr.alloc (.cells #[.int .i64 x.kind, .int .i64 x.key.1] 28)).cell? ⟨wr.heap.size, 0, none⟩ = some (.int .i64 x.kind) := by simp
      have hc1 : (wr.alloc (.cells #[.int .i64 x.kind, .int .i64 x.key.1] 28)).cell? ⟨wr.heap.size, 1, none⟩ = some (.int .i64 x.key.1) := by simp
      generalize wr.alloc (.cells #[.int .i64 x.kind, .int .i64 x.key.1] 28) = W at HB hc0 hc1 ⊢
      go_upto_block 2 with fail
      go_cut [6] (fun s6' wx => ∃ (ks1 since1 : List KeyI), Hid (OnB w p wr.heap.size x ks1 s6' since1 (i + 1) wx) ∧ Hid (Mid kk x on ks1 since1))
      case first =>
        obtain ⟨F, hL, f2, f3, f4⟩ := HB.out.out
        have HL := Lib.hid hL
        have HF := Lib.hid (And.intro f2 (And.intro f3 f4))
        clear hL f2 f3 f4
        by_cases k0 : x.kind = 0
        · have b0 : (x.kind == 0) = true := by simp [k0]
          by_cases hin : x.key ∈ ks
          · have HA := Lib.hid (recI_add_there HL.out x.key hin)
            have HM0 := Lib.hid (mid_same (x := x) HN.out (by omega))
            clear hin k0
            go_wp2_with (go_at_call 11; refine HA.out.mono ?_; rintro e w3 ⟨rfl, rfl⟩)
            go_meet
            case rel => exact ⟨ks, since, Lib.hid (HB.out.more (by omega)), HM0⟩
          · by_cases hf : (ks.length : Int) = 40
            · have HA := Lib.hid (recI_add_full HL.out x.key hin hf)
              have HM0 := Lib.hid (mid_same (x := x) HN.out (by omega))
              clear hin hf k0
              go_wp2_with (go_at_call 11; refine HA.out.mono ?_; rintro e w3 ⟨rfl, j, rfl⟩)
              go_meet
              case rel => exact ⟨ks, since, Lib.hid ((HB.out.drewN j).more (by omega)), HM0⟩
            · have HA := Lib.hid (recI_add_new HL.out x.key hin (by have := HL.out.le; omega))
              have HM0 := Lib.hid (mid_add HN.out k0 hin)
              clear hin hf k0
              go_wp2_with (first
                | (go_at_call 11; refine HA.out.mono ?_; rintro e w3 ⟨rfl, hl3, ho3⟩
                   have HB3 := Lib.hid (HB.out.list HF.out.1 HF.out.2.1 HF.out.2.2 hl3 ho3)
                   have hd1 : w3.cell? ⟨wr.heap.size, 1, none⟩ = some (.int .i64 x.key.1) := by have h9 := HB3.out.box; simp [World.cell?, h9]
                   clear hl3 ho3)
                | (at_builtin
                   refine wpList_append_own_at _ rfl _ _ 26 rfl w.heap.size 3 i0 (.int .i64 0) 1 8 Try.underlying26 HI.out.1 HI.out.2.1 HI.out.2.2.1 HI.out.2.2.2 rfl (by decide) _ since.length (intsV since) rfl (HB3.out.own.below ((Below.refl _ _).alloc (Nat.le_refl _) _)) ⟨w3.heap.size, 0, none⟩ 1 1 [.int .i64 x.key.1] rfl rfl (cell_one_new _ _ _) (by simp [Value.oneCell']) (by have := HB.out.sl; unfold maxLen; omega) (by have := HB.out.sl; omega) (by have := HB3.out.bel.size; simp; omega) ?_
                   intro v' w4 hown' hgrow' _ hloc'
                   have HB4 := Lib.hid (HB3.out.push x.key _ hown' hgrow' hloc')
                   clear hown' hgrow' hloc'))
              go_meet
              case rel => exact ⟨_, _, HB4, HM0⟩
        · have b0 : (x.kind == 0) = false := by simp [k0]
          by_cases k1 : x.kind = 1
          · have b1 : (x.kind == 1) = true := by simp [k1]
            by_cases hin : x.key ∈ ks
            · have HA := Lib.hid (recI_touch HL.out x.key hin)
              have HM0 := Lib.hid (mid_touch (x := x) HN.out k1)
              clear hin k1
              go_wp2_with (first
                | (go_at_call 12; refine HA.out.mono ?_; rintro e w3 ⟨rfl, hl3, ho3⟩
                   have HB3 := Lib.hid (HB.out.list HF.out.1 HF.out.2.1 HF.out.2.2 (hl3.mono fun _ _ hi => Or.inl hi) ho3)
                   have hd1 : w3.cell? ⟨wr.heap.size, 1, none⟩ = some (.int .i64 x.key.1) := by have h9 := HB3.out.box; simp [World.cell?, h9]
                   clear hl3 ho3)
                | (at_builtin
                   refine wpList_append_own_at _ rfl _ _ 26 rfl w.heap.size 3 i0 (.int .i64 0) 1 8 Try.underlying26 HI.out.1 HI.out.2.1 HI.out.2.2.1 HI.out.2.2.2 rfl (by decide) _ since.length (intsV since) rfl (HB3.out.own.below ((Below.refl _ _).alloc (Nat.le_refl _) _)) ⟨w3.heap.size, 0, none⟩ 1 1 [.int .i64 x.key.1] rfl rfl (cell_one_new _ _ _) (by simp [Value.oneCell']) (by have := HB.out.sl; unfold maxLen; omega) (by have := HB.out.sl; omega) (by have := HB3.out.bel.size; simp; omega) ?_
                   intro v' w4 hown' hgrow' _ hloc'
                   have HB4 := Lib.hid (HB3.out.push x.key _ hown' hgrow' hloc')
                   clear hown' hgrow' hloc'))
              go_meet
              case rel => exact ⟨_, _, HB4, HM0⟩
            · have HA := Lib.hid (recI_touch_none HL.out x.key hin)
              have HM0 := Lib.hid (mid_same (x := x) HN.out (fun _ => hin))
              clear hin k1
              go_wp2_with (go_at_call 12; refine HA.out.mono ?_; rintro e w3 ⟨rfl, rfl⟩)
              go_meet
              case rel => exact ⟨ks, since, Lib.hid (HB.out.more (by omega)), HM0⟩
          · have b1 : (x.kind == 1) = false := by simp [k1]
            by_cases k2 : x.kind = 2
            · have b2 : (x.kind == 2) = true := by simp [k2]
              by_cases hin : x.key ∈ ks
              · have HA := Lib.hid (recI_remove HL.out x.key hin)
                have HM0 := Lib.hid (mid_remove (x := x) HN.out k2)
                clear hin k2
                go_wp2_with (go_at_call 13; refine HA.out.mono ?_; rintro e w3 ⟨rfl, hl3, ho3⟩
                             have HB3 := Lib.hid (HB.out.list HF.out.1 HF.out.2.1 HF.out.2.2 (hl3.mono fun _ _ hi => Or.inl hi) ho3)
                             clear hl3 ho3)
                go_meet
                case rel => exact ⟨_, since, Lib.hid (HB3.out.more (by omega)), HM0⟩
              · have HA := Lib.hid (recI_remove_none HL.out x.key hin)
                have HM0 := Lib.hid (mid_same (x := x) HN.out (fun h1 => absurd h1 k1))
                clear hin k2
                go_wp2_with (go_at_call 13; refine HA.out.mono ?_; rintro e w3 ⟨rfl, rfl⟩)
                go_meet
                case rel => exact ⟨ks, since, Lib.hid (HB.out.more (by omega)), HM0⟩
            · have b2 : (x.kind == 2) = false := by simp [k2]
              have HM0 := Lib.hid (mid_same (x := x) HN.out (fun h1 => absurd h1 k1))
              go_wp2_with fail
              go_meet
              case rel => exact ⟨ks, since, Lib.hid (HB.out.more (by omega)), HM0⟩
      case rest =>
        obtain ⟨ks1, since1, HB1, HM⟩ := hcut
        clear HB hc0 hc1 HO HN
        have hd0 : wc.cell? ⟨wr.heap.size, 0, none⟩ = some (.int .i64 x.kind) := by have h9 := HB1.out.box; simp [World.cell?, h9]
        have hd1 : wc.cell? ⟨wr.heap.size, 1, none⟩ = some (.int .i64 x.key.1) := by have h9 := HB1.out.box; simp [World.cell?, h9]
        obtain ⟨F, hL, f2, f3, f4⟩ := HB1.out.out
        have HL := Lib.hid hL
        clear hL f2 f3 f4
        go_step
        go_step
        go_cut [6, 7] (fun s6' s7' wx => ∃ (since2 : List KeyI) (on2 : Bool), s7' = .bool on2 ∧ Hid (OnB w p wr.heap.size x ks1 s6' since2 (i + 1) wx) ∧ Hid (Once kk ks1 since2 on2))
        case first =>
          by_cases e1 : x.key = kk
          · have q1 : (x.key.1 == kk.1) = true := by simp [e1]
            by_cases e2 : x.kind ≤ 1
            · by_cases e3 : kk ∈ ks1
              · have HH := recI_has HL.out kk
                rw [decide_eq_true e3] at HH
                have HH := Lib.hid HH
                by_cases e4 : x.kind = 1
                · have q4 : (x.kind == 1) = true := by simp [e4]
                  have HY := Lib.hid (HM.out.yes ⟨e1, e2, e3, Or.inl e4⟩)
                  clear e1 e3 e4
                  go_wp2_with (go_at_call 14; refine HH.out.mono ?_; rintro e w3 ⟨rfl, rfl⟩)
                  go_meet
                  case rel => exact ⟨[], true, rfl, Lib.hid HB1.out.reset, HY⟩
                · have q4 : (x.kind == 1) = false := by simp [e4]
                  obtain ⟨q, cap', hv, hcell⟩ := HB1.out.own.form
                  subst hv
                  have HCELL := Lib.hid hcell
                  clear hcell
                  rcases List.eq_nil_or_concat since1 with hs | ⟨ys, z, hs⟩
                  · have hlen : since1.length = 0 := by rw [hs]; rfl
                    have HNO := Lib.hid (HM.out.no (fun c => by rcases c.2.2.2 with c | c; exact e4 c; rw [hs] at c; cases c))
                    have HB1 : Hid (OnB w p wr.heap.size x ks1 (.slice q 0 cap') since1 (i + 1) wc) := by have h9 := HB1; rw [hlen] at h9; exact h9
                    rw [hlen]
                    clear e1 e3 e4 hs hlen
                    go_wp2_with (go_at_call 14; refine HH.out.mono ?_; rintro e w3 ⟨rfl, rfl⟩)
                    go_meet
                    case rel => exact ⟨since1, on, rfl, HB1, HNO⟩
                  · have hlen : since1.length = ys.length + 1 := by rw [hs]; simp
                    have hz : since1[ys.length]? = some z := by rw [hs]; simp
                    have hgl : since1.getLast? = some z := by rw [hs]; simp
                    obtain ⟨g, rfl, hcz⟩ := HCELL.out _ _ hz
                    have hsl := HB1.out.sl
                    obtain ⟨n, hn⟩ : ∃ n, ys.length = n := ⟨_, rfl⟩
                    rw [hn] at hlen hcz
                    have hn61 : (n : Int) ≤ 60 := by omega
                    have hw : wrap64 (n : Int) = (n : Int) := by unfold wrap64; omega
                    by_cases e6 : z = kk
                    · have q6 : (z.1 == kk.1) = true := by simp [e6]
                      have HY := Lib.hid (HM.out.yes ⟨e1, e2, e3, Or.inr (e6 ▸ hgl)⟩)
                      clear e1 e3 e4 hs hz hgl hn e6
                      have HB1 : Hid (OnB w p wr.heap.size x ks1 (.slice (some ⟨g, 0, none⟩) (n + 1) cap') since1 (i + 1) wc) := by have h9 := HB1; rw [hlen] at h9; exact h9
                      rw [hlen]
                      clear hlen hsl
                      go_wp2_with (go_at_call 14; refine HH.out.mono ?_; rintro e w3 ⟨rfl, rfl⟩)
                      go_meet
                      case rel => exact ⟨[], true, rfl, Lib.hid HB1.out.reset, HY⟩
                    · have q6 : (z.1 == kk.1) = false := by simp; exact fun h => e6 (Subtype.ext h)
                      have HNO := Lib.hid (HM.out.no (fun c => by rcases c.2.2.2 with c | c; exact e4 c; rw [hgl] at c; exact e6 (Option.some.inj c)))
                      clear e1 e3 e4 hs hz hgl hn e6
                      have HB1 : Hid (OnB w p wr.heap.size x ks1 (.slice (some ⟨g, 0, none⟩) (n + 1) cap') since1 (i + 1) wc) := by have h9 := HB1; rw [hlen] at h9; exact h9
                      rw [hlen]
                      clear hlen hsl
                      go_wp2_with (go_at_call 14; refine HH.out.mono ?_; rintro e w3 ⟨rfl, rfl⟩)
                      go_meet
                      case rel => exact ⟨since1, on, rfl, HB1, HNO⟩
              · have HH := recI_has HL.out kk
                rw [decide_eq_false e3] at HH
                have HH := Lib.hid HH
                have HNO := Lib.hid (HM.out.no (fun c => e3 c.2.2.1))
                clear e1 e3
                go_wp2_with (go_at_call 14; refine HH.out.mono ?_; rintro e w3 ⟨rfl, rfl⟩)
                go_meet
                case rel => exact ⟨since1, on, rfl, HB1, HNO⟩
            · have e2' : 1 < x.kind := by omega
              have HNO := Lib.hid (HM.out.no (fun c => e2 c.2.1))
              clear e1
              go_wp2_with fail
              go_meet
              case rel => exact ⟨since1, on, rfl, HB1, HNO⟩
          · have q1 : (x.key.1 == kk.1) = false := by simp; exact fun h => e1 (Subtype.ext h)
            have HNO := Lib.hid (HM.out.no (fun c => e1 c.1))
            clear e1
            go_wp2_with fail
            go_meet
            case rel => exact ⟨since1, on, rfl, HB1, HNO⟩
        case rest =>
          obtain ⟨since2, on2, rfl, HB2, HN2⟩ := hcut
          clear HB1 HM hd0 hd1 HL
          obtain ⟨F2, hL, f2, f3, f4⟩ := HB2.out.out
          have HL := Lib.hid hL
          have hk40 : ks1.length ≤ 40 := by have := hL.le; omega
          have HT := Lib.hid (law18_told hL (by omega))
          clear hL f2 f3 f4
          go_wp2_with (go_at_call 15; refine HT.out.mono ?_; rintro e w5 ⟨v5, rfl, hown5, _, hb5⟩
                       obtain ⟨q5, c5, rfl, hc5⟩ := OwnI.form (ks := ks1) hown5
                       have HC5 := Lib.hid hc5
                       have HB5 := Lib.hid (HB2.out.below hb5)
                       have HL5 := Lib.hid (HL.out.below hb5)
                       clear hown5 hc5 hb5)
          go_loopw [10, 96] (fun s10 s96 wy => ∃ j : Nat, s96 = .int .i64 j ∧ j ≤ ks1.length ∧ s10 = .bool (decide (kk ∈ ks1.take j)) ∧ w5 = wy) (fun _ s96 _ => ks1.length - (intOf s96).toNat)
          case atStart => exact ⟨0, rfl, Nat.zero_le _, by simp, rfl⟩
          case round =>
            obtain ⟨j, rfl, hj, rfl, rfl⟩ := hrel
            by_cases hjl : j < ks1.length
            · obtain ⟨y, hy⟩ : ∃ y, ks1[j]? = some y := ⟨ks1[j], List.getElem?_eq_getElem hjl⟩
              obtain ⟨g5, rfl, hcell⟩ := HC5.out j y hy
              have HY := Lib.hid hy
              have hj1 : (j : Int) < (ks1.length : Int) := by omega
              clear hy
              by_cases ey : y = kk
              · have qy : (y.1 == kk.1) = true := by simp [ey]
                have HT1 : Hid (decide (kk ∈ ks1.take (j + 1)) = true) := Lib.hid (decide_eq_true ((mem_take_succ HY.out).2 (Or.inr ey.symm)))
                generalize decide (kk ∈ ks1.take j) = be
                clear ey
                go_wp2_with fail
                go_roundw
                case rel => exact ⟨j + 1, by go_num, by omega, by rw [HT1.out], by first | rfl | trivial⟩
                case measure => simp [intOf]; omega
              · have qy : (y.1 == kk.1) = false := by simp; exact fun h => ey (Subtype.ext h)
                have HT1 : Hid (decide (kk ∈ ks1.take (j + 1)) = decide (kk ∈ ks1.take j)) := Lib.hid (decide_eq_decide.2 ((mem_take_succ HY.out).trans ⟨fun h => h.elim id fun h => absurd h.symm ey, Or.inl⟩))
                have HH := recI_has HL5.out kk
                have HS := law18_has HB5.out.own (by have := HB5.out.sl; omega) y
                have HF : on2 = true → decide (kk ∈ ks1.take j) = true → decide (y ∈ since2) = true := fun h1 h2 => decide_eq_true (HN2.out.be h1 y (after_at (of_decide_eq_true h2) HY.out))
                obtain ⟨be, hbe⟩ : ∃ be, decide (kk ∈ ks1.take j) = be := ⟨_, rfl⟩
                obtain ⟨hb3, hhb3⟩ : ∃ hb3, decide (kk ∈ ks1) = hb3 := ⟨_, rfl⟩
                obtain ⟨hs3, hhs3⟩ : ∃ hs3, decide (y ∈ since2) = hs3 := ⟨_, rfl⟩
                rw [hhb3] at HH
                rw [hhs3] at HS
                rw [hbe, hhs3] at HF
                rw [hbe] at HT1 ⊢
                have HH := Lib.hid HH
                have HS := Lib.hid HS
                clear ey hbe hhb3 hhs3
                cases on2 <;> cases be <;> cases hb3 <;> cases hs3 <;> (try (exact absurd (HF rfl rfl) (by decide))) <;> clear HF
                all_goals
                  go_wp2_with (first
                    | (go_at_call 14; refine HH.out.mono ?_; rintro e w6 ⟨rfl, rfl⟩)
                    | (go_at_call 16; refine HS.out.mono ?_; rintro e w6 ⟨rfl, rfl⟩))
                  go_roundw
                  case rel => exact ⟨j + 1, by go_num, by omega, by rw [HT1.out], by first | rfl | trivial⟩
                  case measure => simp [intOf]; omega
            · have hj2 : j = ks1.length := by omega
              subst hj2
              go_wp2_with fail
              go_roundw
              case rel => exact ⟨i + 1, ks1, since2, on2, by go_num, by omega, rfl, Lib.hid HB5.out.toOn, HN2⟩
              case measure => simp [intOf]; omega
    · have hi2 : i = len := by omega
      subst hi2
      go_wp2_with (go_at_call 9; refine (lives18 _).mono ?_; rintro e w5 ⟨rfl, hb5⟩)
      go_ret
      exact ⟨rfl, HO.out.bel.trans (hb5.mono HO.out.bel.size)⟩
end Go.Proofs.Ytnmmeccbpcichaa
