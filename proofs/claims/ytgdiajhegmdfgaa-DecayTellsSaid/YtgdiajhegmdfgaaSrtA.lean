/-
  ident.Sort: its two closures, slices.SortFunc by the first, slices.CompactFunc by the second. Conditions: the ids are twenty bytes; at most half a million of them.
-/
import Derived.Test.YtgdiajhegmdfgaaMetC
namespace Go.Proofs.Ytgdiajhegmdfgaa
open Go.RowKit Go.Sort Go.Lib

theorem CompW.below {w0 w w' : World} {g : Nat} {d : Array Id20} (h : CompW w0 g d w) (hb : Below w.heap.size w w') : CompW w0 g d w' := ⟨h.ib.below hb, h.only.trans (Only.of_below hb)⟩

theorem xorB_zeros : ∀ (l : List UInt8), xorB (List.replicate l.length 0) l = l
  | [] => rfl
  | x :: l => by
    show ((0 : UInt8) ^^^ x) :: xorB (List.replicate l.length 0) l = x :: l
    rw [xorB_zeros l, UInt8.zero_xor]
theorem farC_zeros (a b : List UInt8) (ha : a.length = 20) (hb : b.length = 20) : farC (List.replicate 20 0) a b = Lib.compareBytes a b := by
  unfold farC
  have h1 := xorB_zeros a
  have h2 := xorB_zeros b
  rw [ha] at h1
  rw [hb] at h2
  rw [h1, h2]

set_option maxRecDepth 100000 in
set_option maxHeartbeats 1000000 in
theorem ident_Sort1 (a b : List UInt8) (ha : a.length = 20) (hb : b.length = 20) (w : World) :
    Calls Try.prog 42 #[.agg (bytesV a).toArray, .agg (bytesV b).toArray] w fun e w' => e = .returned (.int .i64 (farC (List.replicate 20 0) a b)) ∧ Grew w w' := by
  have sa := bytes_size ha
  have sb := bytes_size hb
  have haA : Hid (IsAgg Try.prog 34 (bytesV a).length) := Lib.hid (by rw [bytes_len ha]; exact aggID)
  have haB : Hid (IsAgg Try.prog 34 (bytesV b).length) := Lib.hid (by rw [bytes_len hb]; exact aggID)
  have i1 : Hid (BB 34 ((w.alloc (.cells (bytesV a).toArray 34)).alloc (.cells (bytesV b).toArray 34)) w.heap.size a) := Lib.hid (BB.alloc (l := a) (heap_alloc_new _ _) _)
  have i2 : Hid (BB 34 ((w.alloc (.cells (bytesV a).toArray 34)).alloc (.cells (bytesV b).toArray 34)) (w.heap.size + 1) b) := Lib.hid (heap_alloc2_new _ _ _)
  have i5 : Hid (Grew w ((w.alloc (.cells (bytesV a).toArray 34)).alloc (.cells (bytesV b).toArray 34))) := Lib.hid (((Grew.refl w).alloc _).alloc _)
  have HM := Lib.hid (fun w => ident_CmpG a b ha hb w)
  rw [farC_zeros a b ha hb]
  generalize Lib.compareBytes a b = r at *
  go_enter Try.func42, Try.ntmps42
  go_wp2_with (first
    | ((with_reducible show wpList _ _ _ (⟨some 5, _, _, _, _, _⟩ :: _) _ _); refine wpList_load_agg (o := ⟨some 5, _, _, _, _, _⟩) rfl _ (.tmp 2) rfl _ rfl (bytesV a) i1.out.row haA.out ?_)
    | ((with_reducible show wpList _ _ _ (⟨some 6, _, _, _, _, _⟩ :: _) _ _); refine wpList_load_agg (o := ⟨some 6, _, _, _, _, _⟩) rfl _ (.tmp 3) rfl _ rfl (bytesV b) i2.out.row haB.out ?_)
    | (go_at_call 43; refine (HM.out _).mono ?_; rintro e w3 ⟨rfl, hg3⟩))
  go_ret
  exact ⟨rfl, i5.out.trans hg3⟩

set_option maxRecDepth 100000 in
set_option maxHeartbeats 1000000 in
theorem ident_Sort2 (a b : List UInt8) (ha : a.length = 20) (hb : b.length = 20) (r : Bool) (hr : decide (a = b) = r) (w : World) :
    Calls Try.prog 44 #[.agg (bytesV a).toArray, .agg (bytesV b).toArray] w fun e w' => e = .returned (.bool r) ∧ Below w.heap.size w w' := by
  have sa := bytes_size ha
  have sb := bytes_size hb
  have haA : Hid (IsAgg Try.prog 34 (bytesV a).length) := Lib.hid (by rw [bytes_len ha]; exact aggID)
  have haB : Hid (IsAgg Try.prog 34 (bytesV b).length) := Lib.hid (by rw [bytes_len hb]; exact aggID)
  have i1 : Hid (BB 34 ((w.alloc (.cells (bytesV a).toArray 34)).alloc (.cells (bytesV b).toArray 34)) w.heap.size a) := Lib.hid (BB.alloc (l := a) (heap_alloc_new _ _) _)
  have i2 : Hid (BB 34 ((w.alloc (.cells (bytesV a).toArray 34)).alloc (.cells (bytesV b).toArray 34)) (w.heap.size + 1) b) := Lib.hid (heap_alloc2_new _ _ _)
  have i5 : Hid (Below w.heap.size w ((w.alloc (.cells (bytesV a).toArray 34)).alloc (.cells (bytesV b).toArray 34))) := Lib.hid (((Below.refl _ _).alloc (Nat.le_refl _) _).alloc (by simp) _)
  have hq : ∀ w, (binOp .eql 34 (.agg (bytesV a).toArray) (.agg (bytesV b).toArray)).run Try.prog w = .ok (.bool r) w := fun w => by
    have h := eql_ID w a b ha hb
    rwa [hr] at h
  clear hr
  go_enter Try.func44, Try.ntmps44
  go_wp2_with (first
    | ((with_reducible show wpList _ _ _ (⟨some 5, _, _, _, _, _⟩ :: _) _ _); refine wpList_load_agg (o := ⟨some 5, _, _, _, _, _⟩) rfl _ (.tmp 2) rfl _ rfl (bytesV a) i1.out.row haA.out ?_)
    | ((with_reducible show wpList _ _ _ (⟨some 6, _, _, _, _, _⟩ :: _) _ _); refine wpList_load_agg (o := ⟨some 6, _, _, _, _, _⟩) rfl _ (.tmp 3) rfl _ rfl (bytesV b) i2.out.row haB.out ?_))
  go_ret
  exact ⟨rfl, i5.out⟩

set_option maxHeartbeats 4000000 in
set_option maxRecDepth 1000000 in
theorem slices_CompactFunc (g cap : Nat) (d : Array Id20) (w : World) (hH : IB w g d) (hsz : d.size ≤ 9223372036854775807) (hcap : d.size ≤ cap) (zr : Id20) (hzr : zr.1 = List.replicate 20 0) :
    Calls Try.prog 45 #[.slice (some ⟨g, 0, none⟩) d.size cap, .func (.func 44) #[] #[]] w fun e w' => e = .returned (.slice (some ⟨g, 0, none⟩) (compactUpTo d d.size).length cap) ∧ Only (· = g) w w' ∧ IB w' g (compactUpTo d d.size ++ List.replicate (d.size - (compactUpTo d d.size).length) zr).toArray := by
  have same : ∀ wr, IB wr g d → (∀ j, j < d.size → keeps d j = true) → (compactUpTo d d.size).length = d.size ∧ IB wr g (compactUpTo d d.size ++ List.replicate (d.size - (compactUpTo d d.size).length) zr).toArray := by
    intro wr h hall
    have e : compactUpTo d d.size = d.toList := by rw [compactUpTo_all d _ hall, range_map_get]
    rw [e]
    refine ⟨by simp, ?_⟩
    simpa using h
  have HS := Lib.hid same
  have HI := Lib.hid hH
  clear same hH
  by_cases h2 : d.size < 2
  · go_enter Try.func45, Try.ntmps45
    go_wp2_with fail
    go_ret
    obtain ⟨e1, e2⟩ := HS.out w HI.out (fun j hj => keeps_lt_one d j (by omega))
    exact ⟨by rw [e1]; rfl, Only.refl _ _, e2⟩
  · go_enter Try.func45, Try.ntmps45
    go_wp2_with fail
    go_loopg [5] d.size (fun gg s5 wr => ∃ k : Nat, 1 ≤ k ∧ k ≤ d.size ∧ d.size - k ≤ gg ∧ s5 = .int .i64 k ∧ Hid (IB wr g d) ∧ Hid (Only (· = g) w wr) ∧ ∀ j, j < k → keeps d j = true)
    case atStart => exact ⟨1, Nat.le_refl _, by omega, by omega, rfl, HI, Lib.hid (Only.refl _ _), keeps_lt_one d⟩
    case round =>
      obtain ⟨k, hk1, hk, hg, rfl, HB, HO, hall⟩ := hrel
      by_cases hlt : k < d.size
      · have A : Hid (∀ j, j < k → keeps d j = true) := hall
        clear hall
        have HG : Hid (∀ x : Id20, IsAgg Try.prog 34 (bytesV x.1).length) := Lib.hid (fun x => by rw [bytes_len x.2]; exact aggID)
        obtain ⟨x, hx⟩ : ∃ x, d[k]! = x := ⟨_, rfl⟩
        obtain ⟨m, hm⟩ : ∃ m, k - 1 = m := ⟨_, rfl⟩
        obtain ⟨y, hy⟩ : ∃ y, d[m]! = y := ⟨_, rfl⟩
        have hw1 : IntKind.i64.wrap ((k : Int) - 1) = (m : Int) := by rw [IntKind.wrap_i64]; omega
        have hm1 : (m : Int) < (d.size : Int) := by omega
        have hm2 : m < d.size := by omega
        have HM := Lib.hid hm
        clear hm
        have HX := Lib.hid hx
        have HY := Lib.hid hy
        clear hx hy
        by_cases hdup : x = y
        · subst hdup
          have HE := Lib.hid (fun w => ident_Sort2 x.1 x.1 x.2 x.2 true (by simp) w)
          go_wp2_with fail
          refine wp_region_QL (CompW w g d) (by kernel_rfl) (by kernel_rfl) (CompW.drew ⟨HB.out, HO.out⟩) ?_
          repeat (first
            | (refine QL.load (by rfl) _ _ rfl _ rfl (bytesV x.1) (fun w h => h.ib.rowAt hlt rfl HX.out) (HG.out _) ?_)
            | (refine QL.load (by rfl) _ _ rfl _ rfl (bytesV x.1) (fun w h => h.ib.rowAt hm2 rfl HY.out) (HG.out _) ?_)
            | (refine QL.step (fun K hK => ?_); go_simp
               first
                 | (refine hK _ ?_; clear hK K)
                 | (apply Exists.intro
                    refine ⟨fun w hw => ?_, hK _ ?_⟩
                    first
                      | with_reducible rfl
                      | (go_at_call 44; refine (HE.out _).mono ?_; rintro e w' ⟨rfl, hbx⟩; exact ⟨rfl, CompW.below hw hbx⟩)
                    clear hK K)))
          refine QL.nil ?_
          intro w1 hC
          have HC := Lib.hid hC
          clear hC HB HO
          go_wp2_with fail
          go_loopg [5, 7] d.size (fun gg s5 s7 wr => ∃ (kk k2 : Nat) (dk : Array Id20), s5 = .int .i64 kk ∧ s7 = .int .i64 k2 ∧ 1 ≤ k2 ∧ k + k2 ≤ d.size ∧ d.size - (k + k2) ≤ gg ∧ Hid (IB wr g dk) ∧ Hid (Only (· = g) w wr) ∧ Hid (CompInv d (k + k2) kk dk))
          case atStart => exact ⟨k, 1, d, rfl, rfl, Nat.le_refl _, by omega, by omega, Lib.hid HC.out.ib, Lib.hid HC.out.only, Lib.hid (CompInv.start A.out (keeps_neg (by omega) (by rw [HM.out, HX.out, HY.out])))⟩
          case round =>
            clear HC
            obtain ⟨kk, k2, dk, rfl, rfl, h1, hle, hg2, HB, HO, HI2⟩ := hrel
            have hkk := HI2.out.lt
            have hds := HI2.out.size
            by_cases hlt2 : k + k2 < d.size
            · obtain ⟨u, hu⟩ : ∃ u, dk[k + k2]! = u := ⟨_, rfl⟩
              obtain ⟨n, hn⟩ : ∃ n, k2 - 1 = n := ⟨_, rfl⟩
              obtain ⟨v, hv⟩ : ∃ v, dk[k + n]! = v := ⟨_, rfl⟩
              have HU := Lib.hid hu
              have HV := Lib.hid hv
              have HDU : Hid (d[k + k2]! = u) := Lib.hid (by rw [← HI2.out.high (k + k2) (by omega)]; exact hu)
              have HDV : Hid (d[k + k2 - 1]! = v) := Lib.hid (by rw [← HI2.out.high (k + k2 - 1) (by omega), show k + k2 - 1 = k + n by omega]; exact hv)
              have hw2 : IntKind.i64.wrap ((k2 : Int) - 1) = (n : Int) := by rw [IntKind.wrap_i64]; omega
              have hk2 : (k2 : Int) < ((d.size - k : Nat) : Int) := by omega
              have hn1 : (n : Int) < ((d.size - k : Nat) : Int) := by omega
              have hkd : (kk : Int) < (d.size : Int) := by omega
              have hk2a : k + k2 < dk.size := by omega
              have hk2b : k + n < dk.size := by omega
              have HN := Lib.hid hn
              clear hu hv hn
              by_cases huv : u = v
              · subst huv
                have HE2 := Lib.hid (fun w => ident_Sort2 u.1 u.1 u.2 u.2 true (by simp) w)
                go_wp2_with fail
                refine wp_region_QL (CompW w g dk) (by kernel_rfl) (by kernel_rfl) (CompW.drew ⟨HB.out, HO.out⟩) ?_
                repeat (first
                  | (refine QL.load (by rfl) _ _ rfl _ rfl (bytesV u.1) (fun w h => h.ib.rowAt hk2a (by omega) HU.out) (HG.out _) ?_)
                  | (refine QL.load (by rfl) _ _ rfl _ rfl (bytesV u.1) (fun w h => h.ib.rowAt hk2b (by omega) HV.out) (HG.out _) ?_)
                  | (refine QL.step (fun K hK => ?_); go_simp
                     first
                       | (refine hK _ ?_; clear hK K)
                       | (apply Exists.intro
                          refine ⟨fun w hw => ?_, hK _ ?_⟩
                          first
                            | with_reducible rfl
                            | (go_at_call 44; refine (HE2.out _).mono ?_; rintro e w' ⟨rfl, hbx⟩; exact ⟨rfl, CompW.below hw hbx⟩)
                          clear hK K)))
                refine QL.nil ?_
                intro w1 hC
                have HC := Lib.hid hC
                clear hC HB HO
                go_wp2_with fail
                go_roundg (d.size - (k + (k2 + 1)))
                case measure => omega
                case rel => exact ⟨kk, k2 + 1, dk, rfl, by go_num, by omega, by omega, Nat.le_refl _, Lib.hid HC.out.ib, Lib.hid HC.out.only, Lib.hid (HI2.out.skip (keeps_neg (by omega) (by rw [HDU.out, HDV.out])))⟩
              · have HE2 := Lib.hid (fun w => ident_Sort2 u.1 v.1 u.2 v.2 false (decide_eq_false fun e => huv (Subtype.ext e)) w)
                have HUV := Lib.hid huv
                clear huv
                go_wp2_with fail
                refine wp_region_QL (CompW w g dk) (by kernel_rfl) (by kernel_rfl) (CompW.drew ⟨HB.out, HO.out⟩) ?_
                repeat (first
                  | (refine QL.load (by rfl) _ _ rfl _ rfl (bytesV u.1) (fun w h => h.ib.rowAt hk2a (by omega) HU.out) (HG.out _) ?_)
                  | (refine QL.load (by rfl) _ _ rfl _ rfl (bytesV v.1) (fun w h => h.ib.rowAt hk2b (by omega) HV.out) (HG.out _) ?_)
                  | (refine QL.step (fun K hK => ?_); go_simp
                     first
                       | (refine hK _ ?_; clear hK K)
                       | (apply Exists.intro
                          refine ⟨fun w hw => ?_, hK _ ?_⟩
                          first
                            | with_reducible rfl
                            | (go_at_call 44; refine (HE2.out _).mono ?_; rintro e w' ⟨rfl, hbx⟩; exact ⟨rfl, CompW.below hw hbx⟩)
                          clear hK K)))
                refine QL.nil ?_
                intro w1 hC
                have HC := Lib.hid hC
                clear hC HB HO
                go_wp2_with (first
                  | refine wpList_load_agg (o := ⟨some 55, _, _, _, _, _⟩) rfl _ (.tmp 54) rfl _ rfl (bytesV u.1) (HC.out.ib.rowAt hk2a (by omega) HU.out) (HG.out _) ?_
                  | refine wpList_store_part (o := ⟨none, _, _, _, _, _⟩) rfl _ (.tmp 56) (.tmp 55) rfl g _ rfl (bytesV u.1) rfl _ _ HC.out.ib 20 (by kernel_rfl) (bytes_len u.2) (by rw [idsV_size]; omega) (bytesV_one _) ?_)
                rw [← List.append_assoc, idsV_set dk kk u (by omega)]
                go_roundg (d.size - (k + (k2 + 1)))
                case measure => omega
                case rel => exact ⟨kk + 1, k2 + 1, dk.setIfInBounds kk u, by go_num, by go_num, by omega, by omega, Nat.le_refl _, Lib.hid (HC.out.ib.setRow _), Lib.hid (HC.out.only.trans (Only.setRow _ _ _)), Lib.hid (by have := HI2.out.keep hlt2 (keeps_pos (by rw [HDU.out, HDV.out]; exact HUV.out)); rwa [HDU.out] at this)⟩
            · have hend : k + k2 = d.size := by omega
              have hcl := run_clear_ids wr g dk kk (d.size - kk) (cap - kk) zr hzr HB.out (by omega) (by omega)
              go_wp2_with fail
              go_ret
              have hI := HI2.out
              rw [hend] at hI
              refine ⟨by rw [hI.len]; rfl, HO.out.trans (Only.setRow _ _ _), ?_⟩
              rw [hI.len, ← hI.done zr]
              exact HB.out.setRow _
        · have HE := Lib.hid (fun w => ident_Sort2 x.1 y.1 x.2 y.2 false (decide_eq_false fun e => hdup (Subtype.ext e)) w)
          have HD := Lib.hid hdup
          clear hdup
          go_wp2_with fail
          refine wp_region_QL (CompW w g d) (by kernel_rfl) (by kernel_rfl) (CompW.drew ⟨HB.out, HO.out⟩) ?_
          repeat (first
            | (refine QL.load (by rfl) _ _ rfl _ rfl (bytesV x.1) (fun w h => h.ib.rowAt hlt rfl HX.out) (HG.out _) ?_)
            | (refine QL.load (by rfl) _ _ rfl _ rfl (bytesV y.1) (fun w h => h.ib.rowAt hm2 rfl HY.out) (HG.out _) ?_)
            | (refine QL.step (fun K hK => ?_); go_simp
               first
                 | (refine hK _ ?_; clear hK K)
                 | (apply Exists.intro
                    refine ⟨fun w hw => ?_, hK _ ?_⟩
                    first
                      | with_reducible rfl
                      | (go_at_call 44; refine (HE.out _).mono ?_; rintro e w' ⟨rfl, hbx⟩; exact ⟨rfl, CompW.below hw hbx⟩)
                    clear hK K)))
          refine QL.nil ?_
          intro w1 hC
          have HC := Lib.hid hC
          clear hC HB HO
          go_wp2_with fail
          go_roundg (d.size - (k + 1))
          case measure => omega
          case rel =>
            refine ⟨k + 1, by omega, by omega, Nat.le_refl _, by go_num, Lib.hid HC.out.ib, Lib.hid HC.out.only, fun j hj => ?_⟩
            by_cases e : j = k
            · subst e
              exact keeps_pos (by rw [HM.out, HX.out, HY.out]; exact HD.out)
            · exact A.out j (by omega)
      · have hkd : k = d.size := by omega
        subst hkd
        have A := Lib.hid hall
        clear hall
        go_wp2_with fail
        go_ret
        obtain ⟨e1, e2⟩ := HS.out wr HB.out A.out
        exact ⟨by rw [e1]; rfl, HO.out, e2⟩

/-- slices.SortFunc by the rising order. -/
theorem sort_rise (g cap : Nat) (d : Array Id20) (w : World) (hI : IB w g d) (hsz : d.size < 4611686018427387904) :
    Calls Try.prog 41 #[.slice (some ⟨g, 0, none⟩) d.size cap, .func (.func 42) #[] #[]] w fun e w' =>
      e = .returned (.tuple #[]) ∧ Only (· = g) w w' ∧ IB w' g (nearS (List.replicate 20 0) d.toList).toArray := by
  have eg : ∀ args w, (callFunc 42 args).run Try.prog w = .ok (.enter 42 args) w := enters_of Try.func42 (by kernel_rfl) rfl
  have ht : (List.replicate 20 (0 : UInt8)).length = 20 := by simp
  have hcmp : CmpLays Try.prog 42 #[] encId 20 (nearC (List.replicate 20 0)) g 0 d.size w := by
    intro m os dk hs x y
    exact (ident_Sort1 x.1 y.1 x.2 y.2 _).mono fun e w' ⟨he, hg⟩ => ⟨he, hg.grow⟩
  have hcon := AnyQ.slices_SortFunc_total Try.sortIDs 20 Try.isAgg34 Try.sizeOf34 encId encId_length encId_one (nearC (List.replicate 20 0)) (near_swo _ ht) 42 #[] g 0 cap d w eg hcmp hI.holds hI.lt hsz (near_total _ ht)
  refine hcon.mono ?_
  rintro e w' ⟨he, n, os, rfl⟩
  exact ⟨he, sorted_world w g n d _ os hI (nearS_size _ d)⟩

set_option maxRecDepth 100000 in
set_option maxHeartbeats 1000000 in
theorem ident_Sort (p : Option Addr) (d : Array Id20) (cap : Nat) (w : World) (hp : IdRow w p d) (hpb : ∀ a, p = some a → a.block < w.heap.size) (hn : d.size ≤ 500000) :
    Calls Try.prog 11 #[.slice p d.size cap] w fun e w' =>
      e = .returned (.slice (some ⟨w.heap.size, 0, none⟩) (nearD (List.replicate 20 0) d).length d.size) ∧ Below w.heap.size w w' ∧ IB w' w.heap.size (nearD (List.replicate 20 0) d ++ List.replicate (d.size - (nearD (List.replicate 20 0) d).length) noId).toArray := by
  have i2 : IB (w.alloc (.cells (idsV (Array.replicate d.size noId)) 34)) w.heap.size (Array.replicate d.size noId) := heap_alloc_new _ _
  have i5 : Below w.heap.size w (w.alloc (.cells (idsV (Array.replicate d.size noId)) 34)) := (Below.refl _ _).alloc (Nat.le_refl _) _
  have hcp := run_copy_ids _ p d (Array.replicate d.size noId) cap w.heap.size (hp.below i5 hpb) (by simp) i2
  have o3 := Only.setRow (w.alloc (.cells (idsV (Array.replicate d.size noId)) 34)) w.heap.size (idsV d)
  have k2 := Lib.hid (i2.setRow d)
  have k5 : Hid (Below w.heap.size w _) := Lib.hid (i5.trans (Only.below o3 i5.size (fun k hk => by omega)))
  clear i2 i5 o3
  have HN := Lib.hid hn
  go_enter Try.func11, Try.ntmps11
  go_wp2_with (refine wpList_make_ids _ rfl _ _ rfl d.size rfl rfl HN.out ?_)
  generalize ((w.alloc (.cells (idsV (Array.replicate d.size noId)) 34)).setRow w.heap.size (idsV d)) = W3 at *
  refine (sort_rise w.heap.size d.size d W3 k2.out (by omega)).mono ?_
  rintro e w5 ⟨rfl, ho5, hb5⟩
  have ht5 : (nearS (List.replicate 20 0) d.toList).toArray.size = d.size := nearS_size _ d
  have HK := Lib.hid (slices_CompactFunc w.heap.size d.size (nearS (List.replicate 20 0) d.toList).toArray w5 hb5 (by rw [ht5]; omega) (by rw [ht5]; exact Nat.le_refl _) noId rfl)
  rw [ht5] at HK
  have m7 : Hid (Below w.heap.size w w5) := Lib.hid (k5.out.trans (Only.below ho5 k5.out.size (fun k hk => by omega)))
  clear hcp k2 k5 ho5 hb5 ht5 hp hpb
  go_wp2_with fail
  refine HK.out.mono ?_
  rintro e w6 ⟨rfl, ho6, hb6⟩
  have m8 : Hid (Below w.heap.size w w6) := Lib.hid (m7.out.trans (Only.below ho6 m7.out.size (fun k hk => by omega)))
  have HB := Lib.hid hb6
  clear ho6 hb6 m7
  go_wp2_with fail
  go_ret
  exact ⟨rfl, m8.out, HB.out⟩
end Go.Proofs.Ytgdiajhegmdfgaa
