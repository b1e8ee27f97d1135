/-
  slices.BinarySearchFunc over ids sorted by their distance. Conditions: the ids are twenty bytes; fewer than half a million of them.
-/
import Derived.Test.YtgdiajhegmdfgaaSrtC
import Derived.Test.YtgdiajhegmdfgaaLstP
namespace Go.Proofs.Ytgdiajhegmdfgaa
open Go.RowKit Go.Sort Go.Lib

/-- The worlds of the walk. -/
structure BsW (w0 : World) (p : Option Addr) (d : Array Id20) (B : Nat) (x : Id20) (gb : Nat) (t : List UInt8) (w : World) : Prop where
  row : IdRow w p d
  box : Row w ⟨B, 0, none⟩ (bytesV x.1)
  boxb : B < w.heap.size
  tb : BB 34 w gb t
  bel : Below w0.heap.size w0 w
theorem BsW.below {w0 w w' : World} {p : Option Addr} {d : Array Id20} {B : Nat} {x : Id20} {gb : Nat} {t : List UInt8} (hpb : ∀ a, p = some a → a.block < w0.heap.size) (h : BsW w0 p d B x gb t w) (hb : Below w.heap.size w w') : BsW w0 p d B x gb t w' :=
  ⟨h.row.below hb (fun a ha => Nat.lt_of_lt_of_le (hpb a ha) h.bel.size), h.box.below hb h.boxb, Nat.lt_of_lt_of_le h.boxb hb.size, h.tb.below hb, h.bel.trans (hb.mono h.bel.size)⟩
theorem BsW.drew {w0 w : World} {p : Option Addr} {d : Array Id20} {B : Nat} {x : Id20} {gb : Nat} {t : List UInt8} (h : BsW w0 p d B x gb t w) : BsW w0 p d B x gb t w.drew := ⟨⟨h.row.none_, h.row.row⟩, h.box, h.boxb, h.tb, below_drewN h.bel 1⟩
theorem IdRow.atq {w : World} {ad : Addr} {d : Array Id20} (h : IdRow w (some ad) d) {k : Nat} {x : Id20} (hk : k < d.size) (hx : d[k]! = x) : Row w (ad.add (k * 20)) (bytesV x.1) := by
  rw [← hx]; exact h.at rfl hk

set_option maxRecDepth 100000 in
set_option maxHeartbeats 8000000 in
theorem search_IDs (t : List UInt8) (ht : t.length = 20) (p : Option Addr) (d : Array Id20) (cap gb : Nat) (x : Id20) (w : World) (hp : IdRow w p d) (hpb : ∀ a, p = some a → a.block < w.heap.size) (hT : BB 34 w gb t) (hn : d.size < 500000) (hup : NearUp t d) :
    Calls Try.prog 56 #[.slice p d.size cap, .agg (bytesV x.1).toArray, .func (.func 76) #[] #[.pointer (some ⟨gb, 0, none⟩)]] w fun e w' =>
      ∃ (n : Nat) (b : Bool), e = .returned (.tuple #[.int .i64 n, .bool b]) ∧ n ≤ d.size ∧ (∀ k, k < n → farC t d[k]!.1 x.1 < 0) ∧ (∀ k, n ≤ k → k < d.size → 0 ≤ farC t d[k]!.1 x.1) ∧ Below w.heap.size w w' := by
  have sx := bytes_size x.2
  have HG : Hid (∀ x : Id20, IsAgg Try.prog 34 (bytesV x.1).length) := Lib.hid (fun x => by rw [bytes_len x.2]; exact aggID)
  have hb1 : Below w.heap.size w (w.alloc (.cells (bytesV x.1).toArray 34)) := (Below.refl _ _).alloc (Nat.le_refl _) _
  have HW : Hid (BsW w p d w.heap.size x gb t (w.alloc (.cells (bytesV x.1).toArray 34))) := Lib.hid ⟨hp.below hb1 hpb, Row.of_block (heap_alloc_new _ _), by simp, hT.alloc _, hb1⟩
  have HPB := Lib.hid hpb
  have HUP := Lib.hid hup
  have HTL := Lib.hid ht
  have HD := Lib.hid hn
  clear hp hpb hb1 hT hup ht
  go_enter Try.func56, Try.ntmps56
  go_wp2_with fail
  go_loopw [9, 10] (fun s9 s10 wr => ∃ i j : Nat, s9 = .int .i64 i ∧ s10 = .int .i64 j ∧ i ≤ j ∧ j ≤ d.size ∧ Hid (BsW w p d w.heap.size x gb t wr) ∧ Hid (∀ k, k < i → farC t d[k]!.1 x.1 < 0) ∧ Hid (∀ k, j ≤ k → k < d.size → 0 ≤ farC t d[k]!.1 x.1)) (fun s9 s10 _ => (intOf s10).toNat - (intOf s9).toNat)
  case atStart => exact ⟨0, d.size, rfl, rfl, Nat.zero_le _, Nat.le_refl _, HW, Lib.hid (fun k hk => by omega), Lib.hid (fun k h1 h2 => by omega)⟩
  case round =>
    clear HW
    obtain ⟨i, j, rfl, rfl, hij, hjd, HW, HLO, HHI⟩ := hrel
    by_cases hlt : i < j
    · obtain ⟨h, hh⟩ : ∃ h, (i + j) / 2 = h := ⟨_, rfl⟩
      have hhd : h < d.size := by omega
      have hih : i ≤ h := by omega
      have hhj : h < j := by omega
      obtain ⟨y, hy⟩ : ∃ y, d[h]! = y := ⟨_, rfl⟩
      have HY := Lib.hid hy
      obtain ⟨ad, rfl⟩ := HW.out.row.some_of (by omega)
      have hij1 : (i : Int) < (j : Int) := by omega
      have HCM : Hid (∀ w, BB 34 w gb t → Calls Try.prog 76 #[.agg (bytesV y.1).toArray, .agg (bytesV x.1).toArray, .pointer (some ⟨gb, 0, none⟩)] w fun e w' => e = .returned (.int .i64 (farC t y.1 x.1)) ∧ Grew w w') := Lib.hid (fun w hg => metric_by1 t y.1 x.1 HTL.out y.2 x.2 gb w hg)
      have hm1 : IntKind.i64.wrap ((i : Int) + (j : Int)) = ((i + j : Nat) : Int) := by have := HD.out; rw [IntKind.wrap_i64]; omega
      clear hy
      have hm2 : ((i : Int) + (j : Int)) / 2 = (h : Int) := by omega
      have hhd1 : (h : Int) < (d.size : Int) := by omega
      clear hh
      by_cases hr : farC t y.1 x.1 < 0
      · have hrd : decide (farC t y.1 x.1 < 0) = true := decide_eq_true hr
        have HR := Lib.hid hr
        clear hr
        go_wp2_with fail
        refine wp_region_QL (BsW w (some ad) d w.heap.size x gb t) (by kernel_rfl) (by kernel_rfl) HW.out.drew ?_
        repeat (first
          | (refine QL.load (o := ⟨some 28, _, _, _, _, _⟩) (by rfl) _ _ rfl _ rfl (bytesV y.1) (fun w h => h.row.atq hhd HY.out) (HG.out _) ?_)
          | (refine QL.load (o := ⟨some 29, _, _, _, _, _⟩) (by rfl) _ _ rfl _ rfl (bytesV x.1) (fun w h => h.box) (HG.out _) ?_)
          | (refine QL.step (fun K hK => ?_); go_simp
             first
               | (refine hK _ ?_; clear hK K)
               | (apply Exists.intro
                  refine ⟨fun w hw => ?_, hK _ ?_⟩
                  first
                    | with_reducible rfl
                    | (go_at_call 76; refine (HCM.out _ hw.tb).mono ?_; rintro e w' ⟨rfl, hbx⟩; exact ⟨rfl, BsW.below HPB.out hw hbx.bel⟩)
                  clear hK K)))
        refine QL.nil ?_
        intro w7 hC7
        clear HW
        have HW := Lib.hid hC7
        clear hC7
        go_wp2_with fail
        go_roundw
        case rel =>
          refine ⟨h + 1, j, by go_num, rfl, by omega, hjd, HW, Lib.hid (fun k hk => ?_), HHI⟩
          by_cases e : k = h
          · rw [e, HY.out]; exact HR.out
          · have h1 := HUP.out k h (by omega) hhd
            rw [HY.out] at h1
            exact farC_trans t _ _ _ h1 HR.out
        case measure => simp [intOf]; omega
      · have hrd : decide (farC t y.1 x.1 < 0) = false := decide_eq_false hr
        have HR : Hid (0 ≤ farC t y.1 x.1) := Lib.hid (by omega)
        clear hr
        go_wp2_with fail
        refine wp_region_QL (BsW w (some ad) d w.heap.size x gb t) (by kernel_rfl) (by kernel_rfl) HW.out.drew ?_
        repeat (first
          | (refine QL.load (o := ⟨some 28, _, _, _, _, _⟩) (by rfl) _ _ rfl _ rfl (bytesV y.1) (fun w h => h.row.atq hhd HY.out) (HG.out _) ?_)
          | (refine QL.load (o := ⟨some 29, _, _, _, _, _⟩) (by rfl) _ _ rfl _ rfl (bytesV x.1) (fun w h => h.box) (HG.out _) ?_)
          | (refine QL.step (fun K hK => ?_); go_simp
             first
               | (refine hK _ ?_; clear hK K)
               | (apply Exists.intro
                  refine ⟨fun w hw => ?_, hK _ ?_⟩
                  first
                    | with_reducible rfl
                    | (go_at_call 76; refine (HCM.out _ hw.tb).mono ?_; rintro e w' ⟨rfl, hbx⟩; exact ⟨rfl, BsW.below HPB.out hw hbx.bel⟩)
                  clear hK K)))
        refine QL.nil ?_
        intro w7 hC7
        clear HW
        have HW := Lib.hid hC7
        clear hC7
        go_wp2_with fail
        go_roundw
        case rel =>
          refine ⟨i, h, rfl, rfl, hih, by omega, HW, HLO, Lib.hid (fun k h1 h2 => ?_)⟩
          have h5 := HR.out
          by_cases e : k = h
          · rw [e, HY.out]; exact h5
          · have h4 := HUP.out h k (by omega) h2
            rw [HY.out] at h4
            rcases Int.lt_or_le (farC t d[k]!.1 x.1) 0 with h3 | h3
            · have := farC_trans t _ _ _ h4 h3; omega
            · exact h3
        case measure => simp [intOf]; omega
    · have hij2 : i = j := by omega
      subst hij2
      by_cases hid : i < d.size
      · obtain ⟨y, hy⟩ : ∃ y, d[i]! = y := ⟨_, rfl⟩
        have HY := Lib.hid hy
        obtain ⟨ad, rfl⟩ := HW.out.row.some_of (by omega)
        have HCM : Hid (∀ w, BB 34 w gb t → Calls Try.prog 76 #[.agg (bytesV y.1).toArray, .agg (bytesV x.1).toArray, .pointer (some ⟨gb, 0, none⟩)] w fun e w' => e = .returned (.int .i64 (farC t y.1 x.1)) ∧ Grew w w') := Lib.hid (fun w hg => metric_by1 t y.1 x.1 HTL.out y.2 x.2 gb w hg)
        have hid1 : (i : Int) < (d.size : Int) := by omega
        clear hy
        go_wp2_with fail
        refine wp_region_QL (BsW w (some ad) d w.heap.size x gb t) (by kernel_rfl) (by kernel_rfl) HW.out.drew ?_
        repeat (first
          | (refine QL.load (o := ⟨some 44, _, _, _, _, _⟩) (by rfl) _ _ rfl _ rfl (bytesV y.1) (fun w h => h.row.atq hid HY.out) (HG.out _) ?_)
          | (refine QL.load (o := ⟨some 45, _, _, _, _, _⟩) (by rfl) _ _ rfl _ rfl (bytesV x.1) (fun w h => h.box) (HG.out _) ?_)
          | (refine QL.step (fun K hK => ?_); go_simp
             first
               | (refine hK _ ?_; clear hK K)
               | (apply Exists.intro
                  refine ⟨fun w hw => ?_, hK _ ?_⟩
                  first
                    | with_reducible rfl
                    | (go_at_call 76; refine (HCM.out _ hw.tb).mono ?_; rintro e w' ⟨rfl, hbx⟩; exact ⟨rfl, BsW.below HPB.out hw hbx.bel⟩)
                  clear hK K)))
        refine QL.nil ?_
        intro w7 hC7
        clear HW
        have HW := Lib.hid hC7
        clear hC7
        go_wp2_with fail
        go_ret2
        exact ⟨i, _, rfl, by omega, HLO.out, HHI.out, HW.out.bel⟩
      · have hie : i = d.size := by omega
        subst hie
        have hid1 : decide ((d.size : Int) < (d.size : Int)) = false := decide_eq_false (by omega)
        have HCM : True := trivial
        go_wp2_with fail
        refine wp_region_QL (BsW w p d w.heap.size x gb t) (by kernel_rfl) (by kernel_rfl) HW.out.drew ?_
        repeat (first
          | (refine QL.step (fun K hK => ?_); go_simp
             first
               | (refine hK _ ?_; clear hK K)
               | (apply Exists.intro
                  refine ⟨fun w hw => ?_, hK _ ?_⟩
                  first
                    | with_reducible rfl
                  clear hK K)))
        refine QL.nil ?_
        intro w7 hC7
        clear HW
        have HW := Lib.hid hC7
        clear hC7
        go_wp2_with fail
        go_ret2
        exact ⟨d.size, _, rfl, by omega, HLO.out, fun k h1 h2 => by omega, HW.out.bel⟩
end Go.Proofs.Ytgdiajhegmdfgaa
