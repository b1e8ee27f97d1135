/-
  The document's answer for reading an id's text (signpostref03.Parse). Conditions: the text fits in memory.
-/
import Derived.Test.YtjdmbegmbffhfaaIdF
namespace Go.Proofs.Ytjdmbegmbffhfaa
open Go.RowKit

set_option maxRecDepth 100000 in
set_option maxHeartbeats 1600000 in
theorem ref_Parse (l : List UInt8) (hl : l.length ≤ 1048576) (w : World) :
    Calls Try.prog 33 #[.string ⟨l.toArray⟩] w fun e w' => e = .returned (.tuple #[.agg (bytesV (parseA l)).toArray, .int .i64 (parseE l)]) ∧ Below w.heap.size w w' := by
  have f1 : Hid (BB 57 ((w.alloc (.cells #[.int .u8 0, .int .u8 0, .int .u8 0, .int .u8 0, .int .u8 0, .int .u8 0, .int .u8 0, .int .u8 0, .int .u8 0, .int .u8 0, .int .u8 0, .int .u8 0, .int .u8 0, .int .u8 0, .int .u8 0, .int .u8 0, .int .u8 0, .int .u8 0, .int .u8 0, .int .u8 0] 57)).alloc (.cells #[.int .u8 0, .int .u8 0, .int .u8 0, .int .u8 0, .int .u8 0, .int .u8 0, .int .u8 0, .int .u8 0, .int .u8 0, .int .u8 0, .int .u8 0, .int .u8 0, .int .u8 0, .int .u8 0, .int .u8 0, .int .u8 0, .int .u8 0, .int .u8 0, .int .u8 0, .int .u8 0] 57)) w.heap.size (List.replicate 20 0)) := Lib.hid (BB.alloc (show BB 57 (w.alloc (.cells #[.int .u8 0, .int .u8 0, .int .u8 0, .int .u8 0, .int .u8 0, .int .u8 0, .int .u8 0, .int .u8 0, .int .u8 0, .int .u8 0, .int .u8 0, .int .u8 0, .int .u8 0, .int .u8 0, .int .u8 0, .int .u8 0, .int .u8 0, .int .u8 0, .int .u8 0, .int .u8 0] 57)) w.heap.size (List.replicate 20 0) from heap_alloc_new _ _) _)
  have f3 : Hid (BB 57 ((w.alloc (.cells #[.int .u8 0, .int .u8 0, .int .u8 0, .int .u8 0, .int .u8 0, .int .u8 0, .int .u8 0, .int .u8 0, .int .u8 0, .int .u8 0, .int .u8 0, .int .u8 0, .int .u8 0, .int .u8 0, .int .u8 0, .int .u8 0, .int .u8 0, .int .u8 0, .int .u8 0, .int .u8 0] 57)).alloc (.cells #[.int .u8 0, .int .u8 0, .int .u8 0, .int .u8 0, .int .u8 0, .int .u8 0, .int .u8 0, .int .u8 0, .int .u8 0, .int .u8 0, .int .u8 0, .int .u8 0, .int .u8 0, .int .u8 0, .int .u8 0, .int .u8 0, .int .u8 0, .int .u8 0, .int .u8 0, .int .u8 0] 57)) (w.heap.size + 1) (List.replicate 20 0)) := Lib.hid (heap_alloc2_new _ _ _)
  have f2 : Hid (Below w.heap.size w ((w.alloc (.cells #[.int .u8 0, .int .u8 0, .int .u8 0, .int .u8 0, .int .u8 0, .int .u8 0, .int .u8 0, .int .u8 0, .int .u8 0, .int .u8 0, .int .u8 0, .int .u8 0, .int .u8 0, .int .u8 0, .int .u8 0, .int .u8 0, .int .u8 0, .int .u8 0, .int .u8 0, .int .u8 0] 57)).alloc (.cells #[.int .u8 0, .int .u8 0, .int .u8 0, .int .u8 0, .int .u8 0, .int .u8 0, .int .u8 0, .int .u8 0, .int .u8 0, .int .u8 0, .int .u8 0, .int .u8 0, .int .u8 0, .int .u8 0, .int .u8 0, .int .u8 0, .int .u8 0, .int .u8 0, .int .u8 0, .int .u8 0] 57))) := Lib.hid (((Below.refl _ _).alloc (Nat.le_refl _) _).alloc (by simp) _)
  have hsz : (⟨l.toArray⟩ : ByteArray).size = l.length := rfl
  have hix := fun w k x (h : l[k]? = some x) => index_str (P := Try.prog) w Try.underlying9 l k x h
  generalize hS : (⟨l.toArray⟩ : ByteArray) = S at *
  clear hS
  have HIX := Lib.hid hix
  clear hix
  by_cases h40 : l.length = 40
  · rw [h40] at hsz
    obtain ⟨X, hX⟩ : ∃ X, parseA l = X := ⟨_, rfl⟩
    obtain ⟨E, hE⟩ : ∃ E, parseE l = E := ⟨_, rfl⟩
    rw [hX, hE]
    have HX := Lib.hid hX
    have HE := Lib.hid hE
    have HL := Lib.hid h40
    clear hX hE h40
    go_enter Try.func33, Try.ntmps33
    go_wp2_with fail
    generalize ((w.alloc (.cells #[.int .u8 0, .int .u8 0, .int .u8 0, .int .u8 0, .int .u8 0, .int .u8 0, .int .u8 0, .int .u8 0, .int .u8 0, .int .u8 0, .int .u8 0, .int .u8 0, .int .u8 0, .int .u8 0, .int .u8 0, .int .u8 0, .int .u8 0, .int .u8 0, .int .u8 0, .int .u8 0] 57)).alloc (.cells #[.int .u8 0, .int .u8 0, .int .u8 0, .int .u8 0, .int .u8 0, .int .u8 0, .int .u8 0, .int .u8 0, .int .u8 0, .int .u8 0, .int .u8 0, .int .u8 0, .int .u8 0, .int .u8 0, .int .u8 0, .int .u8 0, .int .u8 0, .int .u8 0, .int .u8 0, .int .u8 0] 57)) = W1 at *
    go_loopw [5] (fun i wr => ∃ k : Nat, i = .int .i64 k ∧ k ≤ 20 ∧ ∃ m, m.length = k ∧ Hid (pairsB (l.take (2 * k)) = some m) ∧ Hid (BB 57 wr (w.heap.size + 1) (halfB m)) ∧ Hid (BB 57 wr w.heap.size (List.replicate 20 0)) ∧ Hid (Below w.heap.size w wr)) (fun i _ => 20 - (intOf i).toNat)
    case atStart => exact ⟨0, rfl, by omega, [], rfl, Lib.hid rfl, f3, f1, f2⟩
    case round =>
      clear f1 f2 f3
      obtain ⟨k, rfl, hk, m, hm, HM, j1, q0, j5⟩ := hrel
      by_cases hlt : k < 20
      · obtain ⟨x, hx⟩ : ∃ x, l[2 * k]? = some x := ⟨l[2 * k]'(by have := HL.out; omega), List.getElem?_eq_getElem _⟩
        obtain ⟨y, hy⟩ : ∃ y, l[2 * k + 1]? = some y := ⟨l[2 * k + 1]'(by have := HL.out; omega), List.getElem?_eq_getElem _⟩
        have hi1 := HIX.out wr (2 * k) x hx
        have hi2 := HIX.out wr (2 * k + 1) y hy
        have hk5 : (k : Int) < 20 := by omega
        have hv1 := fun w => ref_value x w
        have hv2 := fun w => ref_value y w
        have hlx := @valB_lt x
        have hly := @valB_lt y
        have HM2 : Hid (∀ (h o : Nat), valB x = some h → valB y = some o → pairsB (l.take (2 * (k + 1))) = some (m ++ [UInt8.ofNat (16 * h + o)])) := Lib.hid fun h o ha hb => by
          have e : l.take (2 * (k + 1)) = l.take (2 * k) ++ [x, y] := by
            rw [show 2 * (k + 1) = 2 * k + 1 + 1 by omega, List.take_add_one, List.take_add_one, hx, hy, List.append_assoc]; rfl
          rw [e]
          exact pairs_snoc _ _ x y h o HM.out ha hb
        have HNo : Hid (valB x = none ∨ valB y = none → X = List.replicate 20 0 ∧ E = 10) := Lib.hid fun h => by
          have hn := pairs_none k l x y hx hy h
          rw [← HX.out, ← HE.out]
          unfold parseA parseE parseB
          rw [if_pos HL.out, hn]
          exact ⟨rfl, rfl⟩
        clear hx hy
        generalize hj0 : 2 * k = j0 at *
        have e0 : 2 * (k : Int) = (j0 : Int) := by omega
        have e3 : IntKind.i64.wrap ((j0 : Int) + 1) = (j0 : Int) + 1 := by rw [IntKind.wrap_i64]; omega
        have e4 : ((j0 + 1 : Nat) : Int) = (j0 : Int) + 1 := by omega
        rw [e4] at hi2
        have hx8 := x.toNat_lt
        have hy8 := y.toNat_lt
        generalize x.toNat = xn at *
        generalize y.toNat = yn at *
        clear e4 hj0
        cases hvx : valB x with
        | none =>
          have HQ := Lib.hid (HNo.out (.inl hvx))
          rw [valI_none hvx] at hv1
          obtain ⟨r, hr⟩ : ∃ r : Int, valI y = r := ⟨_, rfl⟩
          rw [hr] at hv2
          have HV1 := Lib.hid hv1
          have HV2 := Lib.hid hv2
          clear hv1 hv2 hlx hly hvx HNo hr
          go_wp2_with fail
          refine (HV1.out _).mono ?_; rintro e w3 ⟨rfl, rfl⟩
          go_wp2_with fail
          refine (HV2.out _).mono ?_; rintro e w3 ⟨rfl, rfl⟩
          go_wp2_with (refine wpList_store_row (o := ⟨none, _, _, _, _, _⟩) rfl _ (.tmp 2) (.tmp 33) rfl w.heap.size rfl (bytesV (List.replicate 20 0)) rfl _ _ q0.out 20 (by kernel_rfl) (bytes_len (by simp)) (bytes_size (by simp)) (bytesV_one _) ?_)
          have hw2 := BB.setRow q0.out (List.replicate 20 0)
          exact bodyPost_ret (results_row_tmp Try.results33 _ _ w.heap.size _ _ _ _ rfl hw2 Try.underlying57 rfl (by kernel_rfl)) rfl ⟨by rw [HQ.out.1, HQ.out.2]; rfl, j5.out.trans (Only.below (S := (· = w.heap.size)) (Only.setRow _ _ _) j5.out.size fun k hk => by omega)⟩
        | some h =>
          rw [valI_some hvx] at hv1
          have hl1 := hlx hvx
          cases hvy : valB y with
          | none =>
            have HQ := Lib.hid (HNo.out (.inr hvy))
            rw [valI_none hvy] at hv2
            have HV1 := Lib.hid hv1
            have HV2 := Lib.hid hv2
            clear hv1 hv2 hlx hly hvx hvy HNo
            have hge : (0 : Int) ≤ (h : Int) := by omega
            go_wp2_with fail
            refine (HV1.out _).mono ?_; rintro e w3 ⟨rfl, rfl⟩
            go_wp2_with fail
            refine (HV2.out _).mono ?_; rintro e w3 ⟨rfl, rfl⟩
            go_wp2_with (refine wpList_store_row (o := ⟨none, _, _, _, _, _⟩) rfl _ (.tmp 2) (.tmp 33) rfl w.heap.size rfl (bytesV (List.replicate 20 0)) rfl _ _ q0.out 20 (by kernel_rfl) (bytes_len (by simp)) (bytes_size (by simp)) (bytesV_one _) ?_)
            have hw2 := BB.setRow q0.out (List.replicate 20 0)
            exact bodyPost_ret (results_row_tmp Try.results33 _ _ w.heap.size _ _ _ _ rfl hw2 Try.underlying57 rfl (by kernel_rfl)) rfl ⟨by rw [HQ.out.1, HQ.out.2]; rfl, j5.out.trans (Only.below (S := (· = w.heap.size)) (Only.setRow _ _ _) j5.out.size fun k hk => by omega)⟩
          | some o =>
            rw [valI_some hvy] at hv2
            have HV1 := Lib.hid hv1
            have HV2 := Lib.hid hv2
            have hl2 := hly hvy
            have HM3 := Lib.hid (HM2.out h o hvx hvy)
            obtain ⟨z, hz⟩ : ∃ z, UInt8.ofNat (16 * h + o) = z := ⟨_, rfl⟩
            have hzn : (z.toNat : Int) = 16 * (h : Int) + (o : Int) := by rw [← hz, UInt8.toNat_ofNat']; omega
            rw [hz] at HM3
            have e6 : IntKind.u8.wrap (16 * (h : Int) + (o : Int)) = (z.toNat : Int) := by rw [IntKind.wrap_u8, hzn]; omega
            have hfr := j1.out.free k
            obtain ⟨v, hv⟩ : ∃ v, wr.cell? ⟨w.heap.size + 1, k, none⟩ = some v := by
              obtain ⟨v, hv⟩ : ∃ v, (halfB m)[k]? = some v := ⟨(halfB m)[k]'(by rw [halfB, List.length_append, List.length_replicate]; omega), List.getElem?_eq_getElem _⟩
              exact ⟨_, j1.out.cell hv⟩
            clear hv1 hv2 hlx hly hvx hvy HNo HM2 hz
            go_wp2_with fail
            refine (HV1.out _).mono ?_; rintro e w3 ⟨rfl, rfl⟩
            go_wp2_with fail
            refine (HV2.out _).mono ?_; rintro e w3 ⟨rfl, rfl⟩
            have hzz : 16 * (h : Int) + (o : Int) = (z.toNat : Int) := hzn.symm
            clear hzn
            have hz8 := z.toNat_lt
            go_wp2_with fail
            go_roundw
            case rel =>
              refine ⟨k + 1, by go_num, by omega, m ++ [z], by simp [hm], HM3, Lib.hid ?_, Lib.hid ?_, Lib.hid ?_⟩
              · rw [← halfB_set m z (by omega), hm]; exact BB.set_ j1.out k z
              · exact BB.far (S := (· = w.heap.size + 1)) q0.out (Only.set_ wr (w.heap.size + 1) k (.int .u8 (z.toNat : Int))) (by omega)
              · exact Below.setCell (p := ⟨w.heap.size + 1, k, none⟩) j5.out (Nat.le_succ _) (.int .u8 (z.toNat : Int))
            case measure => simp [intOf]; omega
      · have hk20 : k = 20 := by omega
        have hml : m.length = 20 := by omega
        have hq : X = m ∧ E = 0 := by
          have h1 := HM.out
          rw [hk20, List.take_of_length_le (by have := HL.out; omega)] at h1
          rw [← HX.out, ← HE.out]
          unfold parseA parseE parseB
          rw [if_pos HL.out, h1]
          exact ⟨rfl, rfl⟩
        rw [halfB_all m hml] at j1
        have HQ := Lib.hid hq
        have hge : (20 : Int) ≤ (k : Int) := by omega
        have haI : IsAgg Try.prog 57 (bytesV m).length := by rw [bytes_len hml]; exact aggR3
        clear hq hk20
        go_wp2_with (refine wpList_load_agg (o := ⟨some 41, _, _, _, _, _⟩) rfl _ (.tmp 4) rfl _ rfl (bytesV m) j1.out.row haI ?_
                     refine wpList_store_row (o := ⟨none, _, _, _, _, _⟩) rfl _ (.tmp 2) (.tmp 41) rfl w.heap.size rfl (bytesV m) rfl _ _ q0.out 20 (by kernel_rfl) (bytes_len hml) (bytes_size (by simp)) (bytesV_one _) ?_)
        have hw2 := BB.setRow q0.out m
        have hsz2 : (Try.prog.info? 57).map (·.size) = some (bytesV m).toArray.size := by rw [bytes_size hml]; kernel_rfl
        exact bodyPost_ret (results_row_tmp Try.results33 _ _ w.heap.size _ _ _ _ rfl hw2 Try.underlying57 rfl hsz2) rfl ⟨by rw [HQ.out.1, HQ.out.2]; rfl, j5.out.trans (Only.below (S := (· = w.heap.size)) (Only.setRow _ _ _) j5.out.size fun k hk => by omega)⟩
  · have hq : parseA l = List.replicate 20 0 ∧ parseE l = 10 := by
      unfold parseA parseE parseB
      rw [if_neg h40]
      exact ⟨rfl, rfl⟩
    rw [hq.1, hq.2]
    have hne : (l.length : Int) ≠ 40 := by omega
    generalize l.length = n at *
    clear h40 hq
    go_enter Try.func33, Try.ntmps33
    go_wp2_with (refine wpList_store_row (o := ⟨none, _, _, _, _, _⟩) rfl _ (.tmp 2) (.tmp 11) rfl w.heap.size rfl (bytesV (List.replicate 20 0)) rfl _ _ f1.out 20 (by kernel_rfl) (bytes_len (by simp)) (bytes_size (by simp)) (bytesV_one _) ?_)
    have hw2 := BB.setRow f1.out (List.replicate 20 0)
    exact bodyPost_ret (results_row_tmp Try.results33 _ _ w.heap.size _ _ _ _ rfl hw2 Try.underlying57 rfl (by kernel_rfl)) rfl ⟨rfl, f2.out.trans (Only.below (S := (· = w.heap.size)) (Only.setRow _ _ _) f2.out.size fun k hk => by omega)⟩
end Go.Proofs.Ytjdmbegmbffhfaa
