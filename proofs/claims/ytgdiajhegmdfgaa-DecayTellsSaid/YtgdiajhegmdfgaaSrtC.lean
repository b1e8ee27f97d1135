/-
  signpostlaw03.Plain. Conditions: at most half a million ids.
-/
import Derived.Test.YtgdiajhegmdfgaaSrtB
namespace Go.Proofs.Ytgdiajhegmdfgaa
open Go.RowKit Go.Sort Go.Lib

theorem IdRow.at {w : World} {p : Option Addr} {d : Array Id20} (h : IdRow w p d) {ad : Addr} (hp : p = some ad) {k : Nat} (hk : k < d.size) : Row w (ad.add (k * 20)) (bytesV d[k]!.1) := by
  have hr := (h.row ad hp).part (k * 20) 20
  intro j v hv
  have hj : j < 20 := by
    have := (List.getElem?_eq_some_iff.1 hv).1
    rwa [bytes_len d[k]!.2] at this
  refine hr j v ?_
  rw [List.getElem?_take, if_pos hj, List.getElem?_drop, Array.getElem?_toList, idsV_get d k j hk hj]
  exact hv
theorem IdRow.some_of {w : World} {p : Option Addr} {d : Array Id20} (h : IdRow w p d) (hn : 0 < d.size) : ∃ ad, p = some ad := by
  cases p with
  | none => rw [h.none_ rfl] at hn; exact absurd hn (by decide)
  | some ad => exact ⟨ad, rfl⟩
theorem extract_succ (d : Array Id20) (k : Nat) (h : k < d.size) : d.extract 0 k ++ #[d[k]!] = d.extract 0 (k + 1) := by
  rw [getElem!_pos _ k h]
  apply Array.toList_inj.1
  simp [Array.toList_extract]

set_option maxRecDepth 100000 in
set_option maxHeartbeats 2000000 in
theorem law_Plain (p : Option Addr) (d : Array Id20) (cap : Nat) (w : World) (hp : IdRow w p d) (hpb : ∀ a, p = some a → a.block < w.heap.size) (hn : d.size < 500000) :
    Calls Try.prog 13 #[.slice p d.size cap] w fun e w' => ∃ v, e = .returned v ∧ OwnIds 35 w' w.heap.size v d ∧ Below w.heap.size w w' := by
  have HP := Lib.hid hp
  have HPB := Lib.hid hpb
  clear hp hpb
  go_enter Try.func13, Try.ntmps13
  go_wp2_with fail
  go_loopw [3, 8] (fun s3 s8 wr => ∃ k : Nat, s8 = .int .i64 k ∧ k ≤ d.size ∧ Hid (OwnIds 35 wr w.heap.size s3 (d.extract 0 k)) ∧ Hid (Below w.heap.size w wr)) (fun _ s8 _ => d.size - (intOf s8).toNat)
  case atStart => exact ⟨0, rfl, Nat.zero_le _, Lib.hid (by simpa using OwnIds.nil _ _ _), Lib.hid (Below.refl _ _)⟩
  case round =>
    obtain ⟨k, rfl, hk, HO, HB⟩ := hrel
    by_cases hlt : k < d.size
    · obtain ⟨ad, rfl⟩ := HP.out.some_of (by omega)
      obtain ⟨x, hx⟩ : ∃ x, d[k]! = x := ⟨_, rfl⟩
      have hr : Hid (Row wr (ad.add (k * 20)) (bytesV x.1)) := Lib.hid (by rw [← hx]; exact (HP.out.below HB.out HPB.out).at rfl hlt)
      have HX := Lib.hid hx
      clear hx
      have HG : Hid (∀ x : Id20, IsAgg Try.prog 34 (bytesV x.1).length) := Lib.hid (fun x => by rw [bytes_len x.2]; exact aggID)
      have hk1 : (k : Int) < (d.size : Int) := by omega
      have hnew : Hid (Row (wr.alloc (.cells (bytesV x.1).toArray 34)) ⟨wr.heap.size, 0, none⟩ (bytesV x.1)) := Lib.hid (Row.of_block (heap_alloc_new _ _))
      have HB2 : Hid (Below w.heap.size w (wr.alloc (.cells (bytesV x.1).toArray 34))) := Lib.hid (HB.out.alloc HB.out.size _)
      have HO2 := Lib.hid (HO.out.below ((Below.refl wr.heap.size wr).alloc (Nat.le_refl _) (.cells (bytesV x.1).toArray 34)))
      have hrow3 : Hid (IdRow ((wr.alloc (.cells (bytesV x.1).toArray 34)).alloc (.cells (idsV #[x]) 35)) (some ⟨(wr.alloc (.cells (bytesV x.1).toArray 34)).heap.size, 0, none⟩) #[x]) := Lib.hid ⟨(fun h => by cases h), (fun a ha => by
        obtain rfl := Option.some.inj ha
        exact Row.of_block (heap_alloc_new _ _))⟩
      have HB3 : Hid (Below w.heap.size w ((wr.alloc (.cells (bytesV x.1).toArray 34)).alloc (.cells (idsV #[x]) 35))) := Lib.hid (HB2.out.alloc HB2.out.size _)
      go_wp2_with (first
        | ((with_reducible show wpList _ _ _ (⟨some 11, _, _, _, _, _⟩ :: _) _ _); refine wpList_load_agg (o := ⟨some 11, _, _, _, _, _⟩) rfl _ (.tmp 10) rfl _ rfl (bytesV x.1) hr.out (HG.out _) ?_)
        | ((with_reducible show wpList _ _ _ (⟨some 13, _, _, _, _, _⟩ :: _) _ _); refine wpList_load_agg (o := ⟨some 13, _, _, _, _, _⟩) rfl _ (.tmp 5) rfl _ rfl (bytesV x.1) hnew.out (HG.out _) ?_)
        | ((with_reducible show wpList _ _ _ (⟨none, _, _, _, _, _⟩ :: _) _ _); refine wpList_store_new (o := ⟨none, _, _, _, _, _⟩) rfl _ (.tmp 5) (.tmp 11) rfl _ _ rfl (bytesV x.1) rfl 20 (by kernel_rfl) (bytes_len x.2) rfl (bytesV_one _) ?_)
        | ((with_reducible show wpList _ _ _ (⟨some 14, _, _, _, _, _⟩ :: _) _ _); refine wpList_build_one idTyR (o := ⟨some 14, _, _, _, _, _⟩) rfl _ rfl x rfl ?_)
        | ((with_reducible show wpList _ _ _ (⟨some 15, _, _, _, _, _⟩ :: _) _ _)
           refine wpList_append_ids idTyR (o := ⟨some 15, _, _, _, _, _⟩) rfl (.tmp 12) (.tmp 14) rfl w.heap.size _ (d.extract 0 k) #[x] (by rfl) (HO2.out.below ((Below.refl _ _).alloc (Nat.le_refl _) _)) (some ⟨(wr.alloc (.cells (bytesV x.1).toArray 34)).heap.size, 0, none⟩) 1 (by rfl) hrow3.out (by simp; omega) (Nat.le_trans HB2.out.size (by simp)) ?_
           intro v' w' hown hbel))
      go_roundw
      case rel =>
        refine ⟨k + 1, by go_num, by omega, Lib.hid ?_, Lib.hid (HB3.out.trans hbel)⟩
        rw [← extract_succ d k hlt, HX.out]
        exact hown
      case measure => simp [intOf]; omega
    · have hk2 : k = d.size := by omega
      subst hk2
      rw [show d.extract 0 d.size = d by simp] at HO
      go_wp2_with fail
      refine bodyPost_ret (results_tmp rfl _ _ _) rfl ?_
      exact ⟨_, rfl, HO.out, HB.out⟩
end Go.Proofs.Ytgdiajhegmdfgaa
