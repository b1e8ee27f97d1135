/-
  metric.Least. Conditions: the ids are twenty bytes; fewer than half a million of them.
-/
import Derived.Test.YtgdiajhegmdfgaaSrtC
namespace Go.Proofs.Ytgdiajhegmdfgaa
open Go.RowKit Go.Sort Go.Lib

theorem toArray_at' {l : List Id20} {n : Nat} {y : Id20} (h : l[n]? = some y) : n < l.toArray.size ∧ l.toArray[n]! = y := by
  obtain ⟨h1, h2⟩ := List.getElem?_eq_some_iff.1 h
  exact ⟨by simpa using h1, by rw [getElem!_pos _ n (by simpa using h1)]; simpa using h2⟩
theorem take_push (l : List Id20) (k : Nat) (x : Id20) (h : l[k]? = some x) : (l.take k).toArray ++ #[x] = (l.take (k + 1)).toArray := by
  have e : l.take (k + 1) = l.take k ++ [x] := by rw [List.take_add_one, h]; rfl
  rw [e]
  simp
theorem nearD_length (t : List UInt8) (d : Array Id20) : (nearD t d).length ≤ d.size := by
  unfold nearD compactUpTo
  rw [List.length_map]
  exact Nat.le_trans (List.length_filter_le _ _) (by simp)

set_option maxRecDepth 100000 in
set_option maxHeartbeats 4000000 in
theorem metric_Least (t : List UInt8) (ht : t.length = 20) (p : Option Addr) (d : Array Id20) (cap : Nat) (n : Int) (w : World) (hp : IdRow w p d) (hpb : ∀ a, p = some a → a.block < w.heap.size) (hd : d.size < 499999) :
    Calls Try.prog 23 #[.agg (bytesV t).toArray, .slice p d.size cap, .int .i64 n] w fun e w' => ∃ v, e = .returned v ∧ OwnIds 34 w' w.heap.size v ((nearD t d).take n.toNat).toArray ∧ Below w.heap.size w w' := by
  have st := bytes_size ht
  have haT : Hid (IsAgg Try.prog 34 (bytesV t).length) := Lib.hid (by rw [bytes_len ht]; exact aggID)
  have HG : Hid (∀ x : Id20, IsAgg Try.prog 34 (bytesV x.1).length) := Lib.hid (fun x => by rw [bytes_len x.2]; exact aggID)
  have i1 : Hid (Row (w.alloc (.cells (bytesV t).toArray 34)) ⟨w.heap.size, 0, none⟩ (bytesV t)) := Lib.hid (Row.of_block (heap_alloc_new _ _))
  have hb1 : Below w.heap.size w (w.alloc (.cells (bytesV t).toArray 34)) := (Below.refl _ _).alloc (Nat.le_refl _) _
  have hS := metric_Sort t ht p d cap (w.alloc (.cells (bytesV t).toArray 34)) (hp.below hb1 hpb) (fun a ha => Nat.lt_of_lt_of_le (hpb a ha) hb1.size) (by omega)
  have hdl := nearD_length t d
  obtain ⟨l, hl⟩ : ∃ l, nearD t d = l := ⟨_, rfl⟩
  rw [hl] at hS hdl ⊢
  have HS := Lib.hid hS
  have HB1 := Lib.hid hb1
  clear hp hpb hS hb1 hl
  go_enter Try.func23, Try.ntmps23
  go_wp2_with ((with_reducible show wpList _ _ _ (⟨some 9, _, _, _, _, _⟩ :: _) _ _); refine wpList_load_agg (o := ⟨some 9, _, _, _, _, _⟩) rfl _ (.tmp 3) rfl _ rfl (bytesV t) i1.out haT.out ?_)
  refine HS.out.mono ?_
  rintro e w1 ⟨rfl, hb2, hi2⟩
  have HI := Lib.hid hi2
  have HB : Hid (Below w.heap.size w w1) := Lib.hid (HB1.out.trans (hb2.mono HB1.out.size))
  have hgb : Hid ((w.alloc (.cells (bytesV t).toArray 34)).heap.size + 1 < w1.heap.size) := Lib.hid hi2.lt
  have hge : Hid (w.heap.size ≤ (w.alloc (.cells (bytesV t).toArray 34)).heap.size + 1) := Lib.hid (by simp; omega)
  clear hb2 hi2 HS HB1 i1
  obtain ⟨g, hg⟩ : ∃ g, (w.alloc (.cells (bytesV t).toArray 34)).heap.size + 1 = g := ⟨_, rfl⟩
  rw [hg] at HI hgb hge ⊢
  clear hg
  obtain ⟨M, hM⟩ : ∃ M : Int, min n (l.length : Int) = M := ⟨_, rfl⟩
  have hM2 : M ≤ (l.length : Int) := by omega
  have hMn : M.toNat = min n.toNat l.length := by omega
  have HMN := Lib.hid hMn
  have hls := Lib.hid hdl
  go_wp2_with fail
  clear hM hMn hdl
  go_loopw [6, 16] (fun s6 s16 wr => ∃ k : Nat, s16 = .int .i64 k ∧ k ≤ M.toNat ∧ Hid (OwnIds 34 wr w1.heap.size s6 (l.take k).toArray) ∧ Hid (Below w1.heap.size w1 wr)) (fun _ s16 _ => M.toNat - (intOf s16).toNat)
  case atStart => exact ⟨0, rfl, Nat.zero_le _, Lib.hid (OwnIds.nil _ _ _), Lib.hid (Below.refl _ _)⟩
  case round =>
    obtain ⟨k, rfl, hk, HO, HBW⟩ := hrel
    by_cases hlt : (k : Int) < M
    · have hkl : k < l.length := by omega
      obtain ⟨x, hx⟩ : ∃ x, l[k]? = some x := ⟨l[k], List.getElem?_eq_getElem hkl⟩
      have hxb : k < (l ++ List.replicate (d.size - l.length) noId).toArray.size ∧ (l ++ List.replicate (d.size - l.length) noId).toArray[k]! = x := toArray_at' (by rw [List.getElem?_append_left hkl]; exact hx)
      have HIW : Hid (IB wr g (l ++ List.replicate (d.size - l.length) noId).toArray) := Lib.hid ((HBW.out.block g HI.out.lt).trans HI.out)
      have hr : Hid (Row wr ⟨g, k * 20, none⟩ (bytesV x.1)) := Lib.hid (HIW.out.rowAt hxb.1 rfl hxb.2)
      have HX := Lib.hid hx
      have hk1 : (k : Int) < (l.length : Int) := by omega
      have hk2 : (k : Int) < 500000 := by have := hls.out; omega
      have hrow3 : Hid (IdRow (wr.alloc (.cells (idsV #[x]) 34)) (some ⟨wr.heap.size, 0, none⟩) #[x]) := Lib.hid ⟨(fun h => by cases h), (fun a ha => by
        obtain rfl := Option.some.inj ha
        exact Row.of_block (heap_alloc_new _ _))⟩
      have HO2 := Lib.hid (HO.out.below ((Below.refl wr.heap.size wr).alloc (Nat.le_refl _) (.cells (idsV #[x]) 34)))
      have HB3 : Hid (Below w1.heap.size w1 (wr.alloc (.cells (idsV #[x]) 34))) := Lib.hid (HBW.out.alloc HBW.out.size _)
      clear hx hxb HIW
      go_wp2_with (first
        | ((with_reducible show wpList _ _ _ (⟨some 23, _, _, _, _, _⟩ :: _) _ _); refine wpList_load_agg (o := ⟨some 23, _, _, _, _, _⟩) rfl _ (.tmp 22) rfl _ rfl (bytesV x.1) hr.out (HG.out _) ?_)
        | ((with_reducible show wpList _ _ _ (⟨some 24, _, _, _, _, _⟩ :: _) _ _); refine wpList_build_one idTyA (o := ⟨some 24, _, _, _, _, _⟩) rfl _ rfl x rfl ?_)
        | ((with_reducible show wpList _ _ _ (⟨some 25, _, _, _, _, _⟩ :: _) _ _)
           refine wpList_append_ids idTyA (o := ⟨some 25, _, _, _, _, _⟩) rfl (.tmp 19) (.tmp 24) rfl w1.heap.size _ (l.take k).toArray #[x] (by rfl) HO2.out (some ⟨wr.heap.size, 0, none⟩) 1 (by rfl) hrow3.out (by have := hls.out; simp; omega) HB3.out.size ?_
           intro v' w' hown hbel))
      go_roundw
      case rel =>
        refine ⟨k + 1, by go_num, by omega, Lib.hid ?_, Lib.hid (HB3.out.trans hbel)⟩
        rw [← take_push l k x HX.out]
        exact hown
      case measure => simp [intOf]; omega
    · have hke : l.take k = l.take n.toNat := by
        have h1 := HMN.out
        have h2 : k = M.toNat := by omega
        rw [h2, h1, ← List.take_take, List.take_length]
      rw [hke] at HO
      clear hke
      go_wp2_with fail
      refine bodyPost_ret (results_tmp rfl _ _ _) rfl ?_
      exact ⟨_, rfl, HO.out.mono HB.out.size, HB.out.trans (HBW.out.mono HB.out.size)⟩
end Go.Proofs.Ytgdiajhegmdfgaa
