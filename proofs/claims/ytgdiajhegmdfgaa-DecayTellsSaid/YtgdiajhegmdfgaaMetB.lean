/-
  Blocks of ids; slices.Compact over ids. Conditions: as each theorem says.
-/
import Derived.Test.YtgdiajhegmdfgaaMetA
import Derived.Lib.SlicesCompact
import Derived.Deep.LoopGhost
import Derived.Deep.Draws
namespace Go.Proofs.Ytgdiajhegmdfgaa
open Go.RowKit Go.Sort Go.Lib

/-- An id's cells. -/
def encId (x : Id20) : List Value := bytesV x.1
theorem encId_length (x : Id20) : (encId x).length = 20 := bytes_len x.2
theorem encId_one (x : Id20) : ∀ v ∈ encId x, v.oneCell' = true := bytesV_one _
/-- A row of ids, its cells. -/
def idsV (d : Array Id20) : Array Value := flatK encId 20 d
theorem idsV_size (d : Array Id20) : (idsV d).size = d.size * 20 := size_flatK _ _ _
theorem idsV_get (d : Array Id20) (i j : Nat) (hi : i < d.size) (hj : j < 20) : (idsV d)[i * 20 + j]? = (encId d[i]!)[j]? := by
  have h := get_flatK encId 20 d (i * 20 + j) (by omega)
  have h1 : (i * 20 + j) / 20 = i := by omega
  have h2 : (i * 20 + j) % 20 = j := by omega
  rw [h1, h2] at h
  have hs := idsV_size d
  have hl := encId_length d[i]!
  unfold idsV at hs ⊢
  rw [getElem!_pos _ _ (by rw [size_flatK]; omega), getElem!_pos _ _ (by rw [hl]; omega)] at h
  rw [Array.getElem?_eq_getElem (by rw [size_flatK]; omega), List.getElem?_eq_getElem (by rw [hl]; omega), h]
theorem idsV_ext {a : Array Value} {d : Array Id20} (hs : a.size = d.size * 20) (h : ∀ i j, i < d.size → j < 20 → a[i * 20 + j]? = (encId d[i]!)[j]?) : a = idsV d := by
  apply Array.ext_getElem?
  intro t
  by_cases ht : t < d.size * 20
  · have e : t = t / 20 * 20 + t % 20 := by omega
    rw [e, h (t / 20) (t % 20) (by omega) (by omega), idsV_get d _ _ (by omega) (by omega)]
  · rw [Array.getElem?_eq_none (by omega), Array.getElem?_eq_none (by rw [idsV_size]; omega)]
theorem idsV_set (d : Array Id20) (i : Nat) (x : Id20) (hi : i < d.size) : ((idsV d).toList.take (i * 20) ++ bytesV x.1 ++ (idsV d).toList.drop (i * 20 + 20)).toArray = idsV (d.setIfInBounds i x) := by
  have hl : (bytesV x.1).length = 20 := bytes_len x.2
  have hs : (idsV d).toList.length = d.size * 20 := by rw [Array.length_toList, idsV_size]
  have ht : ((idsV d).toList.take (i * 20)).length = i * 20 := by rw [List.length_take, hs]; omega
  apply idsV_ext
  · simp [hl, idsV_size]
    omega
  · intro a j ha hj
    rw [Array.size_setIfInBounds] at ha
    rw [List.getElem?_toArray]
    have hg := idsV_get d a j ha hj
    rw [← Array.getElem?_toList] at hg
    by_cases e : a = i
    · subst e
      rw [List.append_assoc, List.getElem?_append_right (by omega), ht, List.getElem?_append_left (by omega), getElem!_set_same d a x hi, show a * 20 + j - a * 20 = j by omega]
      rfl
    · rw [getElem!_set_other d i a x e, ← hg]
      by_cases h : a < i
      · rw [List.append_assoc, List.getElem?_append_left (by omega), List.getElem?_take, if_pos (by omega)]
      · rw [List.getElem?_append_right (by rw [List.length_append]; omega), List.length_append, ht, hl, List.getElem?_drop]
        congr 1
        omega

/-- A block that holds ids. -/
def IB (w : World) (g : Nat) (d : Array Id20) : Prop := w.heap[g]? = some (.cells (idsV d) 34 (0, 0))
section
variable {w w' : World} {g : Nat} {d : Array Id20}
theorem IB.lt (h : IB w g d) : g < w.heap.size := by
  have h1 : w.heap[g]? = some _ := h
  rw [Array.getElem?_eq_some_iff] at h1
  exact h1.1
theorem IB.cell (h : IB w g d) {i j : Nat} (hi : i < d.size) (hj : j < 20) : w.cell? ⟨g, i * 20 + j, none⟩ = (encId d[i]!)[j]? := by
  rw [cell_of_row w g _ _ _ _ h, idsV_get d i j hi hj]
theorem IB.row (h : IB w g d) {i : Nat} (hi : i < d.size) : Row w ⟨g, i * 20, none⟩ (bytesV d[i]!.1) := by
  intro j v hv
  have hj : j < 20 := by
    have := (List.getElem?_eq_some_iff.1 hv).1
    rwa [bytes_len d[i]!.2] at this
  rw [add_mk, h.cell hi hj]
  exact hv
theorem IB.rowAt (h : IB w g d) {i off : Nat} {x : Id20} (hi : i < d.size) (ho : off = i * 20) (hx : d[i]! = x) : Row w ⟨g, off, none⟩ (bytesV x.1) := by
  rw [ho, ← hx]; exact h.row hi
theorem IB.far {S : Nat → Prop} (h : IB w g d) (ho : Only S w w') (hb : ¬ S g) : IB w' g d := (ho.block g h.lt hb).trans h
theorem IB.below (h : IB w g d) (hb : Below w.heap.size w w') : IB w' g d := (hb.block g h.lt).trans h
theorem IB.alloc (h : IB w g d) (o : Obj) : IB (w.alloc o) g d := (heap_alloc_old w o h.lt).trans h
theorem IB.drewN (h : IB w g d) (n : Nat) : IB (w.drewN n) g d := h
theorem IB.setRow (h : IB w g d) (d' : Array Id20) : IB (w.setRow g (idsV d')) g d' := setRow_heap _ _ _ _ _ _ h
theorem IB.holds (h : IB w g d) : HoldsK encId 20 w g 0 d := by
  intro j hj
  rw [size_flatK] at hj
  refine ⟨?_, by rw [Nat.zero_add]; exact frozen_of_row w g j _ _ h⟩
  rw [Nat.zero_add, cell_of_row w g j _ _ _ h]
  unfold idsV
  rw [Array.getElem?_eq_getElem (by rw [size_flatK]; omega), getElem!_pos _ _ (by rw [size_flatK]; omega)]
  rfl
end

theorem idsV_clear (dk : Array Id20) (kk n : Nat) (zr : Id20) (hzr : zr.1 = List.replicate 20 0) (hn : kk + n = dk.size) :
    ((idsV dk).toList.take (kk * 20) ++ bytesV (List.replicate (n * 20) 0) ++ (idsV dk).toList.drop (kk * 20 + n * 20)).toArray = idsV (lay dk kk (List.replicate n zr)) := by
  have hs : (idsV dk).toList.length = dk.size * 20 := by rw [Array.length_toList, idsV_size]
  have ht : ((idsV dk).toList.take (kk * 20)).length = kk * 20 := by rw [List.length_take, hs]; omega
  have hb : (bytesV (List.replicate (n * 20) 0)).length = n * 20 := by rw [bytesV_length, List.length_replicate]
  have hlg := lay_get? (List.replicate n zr) dk kk
  have hls : (lay dk kk (List.replicate n zr)).size = dk.size := by
    have h1 := hlg dk.size (by simp; omega)
    rw [if_neg (by simp; omega), Array.getElem?_eq_none (Nat.le_refl _), Array.getElem?_eq_none_iff] at h1
    rcases Nat.lt_or_ge (lay dk kk (List.replicate n zr)).size dk.size with h | h
    · have h2 := hlg (lay dk kk (List.replicate n zr)).size (by simp; omega)
      rw [Array.getElem?_eq_none (Nat.le_refl _)] at h2
      split at h2
      · rename_i h3
        simp at h3
        rw [List.getElem?_replicate, if_pos (by omega)] at h2
        cases h2
      · rw [Array.getElem?_eq_getElem h] at h2
        cases h2
    · omega
  apply idsV_ext
  · simp [hb, hls, idsV_size]
    omega
  · intro i j hi hj
    rw [hls] at hi
    have e := hlg i (by simp; omega)
    rw [List.length_replicate] at e
    rw [List.getElem?_toArray]
    by_cases h : i < kk
    · rw [if_neg (by omega), Array.getElem?_eq_getElem hi, Array.getElem?_eq_some_iff] at e
      obtain ⟨e1, e2⟩ := e
      have hg := idsV_get dk i j hi hj
      rw [← Array.getElem?_toList] at hg
      rw [List.append_assoc, List.getElem?_append_left (by omega), List.getElem?_take, if_pos (by omega), hg, getElem!_pos _ i hi, getElem!_pos _ i e1, e2]
    · rw [if_pos (by omega), List.getElem?_replicate, if_pos (by omega), Array.getElem?_eq_some_iff] at e
      obtain ⟨e1, e2⟩ := e
      rw [List.append_assoc, List.getElem?_append_right (by omega), List.getElem?_append_left (by omega), getElem!_pos _ i e1, e2]
      unfold encId
      rw [hzr]
      simp only [bytesV, List.map_replicate]
      rw [List.getElem?_replicate, List.getElem?_replicate, if_pos (by omega), if_pos hj]
theorem run_clear_ids (w : World) (g : Nat) (dk : Array Id20) (kk n c : Nat) (zr : Id20) (hzr : zr.1 = List.replicate 20 0) (h : IB w g dk) (hn : kk + n = dk.size) (h0 : 0 < n) (ty : TypeId) :
    (Builtin.clear_ #[28] ty #[.slice (some ⟨g, kk * 20, none⟩) n c]).run Try.prog w = .ok (.tuple #[]) (w.setRow g (idsV (lay dk kk (List.replicate n zr)))) := by
  have hb : (bytesV (List.replicate (n * 20) 0)).length = n * 20 := by rw [bytesV_length, List.length_replicate]
  have hzc : (Builtin.zeroCells (bytesV (List.replicate 20 0)).toArray n).toList = bytesV (List.replicate (n * 20) 0) := by
    apply List.ext_getElem
    · simp [Builtin.zeroCells, bytesV_length]
    · intro i h1 h2
      simp only [Builtin.zeroCells, bytesV, List.map_replicate, List.getElem_replicate, List.size_toArray, List.length_replicate, Array.toList_map, List.getElem_map, Array.toList_range, List.getElem_range]
      rw [getElem!_pos _ _ (by simp; omega)]
      simp only [List.getElem_toArray, List.getElem_replicate]
  have hst := run_storeCells_at Try.prog g (kk * 20) _ (bytesV (List.replicate (n * 20) 0)) 0 (idsV dk) w h (by rw [hb, idsV_size]; omega) (bytesV_one _)
  rw [hb, Nat.add_zero, idsV_clear dk kk n zr hzr hn] at hst
  obtain ⟨m, rfl⟩ : ∃ m, n = m + 1 := ⟨n - 1, by omega⟩
  have hz := Try.zeroValue34
  rw [zero20] at hz
  simp [Builtin.clear_, run_underlying Try.underlying28, hz, Value.cells, hzc, hst, -List.reduceReplicate]

/-- The worlds of the walk. -/
structure CompW (w0 : World) (g : Nat) (d : Array Id20) (w : World) : Prop where
  ib : IB w g d
  only : Only (· = g) w0 w
theorem CompW.drew {w0 w : World} {g : Nat} {d : Array Id20} (h : CompW w0 g d w) : CompW w0 g d w.drew := ⟨h.ib, h.only.drewN 1⟩

set_option maxHeartbeats 4000000 in
set_option maxRecDepth 1000000 in
theorem slices_Compact (g cap : Nat) (d : Array Id20) (w : World) (hH : IB w g d) (hsz : d.size ≤ 9223372036854775807) (hcap : d.size ≤ cap) (zr : Id20) (hzr : zr.1 = List.replicate 20 0) :
    Calls Try.prog 55 #[.slice (some ⟨g, 0, none⟩) d.size cap] w fun e w' => e = .returned (.slice (some ⟨g, 0, none⟩) (compactUpTo d d.size).length cap) ∧ Only (· = g) w w' ∧ IB w' g (compactUpTo d d.size ++ List.replicate (d.size - (compactUpTo d d.size).length) zr).toArray := by
  have same : ∀ wr, IB wr g d → (∀ j, j < d.size → keeps d j = true) → (compactUpTo d d.size).length = d.size ∧ IB wr g (compactUpTo d d.size ++ List.replicate (d.size - (compactUpTo d d.size).length) zr).toArray := by
    intro wr h hall
    have e : compactUpTo d d.size = d.toList := by rw [compactUpTo_all d _ hall, range_map_get]
    rw [e]
    refine ⟨by simp, ?_⟩
    simpa using h
  have HS := Lib.hid same
  have HI := Lib.hid hH
  clear same hH
  by_cases h2 : d.size < 2
  · go_enter Try.func55, Try.ntmps55
    go_wp2_with fail
    go_ret
    obtain ⟨e1, e2⟩ := HS.out w HI.out (fun j hj => keeps_lt_one d j (by omega))
    exact ⟨by rw [e1]; rfl, Only.refl _ _, e2⟩
  · go_enter Try.func55, Try.ntmps55
    go_wp2_with fail
    go_loopg [3] d.size (fun gg s3 wr => ∃ k : Nat, 1 ≤ k ∧ k ≤ d.size ∧ d.size - k ≤ gg ∧ s3 = .int .i64 k ∧ Hid (IB wr g d) ∧ Hid (Only (· = g) w wr) ∧ ∀ j, j < k → keeps d j = true)
    case atStart => exact ⟨1, Nat.le_refl _, by omega, by omega, rfl, HI, Lib.hid (Only.refl _ _), keeps_lt_one d⟩
    case round =>
      obtain ⟨k, hk1, hk, hg, rfl, HB, HO, hall⟩ := hrel
      by_cases hlt : k < d.size
      · have A : Hid (∀ j, j < k → keeps d j = true) := hall
        clear hall
        have HG : Hid (∀ x : Id20, IsAgg Try.prog 34 (bytesV x.1).length) := Lib.hid (fun x => by rw [bytes_len x.2]; exact aggID)
        obtain ⟨x, hx⟩ : ∃ x, d[k]! = x := ⟨_, rfl⟩
        obtain ⟨m, hm⟩ : ∃ m, k - 1 = m := ⟨_, rfl⟩
        obtain ⟨y, hy⟩ : ∃ y, d[m]! = y := ⟨_, rfl⟩
        have hw1 : IntKind.i64.wrap ((k : Int) - 1) = (m : Int) := by rw [IntKind.wrap_i64]; omega
        have hm1 : (m : Int) < (d.size : Int) := by omega
        have hm2 : m < d.size := by omega
        have HM := Lib.hid hm
        clear hm
        have HX := Lib.hid hx
        have HY := Lib.hid hy
        have hq : ∀ w, (binOp .eql 34 (.agg (bytesV x.1).toArray) (.agg (bytesV y.1).toArray)).run Try.prog w = .ok (.bool (decide (x = y))) w := fun w => by
          have h := eql_ID w x.1 y.1 x.2 y.2
          rw [show decide (x.1 = y.1) = decide (x = y) from decide_eq_decide.2 Subtype.ext_iff.symm] at h
          exact h
        clear hx hy
        by_cases hdup : x = y
        · subst hdup
          rw [decide_eq_true rfl] at hq
          go_wp2_with fail
          refine wp_region_QL (CompW w g d) (by kernel_rfl) (by kernel_rfl) (CompW.drew ⟨HB.out, HO.out⟩) ?_
          repeat (first
            | (refine QL.load (by rfl) _ _ rfl _ rfl (bytesV x.1) (fun w h => h.ib.rowAt hlt rfl HX.out) (HG.out _) ?_)
            | (refine QL.load (by rfl) _ _ rfl _ rfl (bytesV x.1) (fun w h => h.ib.rowAt hm2 rfl HY.out) (HG.out _) ?_)
            | (refine QL.step (fun K hK => ?_); go_simp
               first
                 | (refine hK _ ?_; clear hK K)
                 | (apply Exists.intro
                    refine ⟨fun w hw => ?_, hK _ ?_⟩
                    first
                      | with_reducible rfl
                    clear hK K)))
          refine QL.nil ?_
          intro w1 hC
          have HC := Lib.hid hC
          clear hC HB HO
          go_wp2_with fail
          go_loopg [3, 5] d.size (fun gg s3 s5 wr => ∃ (kk k2 : Nat) (dk : Array Id20), s3 = .int .i64 kk ∧ s5 = .int .i64 k2 ∧ 1 ≤ k2 ∧ k + k2 ≤ d.size ∧ d.size - (k + k2) ≤ gg ∧ Hid (IB wr g dk) ∧ Hid (Only (· = g) w wr) ∧ Hid (CompInv d (k + k2) kk dk))
          case atStart => exact ⟨k, 1, d, rfl, rfl, Nat.le_refl _, by omega, by omega, Lib.hid HC.out.ib, Lib.hid HC.out.only, Lib.hid (CompInv.start A.out (keeps_neg (by omega) (by rw [HM.out, HX.out, HY.out])))⟩
          case round =>
            clear HC
            obtain ⟨kk, k2, dk, rfl, rfl, h1, hle, hg2, HB, HO, HI2⟩ := hrel
            have hkk := HI2.out.lt
            have hds := HI2.out.size
            by_cases hlt2 : k + k2 < d.size
            · obtain ⟨u, hu⟩ : ∃ u, dk[k + k2]! = u := ⟨_, rfl⟩
              obtain ⟨n, hn⟩ : ∃ n, k2 - 1 = n := ⟨_, rfl⟩
              obtain ⟨v, hv⟩ : ∃ v, dk[k + n]! = v := ⟨_, rfl⟩
              have HU := Lib.hid hu
              have HV := Lib.hid hv
              have HDU : Hid (d[k + k2]! = u) := Lib.hid (by rw [← HI2.out.high (k + k2) (by omega)]; exact hu)
              have HDV : Hid (d[k + k2 - 1]! = v) := Lib.hid (by rw [← HI2.out.high (k + k2 - 1) (by omega), show k + k2 - 1 = k + n by omega]; exact hv)
              have hw2 : IntKind.i64.wrap ((k2 : Int) - 1) = (n : Int) := by rw [IntKind.wrap_i64]; omega
              have hk2 : (k2 : Int) < ((d.size - k : Nat) : Int) := by omega
              have hn1 : (n : Int) < ((d.size - k : Nat) : Int) := by omega
              have hkd : (kk : Int) < (d.size : Int) := by omega
              have hq2 : ∀ w, (binOp .neq 34 (.agg (bytesV u.1).toArray) (.agg (bytesV v.1).toArray)).run Try.prog w = .ok (.bool (!decide (u = v))) w := fun w => by
                have h := neq_ID w u.1 v.1 u.2 v.2
                rw [show decide (u.1 = v.1) = decide (u = v) from decide_eq_decide.2 Subtype.ext_iff.symm] at h
                exact h
              have hk2a : k + k2 < dk.size := by omega
              have hk2b : k + n < dk.size := by omega
              have HN := Lib.hid hn
              clear hu hv hn
              by_cases huv : u = v
              · subst huv
                rw [decide_eq_true rfl] at hq2
                go_wp2_with fail
                refine wp_region_QL (CompW w g dk) (by kernel_rfl) (by kernel_rfl) (CompW.drew ⟨HB.out, HO.out⟩) ?_
                repeat (first
                  | (refine QL.load (by rfl) _ _ rfl _ rfl (bytesV u.1) (fun w h => h.ib.rowAt hk2a (by omega) HU.out) (HG.out _) ?_)
                  | (refine QL.load (by rfl) _ _ rfl _ rfl (bytesV u.1) (fun w h => h.ib.rowAt hk2b (by omega) HV.out) (HG.out _) ?_)
                  | (refine QL.step (fun K hK => ?_); go_simp
                     first
                       | (refine hK _ ?_; clear hK K)
                       | (apply Exists.intro
                          refine ⟨fun w hw => ?_, hK _ ?_⟩
                          first
                            | with_reducible rfl
                          clear hK K)))
                refine QL.nil ?_
                intro w1 hC
                have HC := Lib.hid hC
                clear hC HB HO
                go_wp2_with fail
                go_roundg (d.size - (k + (k2 + 1)))
                case measure => omega
                case rel => exact ⟨kk, k2 + 1, dk, rfl, by go_num, by omega, by omega, Nat.le_refl _, Lib.hid HC.out.ib, Lib.hid HC.out.only, Lib.hid (HI2.out.skip (keeps_neg (by omega) (by rw [HDU.out, HDV.out])))⟩
              · rw [decide_eq_false huv] at hq2
                have HUV := Lib.hid huv
                clear huv
                go_wp2_with fail
                refine wp_region_QL (CompW w g dk) (by kernel_rfl) (by kernel_rfl) (CompW.drew ⟨HB.out, HO.out⟩) ?_
                repeat (first
                  | (refine QL.load (by rfl) _ _ rfl _ rfl (bytesV u.1) (fun w h => h.ib.rowAt hk2a (by omega) HU.out) (HG.out _) ?_)
                  | (refine QL.load (by rfl) _ _ rfl _ rfl (bytesV v.1) (fun w h => h.ib.rowAt hk2b (by omega) HV.out) (HG.out _) ?_)
                  | (refine QL.step (fun K hK => ?_); go_simp
                     first
                       | (refine hK _ ?_; clear hK K)
                       | (apply Exists.intro
                          refine ⟨fun w hw => ?_, hK _ ?_⟩
                          first
                            | with_reducible rfl
                          clear hK K)))
                refine QL.nil ?_
                intro w1 hC
                have HC := Lib.hid hC
                clear hC HB HO
                go_wp2_with (first
                  | refine wpList_load_agg (o := ⟨some 50, _, _, _, _, _⟩) rfl _ (.tmp 49) rfl _ rfl (bytesV u.1) (HC.out.ib.rowAt hk2a (by omega) HU.out) (HG.out _) ?_
                  | refine wpList_store_part (o := ⟨none, _, _, _, _, _⟩) rfl _ (.tmp 51) (.tmp 50) rfl g _ rfl (bytesV u.1) rfl _ _ HC.out.ib 20 (by kernel_rfl) (bytes_len u.2) (by rw [idsV_size]; omega) (bytesV_one _) ?_)
                rw [← List.append_assoc, idsV_set dk kk u (by omega)]
                go_roundg (d.size - (k + (k2 + 1)))
                case measure => omega
                case rel => exact ⟨kk + 1, k2 + 1, dk.setIfInBounds kk u, by go_num, by go_num, by omega, by omega, Nat.le_refl _, Lib.hid (HC.out.ib.setRow _), Lib.hid (HC.out.only.trans (Only.setRow _ _ _)), Lib.hid (by have := HI2.out.keep hlt2 (keeps_pos (by rw [HDU.out, HDV.out]; exact HUV.out)); rwa [HDU.out] at this)⟩
            · have hend : k + k2 = d.size := by omega
              have hcl := run_clear_ids wr g dk kk (d.size - kk) (cap - kk) zr hzr HB.out (by omega) (by omega)
              go_wp2_with fail
              go_ret
              have hI := HI2.out
              rw [hend] at hI
              refine ⟨by rw [hI.len]; rfl, HO.out.trans (Only.setRow _ _ _), ?_⟩
              rw [hI.len, ← hI.done zr]
              exact HB.out.setRow _
        · rw [decide_eq_false hdup] at hq
          have HD := Lib.hid hdup
          clear hdup
          go_wp2_with fail
          refine wp_region_QL (CompW w g d) (by kernel_rfl) (by kernel_rfl) (CompW.drew ⟨HB.out, HO.out⟩) ?_
          repeat (first
            | (refine QL.load (by rfl) _ _ rfl _ rfl (bytesV x.1) (fun w h => h.ib.rowAt hlt rfl HX.out) (HG.out _) ?_)
            | (refine QL.load (by rfl) _ _ rfl _ rfl (bytesV y.1) (fun w h => h.ib.rowAt hm2 rfl HY.out) (HG.out _) ?_)
            | (refine QL.step (fun K hK => ?_); go_simp
               first
                 | (refine hK _ ?_; clear hK K)
                 | (apply Exists.intro
                    refine ⟨fun w hw => ?_, hK _ ?_⟩
                    first
                      | with_reducible rfl
                    clear hK K)))
          refine QL.nil ?_
          intro w1 hC
          have HC := Lib.hid hC
          clear hC HB HO
          go_wp2_with fail
          go_roundg (d.size - (k + 1))
          case measure => omega
          case rel =>
            refine ⟨k + 1, by omega, by omega, Nat.le_refl _, by go_num, Lib.hid HC.out.ib, Lib.hid HC.out.only, fun j hj => ?_⟩
            by_cases e : j = k
            · subst e
              exact keeps_pos (by rw [HM.out, HX.out, HY.out]; exact HD.out)
            · exact A.out j (by omega)
      · have hkd : k = d.size := by omega
        subst hkd
        have A := Lib.hid hall
        clear hall
        go_wp2_with fail
        go_ret
        obtain ⟨e1, e2⟩ := HS.out wr HB.out A.out
        exact ⟨by rw [e1]; rfl, HO.out, e2⟩
end Go.Proofs.Ytgdiajhegmdfgaa
