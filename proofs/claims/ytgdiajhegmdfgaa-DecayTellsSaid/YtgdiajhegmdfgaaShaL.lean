/-
  The chapter's examples of sha, walked. Conditions: none.
-/
import Derived.Test.YtgdiajhegmdfgaaShaK
import Derived.Lib.SmallJoins
namespace Go.Proofs.Ytgdiajhegmdfgaa
open Go.RowKit

theorem sumA_is : ∃ L : List Value, (bytesV (shaB [97, 98, 99])).toArray = L.toArray ∧ L.length = 20 ∧ (∀ v ∈ L, v.oneCell' = true) ∧ L[0]? = some (.int .u8 169) ∧ L[1]? = some (.int .u8 153) ∧ L[2]? = some (.int .u8 62) ∧ L[3]? = some (.int .u8 54) :=
  ⟨bytesV (shaB [97, 98, 99]), rfl, by rw [bytesV_length, shaB_length], bytesV_one _, by rw [sha_abc]; rfl, by rw [sha_abc]; rfl, by rw [sha_abc]; rfl, by rw [sha_abc]; rfl⟩
theorem sumB_is : ∃ L : List Value, (bytesV (shaB [])).toArray = L.toArray ∧ L.length = 20 ∧ (∀ v ∈ L, v.oneCell' = true) ∧ L[0]? = some (.int .u8 218) ∧ L[1]? = some (.int .u8 57) ∧ L[2]? = some (.int .u8 163) ∧ L[3]? = some (.int .u8 238) :=
  ⟨bytesV (shaB []), rfl, by rw [bytesV_length, shaB_length], bytesV_one _, by rw [sha_nil]; rfl, by rw [sha_nil]; rfl, by rw [sha_nil]; rfl, by rw [sha_nil]; rfl⟩

set_option maxRecDepth 100000 in
set_option maxHeartbeats 1000000 in
theorem lives02 (w : World) : Calls Try.prog 9 #[] w fun e w' => e = .returned (.bool true) ∧ Below w.heap.size w w' := by
  have hby : Bytes (w.alloc (.cells #[.int .u8 97, .int .u8 98, .int .u8 99] 5 (3, 4))) (some ⟨w.heap.size, 0, none⟩) [97, 98, 99] :=
    ⟨(fun h => by cases h), fun ad had => by
      obtain rfl := Option.some.inj had
      exact Row.of_block (heap_alloc_new w (.cells #[.int .u8 97, .int .u8 98, .int .u8 99] 5 (3, 4)))⟩
  have hs1 := sha_Sum (some ⟨w.heap.size, 0, none⟩) 3 [97, 98, 99] 3 rfl (by omega) _ hby
  have hs2 := fun w => sha_Sum none 0 [] 0 rfl (by omega) w ⟨fun _ => rfl, fun ad h => by cases h⟩
  obtain ⟨SA, eA, lA, oA, A0, A1, A2, A3⟩ := sumA_is
  obtain ⟨SB, eB, lB, oB, B0, B1, B2, B3⟩ := sumB_is
  rw [eA] at hs1
  simp only [eB] at hs2
  have LA := Lib.hid lA
  have LB := Lib.hid lB
  have OA := Lib.hid oA
  have OB := Lib.hid oB
  clear eA eB lA lB oA oB
  have hcv := Lib.run_convert_bytes_const (P := Try.prog) w 23 5 #[.int .u8 97, .int .u8 98, .int .u8 99] 3 3 Try.underlying23 Try.underlying5
  simp only [List.size_toArray, List.length_cons, List.length_nil] at hcv
  have H1 := Lib.hid hs1
  have H2 := Lib.hid hs2
  clear hby hs1 hs2
  go_enter Try.func9, Try.ntmps9
  go_wp2_with fail
  refine H1.out.mono ?_; rintro e w2 ⟨rfl, hb1⟩
  go_wp2_with fail
  refine (H2.out _).mono ?_; rintro e w3 ⟨rfl, hb2⟩
  have HB3 : Hid (Below w.heap.size w w3) := Lib.hid ((((Below.refl _ _).alloc (Nat.le_refl _) _).trans (hb1.mono (by simp))).trans (hb2.mono (Nat.le_trans (by simp) hb1.size)))
  clear hb1 hb2
  have hz1 : ((w3.alloc (.cells #[.int .u8 0, .int .u8 0, .int .u8 0, .int .u8 0, .int .u8 0, .int .u8 0, .int .u8 0, .int .u8 0, .int .u8 0, .int .u8 0, .int .u8 0, .int .u8 0, .int .u8 0, .int .u8 0, .int .u8 0, .int .u8 0, .int .u8 0, .int .u8 0, .int .u8 0, .int .u8 0] 34)).alloc (.cells #[.int .u8 0, .int .u8 0, .int .u8 0, .int .u8 0, .int .u8 0, .int .u8 0, .int .u8 0, .int .u8 0, .int .u8 0, .int .u8 0, .int .u8 0, .int .u8 0, .int .u8 0, .int .u8 0, .int .u8 0, .int .u8 0, .int .u8 0, .int .u8 0, .int .u8 0, .int .u8 0] 34)).heap[w3.heap.size]? = some (.cells #[.int .u8 0, .int .u8 0, .int .u8 0, .int .u8 0, .int .u8 0, .int .u8 0, .int .u8 0, .int .u8 0, .int .u8 0, .int .u8 0, .int .u8 0, .int .u8 0, .int .u8 0, .int .u8 0, .int .u8 0, .int .u8 0, .int .u8 0, .int .u8 0, .int .u8 0, .int .u8 0] 34 (0, 0)) := (heap_alloc_old _ _ (by simp)).trans (heap_alloc_new _ _)
  have hz2 : ((w3.alloc (.cells #[.int .u8 0, .int .u8 0, .int .u8 0, .int .u8 0, .int .u8 0, .int .u8 0, .int .u8 0, .int .u8 0, .int .u8 0, .int .u8 0, .int .u8 0, .int .u8 0, .int .u8 0, .int .u8 0, .int .u8 0, .int .u8 0, .int .u8 0, .int .u8 0, .int .u8 0, .int .u8 0] 34)).alloc (.cells #[.int .u8 0, .int .u8 0, .int .u8 0, .int .u8 0, .int .u8 0, .int .u8 0, .int .u8 0, .int .u8 0, .int .u8 0, .int .u8 0, .int .u8 0, .int .u8 0, .int .u8 0, .int .u8 0, .int .u8 0, .int .u8 0, .int .u8 0, .int .u8 0, .int .u8 0, .int .u8 0] 34)).heap[w3.heap.size + 1]? = some (.cells #[.int .u8 0, .int .u8 0, .int .u8 0, .int .u8 0, .int .u8 0, .int .u8 0, .int .u8 0, .int .u8 0, .int .u8 0, .int .u8 0, .int .u8 0, .int .u8 0, .int .u8 0, .int .u8 0, .int .u8 0, .int .u8 0, .int .u8 0, .int .u8 0, .int .u8 0, .int .u8 0] 34 (0, 0)) := heap_alloc2_new _ _ _
  have hbW : Below w.heap.size w ((w3.alloc (.cells #[.int .u8 0, .int .u8 0, .int .u8 0, .int .u8 0, .int .u8 0, .int .u8 0, .int .u8 0, .int .u8 0, .int .u8 0, .int .u8 0, .int .u8 0, .int .u8 0, .int .u8 0, .int .u8 0, .int .u8 0, .int .u8 0, .int .u8 0, .int .u8 0, .int .u8 0, .int .u8 0] 34)).alloc (.cells #[.int .u8 0, .int .u8 0, .int .u8 0, .int .u8 0, .int .u8 0, .int .u8 0, .int .u8 0, .int .u8 0, .int .u8 0, .int .u8 0, .int .u8 0, .int .u8 0, .int .u8 0, .int .u8 0, .int .u8 0, .int .u8 0, .int .u8 0, .int .u8 0, .int .u8 0, .int .u8 0] 34)) := Below.alloc (Below.alloc HB3.out HB3.out.size _) (by simp; have := HB3.out.size; omega) _
  generalize hW : ((w3.alloc (.cells #[.int .u8 0, .int .u8 0, .int .u8 0, .int .u8 0, .int .u8 0, .int .u8 0, .int .u8 0, .int .u8 0, .int .u8 0, .int .u8 0, .int .u8 0, .int .u8 0, .int .u8 0, .int .u8 0, .int .u8 0, .int .u8 0, .int .u8 0, .int .u8 0, .int .u8 0, .int .u8 0] 34)).alloc (.cells #[.int .u8 0, .int .u8 0, .int .u8 0, .int .u8 0, .int .u8 0, .int .u8 0, .int .u8 0, .int .u8 0, .int .u8 0, .int .u8 0, .int .u8 0, .int .u8 0, .int .u8 0, .int .u8 0, .int .u8 0, .int .u8 0, .int .u8 0, .int .u8 0, .int .u8 0, .int .u8 0] 34)) = W at *
  have hz3 : (W.setRow w3.heap.size SA.toArray).heap[w3.heap.size + 1]? = some (.cells #[.int .u8 0, .int .u8 0, .int .u8 0, .int .u8 0, .int .u8 0, .int .u8 0, .int .u8 0, .int .u8 0, .int .u8 0, .int .u8 0, .int .u8 0, .int .u8 0, .int .u8 0, .int .u8 0, .int .u8 0, .int .u8 0, .int .u8 0, .int .u8 0, .int .u8 0, .int .u8 0] 34 (0, 0)) := (setRow_other W w3.heap.size _ _ (by omega)).trans hz2
  have hA0 : (W.setRow w3.heap.size SA.toArray).heap[w3.heap.size]? = some (.cells SA.toArray 34 (0, 0)) := setRow_heap W _ _ _ _ _ hz1
  have hB : ((W.setRow w3.heap.size SA.toArray).setRow (w3.heap.size + 1) SB.toArray).heap[w3.heap.size + 1]? = some (.cells SB.toArray 34 (0, 0)) := setRow_heap _ _ _ _ _ _ hz3
  have hA : ((W.setRow w3.heap.size SA.toArray).setRow (w3.heap.size + 1) SB.toArray).heap[w3.heap.size]? = some (.cells SA.toArray 34 (0, 0)) := (setRow_other _ _ _ _ (by omega)).trans hA0
  have a0 : ((W.setRow w3.heap.size SA.toArray).setRow (w3.heap.size + 1) SB.toArray).cell? ⟨w3.heap.size, 0, none⟩ = some (.int .u8 169) := by rw [cell_of_row _ _ _ _ _ _ hA, List.getElem?_toArray]; exact A0
  have a1 : ((W.setRow w3.heap.size SA.toArray).setRow (w3.heap.size + 1) SB.toArray).cell? ⟨w3.heap.size, 1, none⟩ = some (.int .u8 153) := by rw [cell_of_row _ _ _ _ _ _ hA, List.getElem?_toArray]; exact A1
  have a2 : ((W.setRow w3.heap.size SA.toArray).setRow (w3.heap.size + 1) SB.toArray).cell? ⟨w3.heap.size, 2, none⟩ = some (.int .u8 62) := by rw [cell_of_row _ _ _ _ _ _ hA, List.getElem?_toArray]; exact A2
  have a3 : ((W.setRow w3.heap.size SA.toArray).setRow (w3.heap.size + 1) SB.toArray).cell? ⟨w3.heap.size, 3, none⟩ = some (.int .u8 54) := by rw [cell_of_row _ _ _ _ _ _ hA, List.getElem?_toArray]; exact A3
  have b0 : ((W.setRow w3.heap.size SA.toArray).setRow (w3.heap.size + 1) SB.toArray).cell? ⟨w3.heap.size + 1, 0, none⟩ = some (.int .u8 218) := by rw [cell_of_row _ _ _ _ _ _ hB, List.getElem?_toArray]; exact B0
  have b1 : ((W.setRow w3.heap.size SA.toArray).setRow (w3.heap.size + 1) SB.toArray).cell? ⟨w3.heap.size + 1, 1, none⟩ = some (.int .u8 57) := by rw [cell_of_row _ _ _ _ _ _ hB, List.getElem?_toArray]; exact B1
  have b2 : ((W.setRow w3.heap.size SA.toArray).setRow (w3.heap.size + 1) SB.toArray).cell? ⟨w3.heap.size + 1, 2, none⟩ = some (.int .u8 163) := by rw [cell_of_row _ _ _ _ _ _ hB, List.getElem?_toArray]; exact B2
  have b3 : ((W.setRow w3.heap.size SA.toArray).setRow (w3.heap.size + 1) SB.toArray).cell? ⟨w3.heap.size + 1, 3, none⟩ = some (.int .u8 238) := by rw [cell_of_row _ _ _ _ _ _ hB, List.getElem?_toArray]; exact B3
  have hbF : Below w.heap.size w ((W.setRow w3.heap.size SA.toArray).setRow (w3.heap.size + 1) SB.toArray) := below_setRow (below_setRow hbW HB3.out.size _) (by have := HB3.out.size; omega) _
  have HZ := Lib.hid hz1
  have HZ2 := Lib.hid hz3
  have HF := Lib.hid hbF
  clear hz1 hz2 hz3 hA hB hA0 hbW hbF A0 A1 A2 A3 B0 B1 B2 B3
  go_wp2_with (refine wpList_store_row (o := ⟨none, _, _, _, _, _⟩) (w := W) rfl _ (.tmp 1) (.tmp 5) rfl w3.heap.size rfl SA rfl _ _ HZ.out 20 (by kernel_rfl) LA.out rfl OA.out ?_
               refine wpList_store_row (o := ⟨none, _, _, _, _, _⟩) rfl _ (.tmp 2) (.tmp 6) rfl (w3.heap.size + 1) rfl SB rfl _ _ HZ2.out 20 (by kernel_rfl) LB.out rfl OB.out ?_)
  go_ret
  exact ⟨rfl, HF.out⟩
end Go.Proofs.Ytgdiajhegmdfgaa
