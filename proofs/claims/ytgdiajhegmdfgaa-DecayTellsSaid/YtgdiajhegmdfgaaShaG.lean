/-
  Hashes in the walk: Clone, Pad. Conditions: the bytes stand in the slices' cells.
-/
import Derived.Test.YtgdiajhegmdfgaaShaF
import Derived.Deep.OwnRows
namespace Go.Proofs.Ytgdiajhegmdfgaa
open Go.RowKit

/-- What a text of n bytes is padded by. -/
def padB (n : Nat) : List UInt8 := 128 :: List.replicate ((119 - n % 64) % 64) 0 ++ putB (n * 8 % 18446744073709551616) 8

theorem padB_length (n : Nat) : (padB n).length = 1 + (119 - n % 64) % 64 + 8 := by simp [padB, putB_length]; omega

theorem made_bytes (n : Nat) : madeCells #[.int .u8 0] n = (bytesV (List.replicate n 0)).toArray := by
  apply Array.ext
  · simp [size_madeCells, bytesV]
  · intro i h1 h2
    simp [madeCells, bytesV, byteV, Nat.mod_one]

set_option maxRecDepth 100000 in
set_option maxHeartbeats 1000000 in
theorem sha_Pad (n : Nat) (hn : n ≤ 18446744073709551615) (w : World) :
    Calls Try.prog 8 #[.int .u64 (n : Int)] w fun e w' => ∃ v', e = .returned v' ∧ SLb w' w.heap.size v' (padB n) ∧ Below w.heap.size w w' := by
  obtain ⟨i0, hi0, hz0, hz1, hz2⟩ := info_parts infoByte
  obtain ⟨z, hz⟩ : ∃ z, (119 - n % 64) % 64 = z := ⟨_, rfl⟩
  have hzz : ((119 : Int) - (n : Int) % 64) % 64 = (z : Int) := by omega
  have hz64 : z < 64 := by omega
  go_enter Try.func8, Try.ntmps8
  have hb1 : w.heap[w.heap.size]? = none := by simp
  have hA := heap_alloc_new w (.cells (madeCells #[.int .u8 0] (1 + z)) 5)
  have hc0 : (w.alloc (.cells (madeCells #[.int .u8 0] (1 + z)) 5)).cell? ⟨w.heap.size, 0, none⟩ = some (.int .u8 0) := by
    rw [cell_of_row _ _ _ _ _ _ hA, made_bytes]
    simp [bytesV, byteV, Nat.add_comm 1 z, List.replicate_succ]
  have HA := Lib.hid hA
  have g1 : (0 : Int) < 1 + (z : Int) := by omega
  have e8 : IntKind.u64.wrap ((n : Int) * 8) = ((n * 8 % 18446744073709551616 : Nat) : Int) := by rw [IntKind.wrap_u64]; omega
  obtain ⟨N, hN⟩ : ∃ N, n * 8 % 18446744073709551616 = N := ⟨_, rfl⟩
  have hN2 : N ≤ 18446744073709551615 := by omega
  rw [hN] at e8
  have hset : (madeCells #[.int .u8 0] (1 + z)).setIfInBounds 0 (.int .u8 128) = (bytesV (128 :: List.replicate z 0)).toArray := by
    rw [made_bytes, Nat.add_comm, List.replicate_succ]
    rfl
  unfold padB
  rw [hz, hN]
  clear hb1 hA hz hN
  go_wp2_with (at_make; refine wpList_make_row _ rfl (.tmp 11) (.tmp 11) 23 rfl 5 i0 (.int .u8 0) Try.underlying23 hi0 hz0 hz1 rfl .i64 .i64 (1 + z) rfl rfl (by rw [hz2]; omega) (by omega) ?_)
  have hby : Bytes (w.alloc (.cells (bytesV (128 :: List.replicate z 0)).toArray 5)) (some ⟨w.heap.size, 0, none⟩) (128 :: List.replicate z 0) :=
    ⟨(fun h => by cases h), fun ad had => by
      obtain rfl := Option.some.inj had
      exact Row.of_block (heap_alloc_new w (.cells (bytesV (128 :: List.replicate z 0)).toArray 5))⟩
  refine (octet_Put _ _ _ (1 + z) N 8 _ hby (by simp [Nat.add_comm]) (by omega) hN2 (by omega) (by omega)).mono ?_; rintro e w2 ⟨v', rfl, hsl, hb⟩
  go_wp2_with fail
  go_ret
  have hb0 : Below w.heap.size w (w.alloc (.cells (bytesV (128 :: List.replicate z 0)).toArray 5)) := (Below.refl _ _).alloc (Nat.le_refl _) _
  exact ⟨v', rfl, SL.mono hsl hb0.size, hb0.trans (hb.mono hb0.size)⟩

set_option maxRecDepth 100000 in
set_option maxHeartbeats 1000000 in
theorem hash_Clone_nil (w : World) : Calls Try.prog 80 #[.pointer none] w fun e w' => e = .returned (.pointer none) ∧ w = w' := by
  go_enter Try.func80, Try.ntmps80
  go_wp2
  go_ret
  exact ⟨rfl, rfl⟩

theorem aggH : IsAgg Try.prog 103 8 := ⟨_, Try.underlying103, rfl, by kernel_rfl⟩

set_option maxRecDepth 100000 in
set_option maxHeartbeats 1000000 in
theorem hash_Clone (g : Nat) (hs : Nat → Nat) (l : List UInt8) (n : Nat) (hl : l.length < 64) (w : World) (h : IsHash w g hs l n) :
    Calls Try.prog 80 #[.pointer (some ⟨g, 0, none⟩)] w fun e w' => ∃ k, e = .returned (.pointer (some ⟨k, 0, none⟩)) ∧ IsHash w' k hs l n ∧ Below w.heap.size w w' ∧ w.heap.size ≤ k := by
  obtain ⟨i0, hi0, hz0, hz1, hz2⟩ := info_parts infoByte
  obtain ⟨A, cap, hblk, hA, hne⟩ := h.ex
  have HG := Lib.hid hblk
  have HA := Lib.hid hA
  have HN := Lib.hid hne
  have h1 : ∀ v ∈ (hcells hs (.slice A l.length cap) n).toList, v.oneCell' = true := by
    intro v hv
    simp only [hcells, List.mem_cons, List.not_mem_nil, or_false] at hv
    rcases hv with rfl | rfl | rfl | rfl | rfl | rfl | rfl | rfl <;> rfl
  have H1 := Lib.hid h1
  clear h hblk hA hne h1
  have hb1 : Below w.heap.size w ((w.alloc (.cells (hcells hs (.slice A l.length cap) n) 103)).alloc (.cells #[] 5)) := ((Below.refl _ _).alloc (Nat.le_refl _) _).alloc (by simp) _
  have hgg := HG.out.lt
  have hg1 : HBlk ((w.alloc (.cells (hcells hs (.slice A l.length cap) n) 103)).alloc (.cells #[] 5)) g hs (.slice A l.length cap) n :=
    HBlk.far (S := fun _ => False) HG.out (Only.of_below hb1) id
  have hg2 : HBlk ((w.alloc (.cells (hcells hs (.slice A l.length cap) n) 103)).alloc (.cells #[] 5)) w.heap.size hs (.slice A l.length cap) n :=
    (heap_alloc_old _ _ (by simp)).trans (heap_alloc_new _ _)
  have k6 : ((w.alloc (.cells (hcells hs (.slice A l.length cap) n) 103)).alloc (.cells #[] 5)).cell? ⟨g, 6, none⟩ = some (.slice A l.length cap) := hg1.cell 6 _ rfl
  have HF : Hid (SL ((w.alloc (.cells (hcells hs (.slice A l.length cap) n) 103)).alloc (.cells #[] 5)) (w.heap.size + 1) 5 1 (.slice (some ⟨w.heap.size + 1, 0, none⟩) 0 0) 0 []) :=
    SL.mk_ (n := 0) (cur := #[]) (Nat.le_refl _) (by have := heap_alloc_new (w.alloc (.cells (hcells hs (.slice A l.length cap) n) 103)) (.cells #[] 5); rwa [World.size_alloc] at this) (Nat.le_refl _) (by simp) (by simp)
  have HA1 := Lib.hid ((HA.out.below hb1).src (N := l.length) (cap := cap) rfl)
  have HB1 := Lib.hid hb1
  have HG2 := Lib.hid hg2
  clear hb1 hg1 hg2
  go_enter Try.func80, Try.ntmps80
  go_wp2_with (first
    | refine wpList_load_agg (o := ⟨some 8, _, _, _, _, _⟩) rfl _ (.tmp 7) rfl _ rfl (hcells hs (.slice A l.length cap) n).toList (Row.of_block HG.out) aggH ?_
    | refine wpList_store_new (o := ⟨none, _, _, _, _, _⟩) rfl _ (.tmp 3) (.tmp 8) rfl _ _ rfl (hcells hs (.slice A l.length cap) n).toList rfl 8 (by kernel_rfl) rfl rfl H1.out ?_
    | (at_builtin; refine wpList_append_SL rfl (.tmp 9) (.tmp 13) 23 23 rfl (w.heap.size + 1) 5 i0 _ 1 1 Try.underlying23 hi0 hz0 hz1 hz2 rfl (by omega) _ 0 [] rfl HF.out _ l.length (bytesV l) rfl HA1.out (by simp only [maxLen]; omega) (by omega) (by simp) ?_; intro v1 w1 hsl1 hgr1 hob1
       have P1 : Only (fun k => k = w.heap.size + 1) _ w1 := Only.of_grown hgr1 fun k hk _ => (Option.some.inj hk).symm
       have HG3 := Lib.hid (HG2.out.far P1 (by omega))
       have q6 : w1.cell? ⟨w.heap.size, 6, none⟩ = some (.slice A l.length cap) := HG3.out.cell 6 _ rfl
       have z6 := HG3.out.free 6
       have HB3 := Lib.hid (HB1.out.trans (P1.below HB1.out.size fun k hk => by omega))
       have hs1 : SL w1 (w.heap.size + 1) 5 1 v1 l.length (bytesV l) := by rw [Nat.zero_add, List.nil_append] at hsl1; exact hsl1
       obtain ⟨A3, c3, rfl, hmc, hcm, hn, hs'⟩ := SL.shape hs1
       have HS1 := Lib.hid hs1
       have HNs := Lib.hid hn
       have HSs := Lib.hid hs'
       clear hsl1 hgr1 hob1 P1 hs1 hn hs'))
  go_ret
  have hs1 := HS1.out
  have hn := HNs.out
  have hs' := HSs.out
  have hne2 : ∀ ad, A3 = some ad → ad.block ≠ w.heap.size := fun ad had => by
    have := (SL.block_lt hs1 (hs' ad had).1).2
    omega
  have hBy : Bytes w1 A3 l := ⟨fun h => List.eq_nil_of_length_eq_zero (hn h).1, fun ad had => (hs' ad had).2.1⟩
  exact ⟨w.heap.size, rfl, ⟨A3, c3, HG3.out.setV _, hBy.only (Only.set_ w1 w.heap.size 6 (.slice A3 l.length c3)) fun ad had _ _ => hne2 ad had, hne2⟩, Below.setCell (p := ⟨w.heap.size, 6, none⟩) HB3.out (Nat.le_refl _) _, Nat.le_refl _⟩
end Go.Proofs.Ytgdiajhegmdfgaa
