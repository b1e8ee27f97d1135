/-
  Hashes in the walk: Sum. Conditions: the bytes stand in the slices' cells.
-/
import Derived.Test.YtgdiajhegmdfgaaShaG
import Derived.Laws.CopyOwn
namespace Go.Proofs.Ytgdiajhegmdfgaa
open Go.RowKit

/-- The bytes of k words. -/
def outB (x : Nat → Nat) : Nat → List UInt8
  | 0 => []
  | k + 1 => outB x k ++ putB (x k) 4
theorem outB_length (x : Nat → Nat) : ∀ k, (outB x k).length = 4 * k
  | 0 => rfl
  | k + 1 => by rw [outB, List.length_append, outB_length x k, putB_length]; omega

theorem HBlk.words {w : World} {g : Nat} {hs : Nat → Nat} {v : Value} {n : Nat} (h : HBlk w g hs v n) : Row w ⟨g, 1, none⟩ (wcells 5 hs).toList := by
  have := (Row.of_block h).part 1 5
  rw [add_mk] at this
  exact this

theorem index5_0 (a b c d e : Int) (w : World) : (Instr.index 100 (.agg #[.int .u32 a, .int .u32 b, .int .u32 c, .int .u32 d, .int .u32 e]) (.int .i64 0)).run Try.prog w = .ok (.int .u32 a) w := by kernel_rfl
theorem index5_1 (a b c d e : Int) (w : World) : (Instr.index 100 (.agg #[.int .u32 a, .int .u32 b, .int .u32 c, .int .u32 d, .int .u32 e]) (.int .i64 1)).run Try.prog w = .ok (.int .u32 b) w := by kernel_rfl
theorem index5_2 (a b c d e : Int) (w : World) : (Instr.index 100 (.agg #[.int .u32 a, .int .u32 b, .int .u32 c, .int .u32 d, .int .u32 e]) (.int .i64 2)).run Try.prog w = .ok (.int .u32 c) w := by kernel_rfl
theorem index5_3 (a b c d e : Int) (w : World) : (Instr.index 100 (.agg #[.int .u32 a, .int .u32 b, .int .u32 c, .int .u32 d, .int .u32 e]) (.int .i64 3)).run Try.prog w = .ok (.int .u32 d) w := by kernel_rfl
theorem index5_4 (a b c d e : Int) (w : World) : (Instr.index 100 (.agg #[.int .u32 a, .int .u32 b, .int .u32 c, .int .u32 d, .int .u32 e]) (.int .i64 4)).run Try.prog w = .ok (.int .u32 e) w := by kernel_rfl
theorem index5 (x : Nat → Nat) (k : Nat) (hk : k < 5) (w : World) : (Instr.index 100 (.agg (wcells 5 x)) (.int .i64 (k : Int))).run Try.prog w = .ok (.int .u32 (x k : Int)) w := by
  rw [wcells5]
  have : k = 0 ∨ k = 1 ∨ k = 2 ∨ k = 3 ∨ k = 4 := by omega
  rcases this with rfl | rfl | rfl | rfl | rfl
  · exact index5_0 _ _ _ _ _ w
  · exact index5_1 _ _ _ _ _ w
  · exact index5_2 _ _ _ _ _ w
  · exact index5_3 _ _ _ _ _ w
  · exact index5_4 _ _ _ _ _ w

theorem IsHash.below {w w' : World} {g : Nat} {hs : Nat → Nat} {l : List UInt8} {n : Nat} (h : IsHash w g hs l n) (hb : Below w.heap.size w w') : IsHash w' g hs l n := by
  obtain ⟨A, cap, h1, h2, h3⟩ := h.ex
  exact ⟨A, cap, HBlk.far (S := fun _ => False) h1 (Only.of_below hb) id, h2.below hb, h3⟩
theorem IsHash.lt {w : World} {g : Nat} {hs : Nat → Nat} {l : List UInt8} {n : Nat} (h : IsHash w g hs l n) : g < w.heap.size := by
  obtain ⟨A, cap, h1, _, _⟩ := h.ex
  exact h1.lt
theorem IsHash.cell0 {w : World} {g : Nat} {hs : Nat → Nat} {l : List UInt8} {n : Nat} (h : IsHash w g hs l n) : w.cell? ⟨g, 0, none⟩ = some (.bool true) := by
  obtain ⟨A, cap, h1, _, _⟩ := h.ex
  exact h1.cell 0 _ rfl
theorem IsHash.cell7 {w : World} {g : Nat} {hs : Nat → Nat} {l : List UInt8} {n : Nat} (h : IsHash w g hs l n) : w.cell? ⟨g, 7, none⟩ = some (.int .u64 (n : Int)) := by
  obtain ⟨A, cap, h1, _, _⟩ := h.ex
  exact h1.cell 7 _ rfl
theorem IsHash.words {w : World} {g : Nat} {hs : Nat → Nat} {l : List UInt8} {n : Nat} (h : IsHash w g hs l n) : Row w ⟨g, 1, none⟩ (wcells 5 hs).toList := by
  obtain ⟨A, cap, h1, _, _⟩ := h.ex
  exact HBlk.words h1

def zeroID : Array Value := (bytesV (List.replicate 20 0)).toArray
theorem zeroID_size : zeroID.size = 20 := by simp [zeroID, bytesV]
theorem aggID : IsAgg Try.prog 34 20 := ⟨_, Try.underlying34, rfl, by kernel_rfl⟩

set_option maxRecDepth 100000 in
set_option maxHeartbeats 1000000 in
theorem hash_Sum (g : Nat) (hs : Nat → Nat) (hh : ∀ j, hs j < 4294967296) (l : List UInt8) (n : Nat) (hn : n ≤ 18446744073709551615) (hl : l.length < 64) (w : World) (h : IsHash w g hs l n) :
    Calls Try.prog 67 #[.pointer (some ⟨g, 0, none⟩)] w fun e w' => e = .returned (.agg (bytesV (outB (blocks hs (l ++ padB n) ((l ++ padB n).length / 64)) 5)).toArray) ∧ Below w.heap.size w w' := by
  have H := Lib.hid h
  have lg := h.lt
  obtain ⟨P, hP⟩ : ∃ P, padB n = P := ⟨_, rfl⟩
  have hPl : P.length ≤ 72 := by rw [← hP, padB_length]; omega
  rw [hP]
  obtain ⟨x, hx⟩ : ∃ x, blocks hs (l ++ P) ((l ++ P).length / 64) = x := ⟨_, rfl⟩
  have hxl : ∀ j, x j < 4294967296 := fun j => hx ▸ blocks_lt hs _ hh _ j
  rw [hx]
  have HXL := Lib.hid hxl
  obtain ⟨OB, hOB⟩ : ∃ OB, outB x 5 = OB := ⟨_, rfl⟩
  have hOl : OB.length = 20 := hOB ▸ outB_length x 5
  rw [hOB]
  have HOB := Lib.hid hOB
  have HOl := Lib.hid hOl
  clear h hxl hOB hOl
  go_enter Try.func67, Try.ntmps67
  go_wp2_with fail
  change Calls _ _ _ (w.alloc (.cells zeroID 34)) _
  have f1 : (w.alloc (.cells zeroID 34)).heap[w.heap.size]? = some (.cells zeroID 34 (0, 0)) := heap_alloc_new _ _
  have f2 : Below w.heap.size w (w.alloc (.cells zeroID 34)) := (Below.refl _ _).alloc (Nat.le_refl _) _
  generalize w.alloc (.cells zeroID 34) = w1 at *
  have lB : w.heap.size < w1.heap.size := by
    have h1 := f1
    rw [Array.getElem?_eq_some_iff] at h1
    exact h1.1
  have H1 := Lib.hid (H.out.below f2)
  refine (hash_none_cell g true _ H1.out.cell0).mono ?_; rintro e w2 ⟨rfl, rfl⟩
  go_wp2_with fail
  refine (hash_Clone g hs l n hl _ H1.out).mono ?_; rintro e w2 ⟨k, rfl, hk, hb2, hgk⟩
  have k7 := (H1.out.below hb2).cell7
  have HK := Lib.hid hk
  have lk := hk.lt
  have HB2 := Lib.hid hb2
  clear hk hb2
  go_wp2_with fail
  refine (sha_Pad n hn _).mono ?_; rintro e w3 ⟨v', rfl, hsl, hb3⟩
  rw [hP] at hsl
  have hslk := hsl
  obtain ⟨A', c', rfl, _, _, hBy⟩ := SLb.bytes hsl
  have hbn : ∀ ad, A' = some ad → P ≠ [] → ad.block ≠ k := fun ad had _ => by
    subst had
    have := (SL.block_lt hslk (g := ad.block) rfl).2
    omega
  have HB3 := Lib.hid hb3
  have HW := Lib.hid (hash_Write k hs hh l n A' c' P P.length rfl (by omega) hl w3 (HK.out.below hb3) hBy hbn)
  clear hb3 hsl hslk hBy hbn
  go_wp2_with fail
  refine HW.out.mono ?_; rintro e w4 ⟨rfl, h4, ho4⟩
  rw [hx] at h4
  have hrow := h4.words
  have HB4 : Hid (Below w.heap.size w w4) := Lib.hid (((f2.trans (HB2.out.mono f2.size)).trans (HB3.out.mono (Nat.le_trans f2.size HB2.out.size))).trans (ho4.below (Nat.le_trans f2.size (Nat.le_trans HB2.out.size HB3.out.size)) fun j hj => by omega))
  have F4 : Hid (w4.heap[w.heap.size]? = some (.cells zeroID 34 (0, 0))) := Lib.hid (by
    rw [ho4.block _ (by have := HB2.out.size; have := HB3.out.size; omega) (by omega), HB3.out.block _ (by have := HB2.out.size; omega), HB2.out.block _ lB]
    exact f1)
  have ha5 : IsAgg Try.prog 100 (wcells 5 x).toList.length := by rw [wcells_len]; exact agg5
  clear H H1 HK HB2 HB3 HW h4 ho4 k7 f1 f2 hP hx
  go_wp2_with (refine wpList_load_agg (o := ⟨some 22, _, _, _, _, _⟩) rfl _ (.tmp 21) rfl _ rfl (wcells 5 x).toList hrow ha5 ?_)
  clear hrow
  go_loopw [4, 23] (fun v i wr => ∃ k : Nat, i = .int .i64 k ∧ k ≤ 5 ∧ ∃ A' c', v = .slice A' (4 * k) c' ∧ Hid (Bytes wr A' (outB x k)) ∧ Hid (Below w.heap.size w wr) ∧ Hid (wr.heap[w.heap.size]? = some (.cells zeroID 34 (0, 0)))) (fun _ i _ => 5 - (intOf i).toNat)
  case atStart => exact ⟨0, rfl, by omega, none, 0, rfl, Lib.hid ⟨fun _ => rfl, fun ad h => by cases h⟩, HB4, F4⟩
  case round =>
    obtain ⟨k, rfl, hk, A', c', rfl, HY, HB, HF⟩ := hrel
    by_cases hlt : k < 5
    · have hidx := index5 x k hlt wr
      have hxk := HXL.out k
      have e1 : IntKind.u64.wrap (x k : Int) = (x k : Int) := by rw [IntKind.wrap_u64]; omega
      have hltB : w.heap.size < wr.heap.size := by
        have h1 := HF.out
        rw [Array.getElem?_eq_some_iff] at h1
        exact h1.1
      have HP := Lib.hid (octet_Put A' c' (outB x k) (4 * k) (x k) 4 wr HY.out (outB_length x k).symm (by omega) (by omega) (by omega) (by omega))
      go_wp2_with fail
      refine HP.out.mono ?_; rintro e w5 ⟨v5, rfl, hsl, hb5⟩
      obtain ⟨A5, c5, rfl, _, _, hy5⟩ := SLb.bytes hsl
      have hln : (outB x k ++ putB (x k) 4).length = 4 * (k + 1) := by rw [List.length_append, outB_length, putB_length]; omega
      rw [hln]
      have HY5 := Lib.hid hy5
      have HB5 := Lib.hid (HB.out.trans (hb5.mono HB.out.size))
      have HF5 := Lib.hid ((hb5.block w.heap.size hltB).trans HF.out)
      clear hsl hy5 hb5 HP hidx e1
      go_wp2_with fail
      go_roundw
      case rel => exact ⟨k + 1, by go_num, by omega, A5, c5, rfl, HY5, HB5, HF5⟩
      case measure => simp [intOf]; omega
    · have hk5 : k = 5 := by omega
      rw [hk5, HOB.out] at HY
      have h20 : 4 * k = 20 := by omega
      rw [h20]
      have hge : (5 : Int) ≤ (k : Int) := by omega
      clear hk5 h20
      obtain ⟨ad, rfl⟩ : ∃ ad, A' = some ad := by
        cases A' with
        | some ad => exact ⟨ad, rfl⟩
        | none =>
          have h1 := HY.out.nil_ rfl
          have h2 := HOl.out
          rw [h1] at h2
          exact absurd h2 (by decide)
      have hl20 : (bytesV OB).length = 20 := by rw [bytesV_length]; exact HOl.out
      have hcat : zeroID.toList.take 0 ++ (bytesV OB ++ zeroID.toList.drop (0 + (bytesV OB).length)) = bytesV OB := by
        rw [hl20]
        simp [zeroID, bytesV]
      have hg' : (wr.setRow w.heap.size (bytesV OB).toArray).heap[w.heap.size]? = some (.cells (bytesV OB).toArray 34 (0, 0)) := setRow_heap wr _ _ _ _ _ HF.out
      have haI : IsAgg Try.prog 34 (bytesV OB).length := by rw [hl20]; exact aggID
      have hB1 := Bytes.row HY.out ad rfl
      have HB1 := Lib.hid hB1
      have HG' := Lib.hid hg'
      have HL20 := Lib.hid hl20
      have hfit : 0 + (bytesV OB).length ≤ zeroID.size := by rw [zeroID_size, hl20]; exact Nat.le_refl _
      have hmin : (bytesV OB).length = Nat.min 20 20 := hl20
      have hsz : (bytesV OB).toArray.size = 20 := by rw [List.size_toArray]; exact hl20
      have HFIT := Lib.hid hfit
      have HMIN := Lib.hid hmin
      have HSZ := Lib.hid hsz
      clear hB1 hg' hl20 hfit hmin hsz
      have hcp : (Builtin.copy_ #[23, 23] 3 #[.slice (some ⟨w.heap.size, 0, none⟩) 20 20, .slice (some ad) 20 c']).run Try.prog wr = .ok (goInt (bytesV OB).length) (wr.setRow w.heap.size (bytesV OB).toArray) := by
        have h1 := run_copy_row (P := Try.prog) wr 23 23 3 5 w.heap.size 0 20 20 ad 20 c' zeroID _ (bytesV OB) Try.underlying23 (by kernel_rfl) HF.out HMIN.out HB1.out HFIT.out (bytesV_one _)
        rw [List.append_assoc, hcat] at h1
        exact h1
      go_wp2_with (first
        | refine wpList_load_agg (o := ⟨some 34, _, _, _, _, _⟩) rfl _ (.tmp 2) rfl _ rfl (bytesV OB) (Row.of_block HG'.out) haI ?_
        | refine wpList_store_row (o := ⟨none, _, _, _, _, _⟩) rfl _ (.tmp 2) (.tmp 34) rfl w.heap.size rfl (bytesV OB) rfl _ _ HG'.out 20 (by kernel_rfl) HL20.out HSZ.out (bytesV_one _) ?_)
      have hg2 : ((wr.setRow w.heap.size (bytesV OB).toArray).setRow w.heap.size (bytesV OB).toArray).heap[w.heap.size]? = some (.cells (bytesV OB).toArray 34 (0, 0)) := setRow_heap _ _ _ _ _ _ HG'.out
      have hsz2 : (Try.prog.info? 34).map (·.size) = some (bytesV OB).toArray.size := by rw [HSZ.out]; kernel_rfl
      have ho2 : Only (· = w.heap.size) wr ((wr.setRow w.heap.size (bytesV OB).toArray).setRow w.heap.size (bytesV OB).toArray) := (Only.setRow _ _ _).trans (Only.setRow _ _ _)
      exact bodyPost_ret (results_cell_row Try.results67 _ _ w.heap.size _ _ _ _ rfl hg2 Try.underlying34 rfl hsz2) rfl ⟨rfl, HB.out.trans (Only.below ho2 HB.out.size fun k hk => by omega)⟩
end Go.Proofs.Ytgdiajhegmdfgaa
