/-
  sha.Sum in the walk. Conditions: the bytes stand in the slice's cells.
-/
import Derived.Test.YtgdiajhegmdfgaaShaH
namespace Go.Proofs.Ytgdiajhegmdfgaa
open Go.RowKit

theorem blocks_take (hs : Nat → Nat) (a b : List UInt8) : ∀ k, 64 * k ≤ a.length → blocks hs (a ++ b) k = blocks hs a k
  | 0, _ => rfl
  | k + 1, h => by
    show eatH (blocks hs (a ++ b) k) _ = eatH (blocks hs a k) _
    rw [blocks_take hs a b k (by omega), List.drop_append_of_le_length (by omega), List.take_append_of_le_length (by rw [List.length_drop]; omega)]
theorem blocks_add (hs : Nat → Nat) (l : List UInt8) (j : Nat) : ∀ k, blocks hs l (j + k) = blocks (blocks hs l j) (l.drop (64 * j)) k
  | 0 => rfl
  | k + 1 => by
    show eatH (blocks hs l (j + k)) _ = eatH (blocks (blocks hs l j) (l.drop (64 * j)) k) _
    rw [blocks_add hs l j k, List.drop_drop, ← Nat.mul_add]; rfl
theorem blocks_rest (hs : Nat → Nat) (a b : List UInt8) :
    blocks (blocks hs a (a.length / 64)) (a.drop (64 * (a.length / 64)) ++ b) ((a.drop (64 * (a.length / 64)) ++ b).length / 64) = blocks hs (a ++ b) ((a ++ b).length / 64) := by
  have h1 : 64 * (a.length / 64) ≤ a.length := Nat.mul_div_le _ _
  have h2 : (a.drop (64 * (a.length / 64)) ++ b).length / 64 + a.length / 64 = (a ++ b).length / 64 := by
    rw [List.length_append, List.length_append, List.length_drop]
    omega
  rw [← h2, Nat.add_comm, blocks_add, blocks_take hs a b _ h1, List.drop_append_of_le_length h1]

/-- A text's sum. -/
def shaB (l : List UInt8) : List UInt8 := outB (blocks begin0 (l ++ padB l.length) ((l ++ padB l.length).length / 64)) 5
theorem shaB_length (l : List UInt8) : (shaB l).length = 20 := outB_length _ 5

set_option maxHeartbeats 400000 in
theorem sha_Sum (A : Option Addr) (cap : Nat) (l : List UInt8) (len : Nat) (hlen : len = l.length) (hl : len ≤ 1048576) (w : World) (h : Bytes w A l) :
    Calls Try.prog 38 #[.slice A len cap] w fun e w' => e = .returned (.agg (bytesV (shaB l)).toArray) ∧ Below w.heap.size w w' := by
  obtain ⟨r, hr⟩ : ∃ r, shaB l = r := ⟨_, rfl⟩
  have hrl : r.length = 20 := hr ▸ shaB_length l
  rw [hr]
  have HR := Lib.hid hr
  have HL := Lib.hid hlen
  have HB0 := Lib.hid h
  clear hr hlen h
  go_enter Try.func38, Try.ntmps38
  go_wp2_with fail
  change Calls _ _ _ (w.alloc (.cells zeroID 34)) _
  have f1 : (w.alloc (.cells zeroID 34)).heap[w.heap.size]? = some (.cells zeroID 34 (0, 0)) := heap_alloc_new _ _
  have f2 : Below w.heap.size w (w.alloc (.cells zeroID 34)) := (Below.refl _ _).alloc (Nat.le_refl _) _
  generalize w.alloc (.cells zeroID 34) = w1 at *
  have lB : w.heap.size < w1.heap.size := by
    have h1 := f1
    rw [Array.getElem?_eq_some_iff] at h1
    exact h1.1
  refine (hash_New _).mono ?_; rintro e w2 ⟨g, rfl, hh, hb2, hg⟩
  have F12 := f2.trans (hb2.mono f2.size)
  have hby := HB0.out.below F12
  have HW := Lib.hid (hash_Write g begin0 begin0_lt [] 0 A cap l len HL.out hl (by decide) w2 hh hby (fun ad had hnl => by
    cases l with
    | nil => exact absurd rfl hnl
    | cons b l =>
      have h1 := HB0.out.row ad had 0 (byteV b) rfl
      have h2 := block_lt_of_cell h1
      rw [add_block] at h2
      omega))
  go_wp2_with fail
  refine HW.out.mono ?_; rintro e w3 ⟨rfl, h3, ho3⟩
  rw [List.nil_append, Nat.zero_add] at h3
  have hmod : len % 18446744073709551616 = l.length := by have := HL.out; omega
  rw [hmod] at h3
  have hS := hash_Sum g _ (blocks_lt begin0 l begin0_lt _) _ _ (by have := HL.out; omega) (by rw [List.length_drop]; omega) w3 h3
  rw [blocks_rest] at hS
  change Calls _ _ _ _ (fun e w' => e = .returned (.agg (bytesV (shaB l)).toArray) ∧ _) at hS
  rw [HR.out] at hS
  have HS := Lib.hid hS
  have F3 : Hid (Below w.heap.size w w3) := Lib.hid (F12.trans (ho3.below F12.size fun k hk => by have := f2.size; omega))
  have G3 : Hid (w3.heap[w.heap.size]? = some (.cells zeroID 34 (0, 0))) := Lib.hid (by
    rw [ho3.block _ (by have := hb2.size; omega) (by omega), hb2.block _ lB]
    exact f1)
  clear hS HW h3 ho3 F12 hby f1 f2 hh hb2
  go_wp2_with fail
  refine HS.out.mono ?_; rintro e w4 ⟨rfl, hb4⟩
  have lB3 : w.heap.size < w3.heap.size := by
    have h1 := G3.out
    rw [Array.getElem?_eq_some_iff] at h1
    exact h1.1
  have G4 : Hid (w4.heap[w.heap.size]? = some (.cells zeroID 34 (0, 0))) := Lib.hid ((hb4.block _ lB3).trans G3.out)
  have F4 : Hid (Below w.heap.size w w4) := Lib.hid (F3.out.trans (hb4.mono F3.out.size))
  have hl20 : (bytesV r).length = 20 := by rw [bytesV_length]; exact hrl
  have hsz : (bytesV r).toArray.size = 20 := by rw [List.size_toArray]; exact hl20
  have hg2 : (w4.setRow w.heap.size (bytesV r).toArray).heap[w.heap.size]? = some (.cells (bytesV r).toArray 34 (0, 0)) := setRow_heap _ _ _ _ _ _ G4.out
  have hsz2 : (Try.prog.info? 34).map (·.size) = some (bytesV r).toArray.size := by rw [hsz]; kernel_rfl
  clear hb4 G3 F3 HS
  go_wp2_with (refine wpList_store_row (o := ⟨none, _, _, _, _, _⟩) rfl _ (.tmp 2) (.tmp 9) rfl w.heap.size rfl (bytesV r) rfl _ _ G4.out 20 (by kernel_rfl) hl20 zeroID_size (bytesV_one _) ?_)
  exact bodyPost_ret (results_cell_row Try.results38 _ _ w.heap.size _ _ _ _ rfl hg2 Try.underlying34 rfl hsz2) rfl ⟨rfl, F4.out.trans (Only.below (S := (· = w.heap.size)) (Only.setRow _ _ _) F4.out.size fun k hk => by omega)⟩
end Go.Proofs.Ytgdiajhegmdfgaa
