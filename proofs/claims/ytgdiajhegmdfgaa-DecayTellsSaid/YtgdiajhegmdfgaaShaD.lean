/-
  What sha.load, sha.eat compute. Conditions: 64 bytes stand in the slice's cells.
-/
import Derived.Test.YtgdiajhegmdfgaaShaC
namespace Go.Proofs.Ytgdiajhegmdfgaa
open Go.RowKit

/-- A word of a block. -/
def ldw (l : List UInt8) (j : Nat) : Nat := getN ((l.drop (4 * j)).take 4)
theorem ldw_lt (l : List UInt8) (j : Nat) : ldw l j < 4294967296 := by
  have h1 := getN_lt ((l.drop (4 * j)).take 4)
  have h2 : 256 ^ ((l.drop (4 * j)).take 4).length ≤ 256 ^ 4 := Nat.pow_le_pow_right (by omega) (by rw [List.length_take]; omega)
  unfold ldw
  omega
def ldk (l : List UInt8) (k : Nat) : Nat → Nat := fun j => if j < k then ldw l j else 0
theorem ldk_upd (l : List UInt8) (k : Nat) : upd (ldk l k) k (ldw l k) = ldk l (k + 1) := by
  funext j
  unfold upd ldk
  by_cases h : j = k
  · subst h; simp
  · rw [if_neg h]
    by_cases h2 : j < k
    · rw [if_pos h2, if_pos (by omega)]
    · rw [if_neg h2, if_neg (by omega)]
theorem wcells_congr (n : Nat) (f g : Nat → Nat) (h : ∀ j, j < n → f j = g j) : wcells n f = wcells n g := by
  unfold wcells
  congr 1
  exact List.map_congr_left fun j hj => by rw [h j (List.mem_range.1 hj)]
theorem wcells_one (n : Nat) (f : Nat → Nat) : ∀ v ∈ (wcells n f).toList, v.oneCell' = true := by
  intro v hv
  simp only [wcells, List.mem_map] at hv
  obtain ⟨j, _, rfl⟩ := hv
  rfl
theorem Words.row {n : Nat} {T : TypeId} {w : World} {b : Nat} {ws : Nat → Nat} (h : Words n T w b ws) : Row w ⟨b, 0, none⟩ (wcells n ws).toList := Row.of_block h
theorem wcells_len (n : Nat) (f : Nat → Nat) : (wcells n f).toList.length = n := by rw [Array.length_toList, wcells_size]
theorem agg16 : IsAgg Try.prog 115 16 := ⟨_, Try.underlying115, rfl, by kernel_rfl⟩
theorem agg5 : IsAgg Try.prog 100 5 := ⟨_, Try.underlying100, rfl, by kernel_rfl⟩
theorem Words.load16 {w : World} {b : Nat} {ws : Nat → Nat} (h : Words 16 115 w b ws) : (loadVar 115 ⟨b, 0, none⟩).run Try.prog w = .ok (.agg (wcells 16 ws)) w := by
  have := run_loadVar_agg (cs := (wcells 16 ws).toList) h.row (by rw [wcells_len]; exact agg16)
  rwa [Array.toArray_toList] at this
theorem Words.load5 {w : World} {b : Nat} {ws : Nat → Nat} (h : Words 5 100 w b ws) : (loadVar 100 ⟨b, 0, none⟩).run Try.prog w = .ok (.agg (wcells 5 ws)) w := by
  have := run_loadVar_agg (cs := (wcells 5 ws).toList) h.row (by rw [wcells_len]; exact agg5)
  rwa [Array.toArray_toList] at this

set_option maxRecDepth 100000 in
set_option maxHeartbeats 1000000 in
theorem load_any (A : Option Addr) (cap : Nat) (l : List UInt8) (w : World) (h : Bytes w A l) (hlen : l.length = 64) (hcap : 64 ≤ cap) (hl : cap ≤ maxLen) :
    Calls Try.prog 92 #[.slice A 64 cap] w fun e w' => e = .returned (.agg (wcells 16 (ldw l))) ∧ Below w.heap.size w w' := by
  have HB := Lib.hid h
  have gt : ∀ (w' : World) (_ : Bytes w' A l) (k : Nat) (_ : k < 16), Calls Try.prog 102 #[.slice A 64 cap, .int .i64 (4 * (k : Int)), .int .i64 4] w' fun e w2 =>
      e = .returned (.tuple #[.int .u64 (ldw l k : Int), .bool true]) ∧ ∃ n, w2 = w'.drewN n := fun w' h k hk => by
    have := octet_Get A cap l 64 (4 * k) 4 w' h hlen.symm hcap hl (by omega) (by omega) (by omega)
    rw [Int.natCast_mul] at this
    exact this
  have GT := Lib.hid gt
  clear gt h
  go_enter Try.func92, Try.ntmps92
  go_wp2_with fail
  go_loopw [6] (fun i wr => ∃ k : Nat, i = .int .i64 k ∧ k ≤ 16 ∧ Hid (Words 16 115 wr w.heap.size (ldk l k)) ∧ Hid (Below w.heap.size w wr)) (fun i _ => 16 - (intOf i).toNat)
  case atStart => exact ⟨0, rfl, by omega, Lib.hid (heap_alloc_new w _), Lib.hid ((Below.refl _ _).alloc (Nat.le_refl _) _)⟩
  case round =>
    obtain ⟨k, rfl, hk, HW, HO⟩ := hrel
    by_cases hlt : k < 16
    · have HG := Lib.hid (GT.out wr (HB.out.below (HO.out)) k hlt)
      have hf := Words.free HW.out k
      have hc := Words.cell HW.out k hlt
      have hx := ldw_lt l k
      have e1 : IntKind.u32.wrap (ldw l k : Int) = (ldw l k : Int) := by rw [IntKind.wrap_u32]; omega
      go_wp2_with fail
      refine HG.out.mono ?_; rintro e w2 ⟨rfl, n, rfl⟩
      go_wp2_with fail
      go_roundw
      case rel =>
        refine ⟨k + 1, by go_num, by omega, Lib.hid ?_, Lib.hid ?_⟩
        · rw [← ldk_upd]
          exact Words.set_ (w := wr.drewN n) HW.out k (ldw l k)
        · exact (below_drewN HO.out n).setCell (Nat.le_refl _) _
      case measure => simp [intOf]; omega
    · obtain rfl : k = 16 := by omega
      have ha : IsAgg Try.prog 115 (wcells 16 (ldk l 16)).toList.length := by rw [wcells_len]; exact agg16
      go_wp2_with (refine wpList_load_agg (o := ⟨some 21, _, _, _, _, _⟩) rfl _ (.tmp 2) rfl _ rfl (wcells 16 (ldk l 16)).toList HW.out.row ha ?_
                   refine wpList_store_row (o := ⟨none, _, _, _, _, _⟩) rfl _ (.tmp 2) (.tmp 21) rfl w.heap.size rfl (wcells 16 (ldk l 16)).toList rfl _ _ HW.out 16 (by kernel_rfl) (wcells_len _ _) (wcells_size _ _) (wcells_one _ _) ?_)
      have hw2 : Words 16 115 (wr.setRow w.heap.size (wcells 16 (ldk l 16)).toList.toArray) w.heap.size (ldk l 16) := Words.setRow HW.out _
      refine bodyPost_ret (results_cell_row Try.results92 _ _ w.heap.size _ _ _ _ rfl hw2 Try.underlying115 rfl (by kernel_rfl)) rfl ⟨?_, ?_⟩
      · rw [wcells_congr 16 (ldk l 16) (ldw l) fun j hj => if_pos hj]
      · exact HO.out.trans (Only.below (S := (· = w.heap.size)) (Only.setRow _ _ _) HO.out.size fun k hk => by omega)
end Go.Proofs.Ytgdiajhegmdfgaa
