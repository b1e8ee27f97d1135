/-
  What (*sha.words).next computes. Conditions: the words stand in the sixteen cells.
-/
import Derived.Test.YtgdiajhegmdfgaaShaA
import Derived.StillTailTactics
namespace Go.Proofs.Ytgdiajhegmdfgaa
open Go.RowKit

/-- n words' cells. -/
def wcells (n : Nat) (ws : Nat → Nat) : Array Value := ((List.range n).map fun j => w32 (ws j)).toArray
/-- A block of n words. -/
def Words (n : Nat) (T : TypeId) (w : World) (b : Nat) (ws : Nat → Nat) : Prop := w.heap[b]? = some (.cells (wcells n ws) T (0, 0))
/-- One word set. -/
def upd (ws : Nat → Nat) (i v : Nat) : Nat → Nat := fun j => if j = i then v else ws j

theorem wcells_at (n : Nat) (ws : Nat → Nat) (j : Nat) (h : j < n) : (wcells n ws)[j]? = some (w32 (ws j)) := by simp [wcells, h]
theorem wcells_size (n : Nat) (ws : Nat → Nat) : (wcells n ws).size = n := by simp [wcells]
theorem wcells_set (n : Nat) (ws : Nat → Nat) (i v : Nat) : (wcells n ws).setIfInBounds i (w32 v) = wcells n (upd ws i v) := by
  apply Array.ext
  · simp [wcells]
  · intro j h1 h2
    simp only [Array.getElem_setIfInBounds, wcells, upd, List.getElem_toArray, List.getElem_map, List.getElem_range, Array.size_setIfInBounds] at *
    by_cases h : i = j
    · simp [h]
    · simp [h, Ne.symm h]
theorem Words.cell {n : Nat} {T : TypeId} {w : World} {b : Nat} {ws : Nat → Nat} (h : Words n T w b ws) (j : Nat) (hj : j < n) : w.cell? ⟨b, j, none⟩ = some (.int .u32 (ws j : Int)) := by
  rw [cell_of_row w b j _ T _ h]
  exact wcells_at n ws j hj
theorem Words.free {n : Nat} {T : TypeId} {w : World} {b : Nat} {ws : Nat → Nat} (h : Words n T w b ws) (j : Nat) : w.frozen? ⟨b, j, none⟩ = false := frozen_of_row w b j _ T h
theorem Words.set_ {n : Nat} {T : TypeId} {w : World} {b : Nat} {ws : Nat → Nat} (h : Words n T w b ws) (j v : Nat) : Words n T (w.setCell ⟨b, j, none⟩ (.int .u32 (v : Int))) b (upd ws j v) := by
  have := heap_setCell_same w b j _ T (w32 v) h
  rw [wcells_set] at this
  exact this
theorem Words.far {n : Nat} {T : TypeId} {w w' : World} {b : Nat} {ws : Nat → Nat} {S : Nat → Prop} (h : Words n T w b ws) (ho : Only S w w') (hb : ¬ S b) : Words n T w' b ws :=
  (ho.block b (by
    have h1 : w.heap[b]? = some _ := h
    rw [Array.getElem?_eq_some_iff] at h1
    exact h1.1) hb).trans h
theorem Words.lt {n : Nat} {T : TypeId} {w : World} {b : Nat} {ws : Nat → Nat} (h : Words n T w b ws) : b < w.heap.size := by
  have h1 : w.heap[b]? = some _ := h
  rw [Array.getElem?_eq_some_iff] at h1
  exact h1.1
theorem Only.set_ (w : World) (b j : Nat) (v : Value) : Only (· = b) w (w.setCell ⟨b, j, none⟩ v) :=
  ⟨rfl, rfl, rfl, by simp [World.setCell], fun i _ hn => heap_setCell_other w ⟨b, j, none⟩ i v hn⟩
theorem Only.drewN {S : Nat → Prop} {a w : World} (h : Only S a w) (n : Nat) : Only S a (w.drewN n) := ⟨h.os, h.tape, h.output, h.size, h.block⟩
/-- The next word of the window. -/
def wnext (ws : Nat → Nat) (i : Nat) : Nat := rotl 1 (ws ((i + 13) % 16) ^^^ ws ((i + 8) % 16) ^^^ ws ((i + 2) % 16) ^^^ ws (i % 16))

theorem tmod16 (i k : Nat) (hi : i < 80) (hk : k < 80) : (IntKind.i64.wrap ((i : Int) + (k : Int))).tmod 16 = (((i + k) % 16 : Nat) : Int) := by
  have h : IntKind.i64.wrap ((i : Int) + (k : Int)) = ((i + k : Nat) : Int) := by
    rw [IntKind.wrap_i64]
    omega
  rw [h, Int.tmod_eq_emod_of_nonneg (by omega)]
  omega

set_option maxHeartbeats 400000 in
set_option maxRecDepth 10000 in
theorem next_lo (i : Nat) (hi : i < 16) (b : Nat) (ws : Nat → Nat) (w : World) (h : Words 16 115 w b ws) :
    Calls Try.prog 96 #[.pointer (some ⟨b, 0, none⟩), .int .i64 (i : Int)] w fun e w' => e = .returned (.int .u32 (ws i : Int)) ∧ w = w' := by
  have h0 := h.cell i hi
  have e0 : (i : Int) % 16 = (i : Int) := by omega
  have H := Lib.hid h
  clear h
  go_enter Try.func96, Try.ntmps96
  go_wp2
  go_ret
  exact ⟨rfl, rfl⟩

set_option maxHeartbeats 400000 in
set_option maxRecDepth 10000 in
theorem next_hi (i : Nat) (hi : 16 ≤ i) (hi2 : i < 80) (b : Nat) (ws : Nat → Nat) (hb : ∀ j, ws j < 4294967296) (w : World) (h : Words 16 115 w b ws) :
    Calls Try.prog 96 #[.pointer (some ⟨b, 0, none⟩), .int .i64 (i : Int)] w fun e w' => e = .returned (w32 (wnext ws i)) ∧ ∃ n, w' = (w.setCell ⟨b, i % 16, none⟩ (w32 (wnext ws i))).drewN n := by
  have t0 : (IntKind.i64.wrap ((i : Int) + 13)).tmod 16 = (((i + 13) % 16 : Nat) : Int) := tmod16 i 13 hi2 (by omega)
  have t1 : (IntKind.i64.wrap ((i : Int) + 8)).tmod 16 = (((i + 8) % 16 : Nat) : Int) := tmod16 i 8 hi2 (by omega)
  have t2 : (IntKind.i64.wrap ((i : Int) + 2)).tmod 16 = (((i + 2) % 16 : Nat) : Int) := tmod16 i 2 hi2 (by omega)
  have t3 : (i : Int) % 16 = ((i % 16 : Nat) : Int) := by omega
  unfold wnext
  have l0 : (i + 13) % 16 < 16 := by omega
  have l1 : (i + 8) % 16 < 16 := by omega
  have l2 : (i + 2) % 16 < 16 := by omega
  have l3 : i % 16 < 16 := by omega
  generalize (i + 13) % 16 = j0 at *
  generalize (i + 8) % 16 = j1 at *
  generalize (i + 2) % 16 = j2 at *
  generalize i % 16 = j3 at *
  have l0' : (j0 : Int) < 16 := by omega
  have l1' : (j1 : Int) < 16 := by omega
  have l2' : (j2 : Int) < 16 := by omega
  have l3' : (j3 : Int) < 16 := by omega
  have c0 := h.cell j0 l0
  have c1 := h.cell j1 l1
  have c2 := h.cell j2 l2
  have c3 := h.cell j3 l3
  obtain ⟨a0, ha0⟩ : ∃ x, ws j0 = x := ⟨_, rfl⟩
  obtain ⟨a1, ha1⟩ : ∃ x, ws j1 = x := ⟨_, rfl⟩
  obtain ⟨a2, ha2⟩ : ∃ x, ws j2 = x := ⟨_, rfl⟩
  obtain ⟨a3, ha3⟩ : ∃ x, ws j3 = x := ⟨_, rfl⟩
  have b0 : a0 < 4294967296 := ha0 ▸ hb _
  have b1 : a1 < 4294967296 := ha1 ▸ hb _
  have b2 : a2 < 4294967296 := ha2 ▸ hb _
  have b3 : a3 < 4294967296 := ha3 ▸ hb _
  rw [ha0] at c0 ⊢
  rw [ha1] at c1 ⊢
  rw [ha2] at c2 ⊢
  rw [ha3] at c3 ⊢
  have hz := h.free j3
  clear ha0 ha1 ha2 ha3 h hb
  unfold w32
  have x0 := u32_xor_nat a0 a1 b0 b1
  have x1 := u32_xor_nat (a0 ^^^ a1) a2 (xor_lt32 b0 b1) b2
  have x2 := u32_xor_nat (a0 ^^^ a1 ^^^ a2) a3 (xor_lt32 (xor_lt32 b0 b1) b2) b3
  have hx := xor_lt32 (xor_lt32 (xor_lt32 b0 b1) b2) b3
  have r := fun w => (rotl_1 _ hx w).mono fun e w' (h : _ ∧ _) => (⟨h.1, h.2.symm⟩ : e = _ ∧ w' = w)
  generalize hw : a0 ^^^ a1 ^^^ a2 ^^^ a3 = x at *
  clear hw
  go_enter Try.func96, Try.ntmps96
  go_wp2_with fail
  go_still_tail 33, (by kernel_rfl)
  still_call (r _)
  repeat still_step
  refine wpStill_nil ?_
  change wpList _ _ _ _ _ w.drew
  go_wp2
  go_ret
  exact ⟨rfl, 1, rfl⟩
end Go.Proofs.Ytgdiajhegmdfgaa
