/-
  The walk of ShaNobody. Conditions: the argument reads as bytes.
-/
import Derived.Test.YtjdmbegmbffhfaaShaL
namespace Go.Proofs.Ytjdmbegmbffhfaa
open Go.RowKit

/-- A hash that no call made. -/
def Nob (p : Option Addr) (w : World) : Prop := p = none ∨ ∃ g, p = some ⟨g, 0, none⟩ ∧ w.cell? ⟨g, 0, none⟩ = some (.bool false)

theorem none_nob (p : Option Addr) (w : World) (h : Nob p w) : Calls Try.prog 69 #[.pointer p] w fun e w' => e = .returned (.bool true) ∧ w = w' := by
  rcases h with rfl | ⟨g, rfl, hc⟩
  · exact hash_none_nil w
  · exact hash_none_cell g false w hc

set_option maxHeartbeats 400000 in
theorem Write_nob (p : Option Addr) (v : Value) (w : World) (h : Nob p w) : Calls Try.prog 25 #[.pointer p, v] w fun e w' => e = .returned (.int .i64 1) ∧ w = w' := by
  have H := Lib.hid h
  clear h
  go_enter Try.func25, Try.ntmps25
  go_wp2_with fail
  refine (none_nob p _ H.out).mono ?_; rintro e w2 ⟨rfl, rfl⟩
  go_wp2_with fail
  go_ret
  exact ⟨rfl, rfl⟩

set_option maxHeartbeats 400000 in
theorem Len_nob (p : Option Addr) (w : World) (h : Nob p w) : Calls Try.prog 27 #[.pointer p] w fun e w' => e = .returned (.int .u64 0) ∧ w = w' := by
  have H := Lib.hid h
  clear h
  go_enter Try.func27, Try.ntmps27
  go_wp2_with fail
  refine (none_nob p _ H.out).mono ?_; rintro e w2 ⟨rfl, rfl⟩
  go_wp2_with fail
  go_ret
  exact ⟨rfl, rfl⟩

set_option maxHeartbeats 1000000 in
set_option maxRecDepth 100000 in
theorem Sum_nob (p : Option Addr) (w : World) (h : Nob p (w.alloc (.cells #[.int .u8 0, .int .u8 0, .int .u8 0, .int .u8 0, .int .u8 0, .int .u8 0, .int .u8 0, .int .u8 0, .int .u8 0, .int .u8 0, .int .u8 0, .int .u8 0, .int .u8 0, .int .u8 0, .int .u8 0, .int .u8 0, .int .u8 0, .int .u8 0, .int .u8 0, .int .u8 0] 32))) :
    Calls Try.prog 26 #[.pointer p] w fun e w' => e = .returned (.agg #[.int .u8 0, .int .u8 0, .int .u8 0, .int .u8 0, .int .u8 0, .int .u8 0, .int .u8 0, .int .u8 0, .int .u8 0, .int .u8 0, .int .u8 0, .int .u8 0, .int .u8 0, .int .u8 0, .int .u8 0, .int .u8 0, .int .u8 0, .int .u8 0, .int .u8 0, .int .u8 0]) ∧ Below w.heap.size w w' := by
  have H := Lib.hid h
  clear h
  go_enter Try.func26, Try.ntmps26
  go_wp2_with fail
  refine (none_nob p _ H.out).mono ?_; rintro e w2 ⟨rfl, rfl⟩
  have h1 : ∀ v ∈ ([.int .u8 0, .int .u8 0, .int .u8 0, .int .u8 0, .int .u8 0, .int .u8 0, .int .u8 0, .int .u8 0, .int .u8 0, .int .u8 0, .int .u8 0, .int .u8 0, .int .u8 0, .int .u8 0, .int .u8 0, .int .u8 0, .int .u8 0, .int .u8 0, .int .u8 0, .int .u8 0] : List Value), v.oneCell' = true := by
    intro v hv
    obtain rfl : v = .int .u8 0 := List.eq_of_mem_replicate (n := 20) hv
    rfl
  go_wp2_with (refine wpList_store_new (o := ⟨none, _, _, _, _, _⟩) rfl _ (.tmp 2) (.tmp 9) rfl _ _ rfl [.int .u8 0, .int .u8 0, .int .u8 0, .int .u8 0, .int .u8 0, .int .u8 0, .int .u8 0, .int .u8 0, .int .u8 0, .int .u8 0, .int .u8 0, .int .u8 0, .int .u8 0, .int .u8 0, .int .u8 0, .int .u8 0, .int .u8 0, .int .u8 0, .int .u8 0, .int .u8 0] rfl 20 (by kernel_rfl) rfl rfl h1 ?_)
  have hg : (w.alloc (.cells #[.int .u8 0, .int .u8 0, .int .u8 0, .int .u8 0, .int .u8 0, .int .u8 0, .int .u8 0, .int .u8 0, .int .u8 0, .int .u8 0, .int .u8 0, .int .u8 0, .int .u8 0, .int .u8 0, .int .u8 0, .int .u8 0, .int .u8 0, .int .u8 0, .int .u8 0, .int .u8 0] 32)).heap[w.heap.size]? = some (.cells #[.int .u8 0, .int .u8 0, .int .u8 0, .int .u8 0, .int .u8 0, .int .u8 0, .int .u8 0, .int .u8 0, .int .u8 0, .int .u8 0, .int .u8 0, .int .u8 0, .int .u8 0, .int .u8 0, .int .u8 0, .int .u8 0, .int .u8 0, .int .u8 0, .int .u8 0, .int .u8 0] 32 (0, 0)) := heap_alloc_new _ _
  exact bodyPost_ret (results_cell_row Try.results26 _ _ w.heap.size _ _ _ _ rfl hg Try.underlying32 rfl (by kernel_rfl)) rfl ⟨rfl, (Below.refl _ _).alloc (Nat.le_refl _) _⟩

theorem Nob.below {p : Option Addr} {w w' : World} (h : Nob p w) (hb : Below w.heap.size w w') : Nob p w' := by
  rcases h with rfl | ⟨g, rfl, hc⟩
  · exact .inl rfl
  · exact .inr ⟨g, rfl, (hb.cell (World.block_lt_of_cell? w _ hc)).trans hc⟩

set_option maxRecDepth 100000 in
set_option maxHeartbeats 1000000 in
theorem Nobody_walk (A : Option Addr) (len cap : Nat) (w : World) (hl : (len : Int) ≤ 9223372036854775807) :
    Calls Try.prog 6 #[.slice A len cap] w fun e w' => e = .returned (.bool true) ∧ Below w.heap.size w w' := by
  have hcmp : ∀ w : World, (binOp .neq 32 (.agg #[.int .u8 0, .int .u8 0, .int .u8 0, .int .u8 0, .int .u8 0, .int .u8 0, .int .u8 0, .int .u8 0, .int .u8 0, .int .u8 0, .int .u8 0, .int .u8 0, .int .u8 0, .int .u8 0, .int .u8 0, .int .u8 0, .int .u8 0, .int .u8 0, .int .u8 0, .int .u8 0]) (.agg #[.int .u8 0, .int .u8 0, .int .u8 0, .int .u8 0, .int .u8 0, .int .u8 0, .int .u8 0, .int .u8 0, .int .u8 0, .int .u8 0, .int .u8 0, .int .u8 0, .int .u8 0, .int .u8 0, .int .u8 0, .int .u8 0, .int .u8 0, .int .u8 0, .int .u8 0, .int .u8 0])).run Try.prog w = .ok (.bool false) w := fun _ => by kernel_rfl
  by_cases hbig : (500 : Int) < (len : Int)
  · go_enter Try.func6, Try.ntmps6
    go_wp2_with fail
    refine (lives02 _).mono ?_; rintro e w3 ⟨rfl, hb3⟩
    go_wp2_with fail
    go_ret
    exact ⟨rfl, hb3⟩
  · go_enter Try.func6, Try.ntmps6
    go_wp2_with fail
    refine (hash_Clone_nil _).mono ?_; rintro e w2 ⟨rfl, rfl⟩
    go_wp2_with fail
    have q0 : ((w.alloc (.cells #[.bool false, .int .u32 0, .int .u32 0, .int .u32 0, .int .u32 0, .int .u32 0, .slice none 0 0, .int .u64 0] 45)).alloc (.cells #[.pointer none, .pointer (some ⟨w.heap.size, 0, none⟩)] 40)).cell? ⟨w.heap.size + 1, 0, none⟩ = some (.pointer none) := by
      rw [cell_of_row _ _ _ _ _ _ (heap_alloc2_new _ _ _)]; rfl
    have q1 : ((w.alloc (.cells #[.bool false, .int .u32 0, .int .u32 0, .int .u32 0, .int .u32 0, .int .u32 0, .slice none 0 0, .int .u64 0] 45)).alloc (.cells #[.pointer none, .pointer (some ⟨w.heap.size, 0, none⟩)] 40)).cell? ⟨w.heap.size + 1, 1, none⟩ = some (.pointer (some ⟨w.heap.size, 0, none⟩)) := by
      rw [cell_of_row _ _ _ _ _ _ (heap_alloc2_new _ _ _)]; rfl
    have q2 : ((w.alloc (.cells #[.bool false, .int .u32 0, .int .u32 0, .int .u32 0, .int .u32 0, .int .u32 0, .slice none 0 0, .int .u64 0] 45)).alloc (.cells #[.pointer none, .pointer (some ⟨w.heap.size, 0, none⟩)] 40)).cell? ⟨w.heap.size, 0, none⟩ = some (.bool false) := by
      rw [cell_of_row _ _ _ _ _ _ ((heap_alloc_old _ _ (by simp)).trans (heap_alloc_new _ _))]; rfl
    have q3 : Below w.heap.size w ((w.alloc (.cells #[.bool false, .int .u32 0, .int .u32 0, .int .u32 0, .int .u32 0, .int .u32 0, .slice none 0 0, .int .u64 0] 45)).alloc (.cells #[.pointer none, .pointer (some ⟨w.heap.size, 0, none⟩)] 40)) := ((Below.refl _ _).alloc (Nat.le_refl _) _).alloc (by simp) _
    generalize ((w.alloc (.cells #[.bool false, .int .u32 0, .int .u32 0, .int .u32 0, .int .u32 0, .int .u32 0, .slice none 0 0, .int .u64 0] 45)).alloc (.cells #[.pointer none, .pointer (some ⟨w.heap.size, 0, none⟩)] 40)) = W0 at *
    have Q0 := Lib.hid q0
    have Q1 := Lib.hid q1
    have Q2 := Lib.hid q2
    have Q3 := Lib.hid q3
    clear q0 q1 q2 q3
    go_loopw [18] (fun i wr => ∃ k : Nat, i = .int .i64 k ∧ k ≤ 2 ∧ Hid (Below W0.heap.size W0 wr)) (fun i _ => 2 - (intOf i).toNat)
    case atStart => exact ⟨0, rfl, by omega, Lib.hid (Below.refl _ _)⟩
    case round =>
      obtain ⟨k, rfl, hk, HB⟩ := hrel
      by_cases hlt : k < 2
      · obtain ⟨p, hp1, hp2⟩ : ∃ p, wr.cell? ⟨w.heap.size + 1, k, none⟩ = some (.pointer p) ∧ Nob p wr := by
          have hlt1 := World.block_lt_of_cell? W0 _ Q0.out
          have hlt2 := World.block_lt_of_cell? W0 _ Q2.out
          have e1 := (HB.out.cell (p := ⟨w.heap.size + 1, k, none⟩) hlt1)
          have e2 := (HB.out.cell (p := ⟨w.heap.size, 0, none⟩) hlt2)
          match k, hlt with
          | 0, _ => exact ⟨none, e1.trans Q0.out, .inl rfl⟩
          | 1, _ => exact ⟨some ⟨w.heap.size, 0, none⟩, e1.trans Q1.out, .inr ⟨_, rfl, e2.trans Q2.out⟩⟩
        have hk2 : (k : Int) < 2 := by omega
        have HN := Lib.hid hp2
        have HN2 := Lib.hid (Nob.below hp2 ((Below.refl wr.heap.size wr).alloc (Nat.le_refl _) (.cells #[.int .u8 0, .int .u8 0, .int .u8 0, .int .u8 0, .int .u8 0, .int .u8 0, .int .u8 0, .int .u8 0, .int .u8 0, .int .u8 0, .int .u8 0, .int .u8 0, .int .u8 0, .int .u8 0, .int .u8 0, .int .u8 0, .int .u8 0, .int .u8 0, .int .u8 0, .int .u8 0] 32)))
        clear hp2
        go_wp2_with fail
        refine (Write_nob p _ _ HN.out).mono ?_; rintro e w3 ⟨rfl, rfl⟩
        go_wp2_with fail
        refine (Sum_nob p _ HN2.out).mono ?_; rintro e w4 ⟨rfl, hb4⟩
        have HN4 := Lib.hid (Nob.below HN.out hb4)
        have HB4 := Lib.hid (HB.out.trans (hb4.mono HB.out.size))
        have hc4 := hcmp w4
        clear hb4
        go_wp2_with fail
        refine (Len_nob p _ HN4.out).mono ?_; rintro e w5 ⟨rfl, rfl⟩
        go_wp2_with fail
        go_roundw
        case rel => exact ⟨k + 1, by go_num, by omega, HB4⟩
        case measure => simp [intOf]; omega
      · have hk2 : (2 : Int) ≤ (k : Int) := by omega
        go_wp2_with fail
        refine (lives02 _).mono ?_; rintro e w5 ⟨rfl, hb5⟩
        go_wp2_with fail
        go_ret
        have h2 : Below w.heap.size w wr := Q3.out.trans (HB.out.mono Q3.out.size)
        exact ⟨rfl, h2.trans (hb5.mono h2.size)⟩
end Go.Proofs.Ytjdmbegmbffhfaa
