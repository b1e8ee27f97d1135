/-
  Lists that no call made, at int keys: what each function tells of them. Conditions: as each theorem says.
-/
import Derived.Test.YtnmmeccbpcichaaRecU
import Derived.Test.YtnmmeccbpcichaaRecV
namespace Go.Proofs.Ytnmmeccbpcichaa
open Go.RowKit Go.Shelf

attribute [local go_sem] Oper.semAt_some

/-- A list that no call made. -/
structure NoL (w : World) (q : Option Addr) : Prop where
  out : q = none ∨ ∃ p, q = some ⟨p, 0, none⟩ ∧ w.heap[p]? = some (.cells #[.int .i64 0, .map none, .pointer none, .pointer none] 42 (0, 0))
theorem NoL.below {w w' : World} {q : Option Addr} (h : NoL w q) (hb : Below w.heap.size w w') : NoL w' q := by
  rcases h.out with h | ⟨p, h, hp⟩
  · exact ⟨Or.inl h⟩
  · exact ⟨Or.inr ⟨p, h, (hb.block p (lt_of_block hp)).trans hp⟩⟩

set_option maxHeartbeats 1000000 in
theorem nb_none {w : World} {q : Option Addr} (h : NoL w q) : Calls Try.prog 49 #[.pointer q] w fun e w' => e = .returned (.bool true) ∧ w = w' := by
  rcases h.out with rfl | ⟨p, rfl, hp⟩
  · go_enter Try.func49, Try.ntmps49
    go_wp2
    go_ret
    exact ⟨rfl, rfl⟩
  · have c0 : w.cell? ⟨p, 0, none⟩ = some (.int .i64 0) := by simp [World.cell?, hp]
    clear hp
    go_enter Try.func49, Try.ntmps49
    go_wp2
    go_ret
    exact ⟨rfl, rfl⟩

set_option maxHeartbeats 1000000 in
theorem nb_Oldest {w : World} {q : Option Addr} (h : NoL w q) : Calls Try.prog 20 #[.pointer q] w fun e w' => e = .returned (.tuple #[.int .i64 0, .bool false]) ∧ w = w' := by
  have hN := Lib.hid (nb_none h)
  clear h
  go_enter Try.func20, Try.ntmps20
  go_wp2_with (go_at_call 49; refine hN.out.mono ?_; rintro e w' ⟨rfl, rfl⟩)
  refine bodyPost_ret (results_tmp2 rfl _ _ _) rfl ?_
  exact ⟨rfl, rfl⟩

set_option maxHeartbeats 1000000 in
theorem nb_Newest {w : World} {q : Option Addr} (h : NoL w q) : Calls Try.prog 21 #[.pointer q] w fun e w' => e = .returned (.tuple #[.int .i64 0, .bool false]) ∧ w = w' := by
  have hN := Lib.hid (nb_none h)
  clear h
  go_enter Try.func21, Try.ntmps21
  go_wp2_with (go_at_call 49; refine hN.out.mono ?_; rintro e w' ⟨rfl, rfl⟩)
  refine bodyPost_ret (results_tmp2 rfl _ _ _) rfl ?_
  exact ⟨rfl, rfl⟩

set_option maxHeartbeats 1000000 in
theorem nb_Add {w : World} {q : Option Addr} (h : NoL w q) (k : Int) : Calls Try.prog 11 #[.pointer q, .int .i64 k] w fun e w' => e = .returned (.int .i64 1) ∧ w = w' := by
  have hN := Lib.hid (nb_none h)
  clear h
  go_enter Try.func11, Try.ntmps11
  go_wp2_with (go_at_call 49; refine hN.out.mono ?_; rintro e w' ⟨rfl, rfl⟩)
  go_ret
  exact ⟨rfl, rfl⟩

set_option maxHeartbeats 1000000 in
theorem nb_Has {w : World} {q : Option Addr} (h : NoL w q) (k : Int) : Calls Try.prog 14 #[.pointer q, .int .i64 k] w fun e w' => e = .returned (.bool false) ∧ w = w' := by
  have hN := Lib.hid (nb_none h)
  clear h
  go_enter Try.func14, Try.ntmps14
  go_wp2_with (go_at_call 49; refine hN.out.mono ?_; rintro e w' ⟨rfl, rfl⟩)
  go_ret
  exact ⟨rfl, rfl⟩

set_option maxHeartbeats 1000000 in
theorem nb_Touch {w : World} {q : Option Addr} (h : NoL w q) (k : Int) : Calls Try.prog 12 #[.pointer q, .int .i64 k] w fun e w' => e = .returned (.bool false) ∧ w = w' := by
  have hN := Lib.hid (nb_Has h k)
  clear h
  go_enter Try.func12, Try.ntmps12
  go_wp2_with (go_at_call 14; refine hN.out.mono ?_; rintro e w' ⟨rfl, rfl⟩)
  go_ret
  exact ⟨rfl, rfl⟩

set_option maxHeartbeats 1000000 in
theorem nb_Remove {w : World} {q : Option Addr} (h : NoL w q) (k : Int) : Calls Try.prog 13 #[.pointer q, .int .i64 k] w fun e w' => e = .returned (.bool false) ∧ w = w' := by
  have hN := Lib.hid (nb_Has h k)
  clear h
  go_enter Try.func13, Try.ntmps13
  go_wp2_with (go_at_call 14; refine hN.out.mono ?_; rintro e w' ⟨rfl, rfl⟩)
  go_ret
  exact ⟨rfl, rfl⟩

set_option maxHeartbeats 1000000 in
theorem nb_Len {w : World} {q : Option Addr} (h : NoL w q) : Calls Try.prog 22 #[.pointer q] w fun e w' => e = .returned (.int .i64 0) ∧ w = w' := by
  have hN := Lib.hid (nb_none h)
  clear h
  go_enter Try.func22, Try.ntmps22
  go_wp2_with (go_at_call 49; refine hN.out.mono ?_; rintro e w' ⟨rfl, rfl⟩)
  go_ret
  exact ⟨rfl, rfl⟩

set_option maxHeartbeats 1000000 in
theorem nb_Clone (w : World) : Calls Try.prog 18 #[.pointer none] w fun e w' => e = .returned (.pointer none) ∧ w = w' := by
  go_enter Try.func18, Try.ntmps18
  go_wp2
  go_ret
  exact ⟨rfl, rfl⟩

set_option maxRecDepth 100000 in
set_option maxHeartbeats 1000000 in
theorem nb_Full {w : World} {q : Option Addr} (h : NoL w q) : Calls Try.prog 23 #[.pointer q] w fun e w' => e = .returned (.bool false) ∧ ∃ j, w' = w.drewN j := by
  have hN : Hid (∀ j, Calls Try.prog 49 #[.pointer q] (w.drewN j) fun e w' => e = .returned (.bool true) ∧ w.drewN j = w') := Lib.hid fun j => nb_none ⟨h.out⟩
  clear h
  go_enter Try.func23, Try.ntmps23
  go_wp2_with fail
  refine wp_region_QL (Drawn w) (by kernel_rfl) (by kernel_rfl) ⟨1, rfl⟩ ?_
  repeat (refine QL.step (fun K hK => ?_); go_simp
          first
            | (refine hK _ ?_; clear hK K)
            | (apply Exists.intro
               refine ⟨fun w' hw => ?_, hK _ ?_⟩
               first
                 | with_reducible rfl
                 | (obtain ⟨j, rfl⟩ := hw.out; go_at_call 49; refine (hN.out j).mono ?_; rintro e w' ⟨rfl, rfl⟩; exact ⟨rfl, hw⟩)
               clear hK K))
  refine QL.nil ?_
  intro w7 hC7
  obtain ⟨j, rfl⟩ := hC7.out
  go_wp2_with fail
  go_ret
  exact ⟨rfl, j, rfl⟩

set_option maxRecDepth 100000 in
set_option maxHeartbeats 1000000 in
theorem nb_stops (n : Nat) (hn : 1 ≤ n) (Bn : Nat) (q : Option Addr) (w : World) (hBn : Bn < w.heap.size) (hc : w.cell? ⟨Bn, 0, none⟩ = some (.pointer q)) (hq : NoL w q) (n₀ : Nat) :
    SeqStopsK Fence.wide n Try.prog 86 #[.pointer (some ⟨Bn, 0, none⟩)] (fun x : KeyI => #[Value.int .i64 x.1]) (Below n₀) (fun ys => ys = []) (fun _ => False) 0 w := fun l J Jx W hW _ _ _ h0 => by
  have hcW : W.cell? ⟨Bn, 0, none⟩ = some (.pointer q) := (hW.cell (p := ⟨Bn, 0, none⟩) hBn).trans hc
  have hN := Lib.hid (nb_none (hq.below hW))
  have HJ := Lib.hid h0
  clear hW hc hq h0
  refine callsIn_of_wp Try.func86 rfl trivial ?_ rfl
  simp only [Try.ntmps86, List.size_toArray, List.length_cons, List.length_nil, Nat.reduceAdd, Nat.reduceSub, Array.replicate_succ, Array.replicate_zero, List.push_toArray, List.append_toArray, List.nil_append, List.cons_append]
  gi_wp2_with (refine ⟨trivial, ?_⟩; gi_at_call 49; refine (callsIn_wide.2 hN.out).mono ?_; rintro e w' ⟨rfl, rfl⟩)
  refine bodyPost_ret (results_none rfl _ _ _) rfl ?_
  exact ⟨⟨_, rfl⟩, .inl ⟨[], rfl, HJ.out⟩⟩

set_option maxRecDepth 100000 in
set_option maxHeartbeats 2000000 in
theorem nb_told {w : World} {q : Option Addr} (h : NoL w q) :
    Calls Try.prog 15 #[.pointer q] w fun e W' => e = .returned (.slice none 0 0) ∧ Below w.heap.size w W' := by
  have hqf := func_nilI
  have HL := Lib.hid h
  clear h
  refine (callsIn_wide (n := 3)).1 ?_
  refine callsIn_of_wp_marks Try.func15 rfl trivial ?_ rfl
  simp only [Try.ntmps15, List.size_toArray, List.length_cons, List.length_nil, Nat.reduceAdd, Nat.reduceSub, Array.replicate_succ, Array.replicate_zero, List.push_toArray, List.append_toArray, List.nil_append, List.cons_append]
  gi_wp2_with (refine ⟨trivial, ?_⟩; gi_at_call 52; refine (recI_all _ _ _).mono ?_; rintro e w' ⟨rfl, rfl⟩)
  have bO := Boxed.new w 26 (.slice none 0 0)
  have bN := Boxed.new (w.alloc (.cells #[.slice none 0 0] 26)) 24 (.pointer q)
  rw [World.size_alloc] at bN
  have hB0 : Below w.heap.size w ((w.alloc (.cells #[.slice none 0 0] 26)).alloc (.cells #[.pointer q] 24)) := ((Below.refl _ w).alloc (Nat.le_refl _) _).alloc (by simp) _
  refine wpIn_rangeFunc_ownG rfl (by omega) (gf := 86) (lb := #[.pointer (some ⟨w.heap.size + 1, 0, none⟩)]) rfl trivial (enters_of Try.func86 (by kernel_rfl) rfl)
    (nb_stops _ (by omega) (w.heap.size + 1) q _ (by simp) bN.cell (HL.out.below hB0) w.heap.size) belowK_t (belowK_b (by simp; omega)) (Below.refl _ _) (fun _ => rfl)
    (fun _ W => Boxed W w.heap.size 26 (.slice none 0 0) ∧ Below w.heap.size w W)
    (fun _ _ _ => False)
    (OwnFrom.and (Own.from (boxed_own w.heap.size 26 (fun _ => .slice none 0 0)) _) (ownFrom_below (Nat.le_refl _) (by simp; omega)))
    (fun _ _ _ _ _ hs _ _ => hs)
    ⟨bO.alloc _, hB0⟩
    (fun x => { tmps := #[.pointer q, undef, .slice none 0 0, .pointer (some ⟨w.heap.size, 0, none⟩), .func (.func 86) #[] #[.pointer (some ⟨w.heap.size + 1, 0, none⟩)], .int .i64 x.1, .pointer q, .func (.func 86) #[] #[.pointer (some ⟨w.heap.size + 1, 0, none⟩)], .func (.func 86) #[] #[.pointer (some ⟨w.heap.size + 1, 0, none⟩)], .bool false, .func (.func 86) #[] #[.pointer (some ⟨w.heap.size + 1, 0, none⟩)], .int .i64 x.1, undef, undef, undef, undef, undef, undef, undef, undef], defers := [] }) ?assign ?body ?done ?stop
  case assign =>
    intro l x W K hK
    gi_wp2
    exact hK
  case body =>
    intro l pre x W _ hlt
    exact absurd hlt (Nat.not_lt_zero _)
  case done =>
    rintro D ys W hD _ ⟨hv, hB⟩ hK
    have hc := hv.cell
    gi_wp2
    refine ⟨by simp, .inl ⟨_, _, rfl, run_takeDeferred hK, ?_⟩⟩
    exact ⟨_, results_tmp rfl _ _ _, rfl, hB.trans (belowK_b (w := w) (Nat.le_refl _) W D _ _ (by simp at hD; omega) hK rfl rfl)⟩
  case stop =>
    rintro D c pre W _ _ h _
    exact h.elim

/-- The worlds of the law: the two lists, and their row. -/
structure NbW (w0 w : World) : Prop where
  zero : w.heap[w0.heap.size]? = some (.cells #[.int .i64 0, .map none, .pointer none, .pointer none] 42 (0, 0))
  row : w.heap[w0.heap.size + 1]? = some (.cells #[.pointer none, .pointer (some ⟨w0.heap.size, 0, none⟩)] 24 (0, 0))
  bel : Below w0.heap.size w0 w
theorem NbW.below {w0 w w' : World} (h : NbW w0 w) (hb : Below w.heap.size w w') : NbW w0 w' :=
  ⟨(hb.block _ (lt_of_block h.zero)).trans h.zero, (hb.block _ (lt_of_block h.row)).trans h.row, h.bel.trans (hb.mono h.bel.size)⟩
theorem NbW.drewN {w0 w : World} (h : NbW w0 w) (j : Nat) : NbW w0 (w.drewN j) := ⟨h.zero, h.row, ⟨h.bel.os, h.bel.tape, h.bel.output, h.bel.size, h.bel.block⟩⟩

set_option maxRecDepth 100000 in
set_option maxHeartbeats 4000000 in
theorem Nobody_walk (k : Int) (w : World) :
    Calls Try.prog 5 #[.int .i64 k] w fun e w' => e = .returned (.bool true) ∧ Below w.heap.size w w' := by
  go_enter Try.func5, Try.ntmps5
  go_wp2_with (go_at_call 18; refine (nb_Clone _).mono ?_; rintro e w' ⟨rfl, rfl⟩)
  have HW : Hid (NbW w ((w.alloc (.cells #[.int .i64 0, .map none, .pointer none, .pointer none] 42)).alloc (.cells #[.pointer none, .pointer (some ⟨w.heap.size, 0, none⟩)] 24))) := Lib.hid ⟨(Below.heap_alloc _ _ _ (by simp)).trans (heap_alloc_new _ _), heap_alloc2_new _ _ _, ((Below.refl _ _).alloc (Nat.le_refl _) _).alloc (by simp) _⟩
  go_loopw [18] (fun s18 wr => ∃ i : Nat, s18 = .int .i64 i ∧ i ≤ 2 ∧ Hid (NbW w wr)) (fun s18 _ => 2 - (intOf s18).toNat)
  case atStart => exact ⟨0, rfl, by omega, HW⟩
  case round =>
    clear HW
    obtain ⟨i, rfl, hi, HW⟩ := hrel
    by_cases hlt : i < 2
    · obtain ⟨q, hq, hc⟩ : ∃ q, NoL wr q ∧ wr.cell? ⟨w.heap.size + 1, i, none⟩ = some (.pointer q) := by
        have hr := HW.out.row
        have h01 : i = 0 ∨ i = 1 := by omega
        rcases h01 with rfl | rfl
        · exact ⟨none, ⟨Or.inl rfl⟩, by simp [World.cell?, hr]⟩
        · exact ⟨some ⟨w.heap.size, 0, none⟩, ⟨Or.inr ⟨_, rfl, HW.out.zero⟩⟩, by simp [World.cell?, hr]⟩
      have HQ := Lib.hid hq
      clear hq
      go_wp2_with (first
        | (go_at_call 20; refine (nb_Oldest HQ.out).mono ?_; rintro e w' ⟨rfl, rfl⟩)
        | (go_at_call 21; refine (nb_Newest HQ.out).mono ?_; rintro e w' ⟨rfl, rfl⟩)
        | (go_at_call 11; refine (nb_Add HQ.out k).mono ?_; rintro e w' ⟨rfl, rfl⟩)
        | (go_at_call 12; refine (nb_Touch HQ.out k).mono ?_; rintro e w' ⟨rfl, rfl⟩)
        | (go_at_call 13; refine (nb_Remove HQ.out k).mono ?_; rintro e w' ⟨rfl, rfl⟩)
        | (go_at_call 14; refine (nb_Has HQ.out k).mono ?_; rintro e w' ⟨rfl, rfl⟩)
        | (go_at_call 22; refine (nb_Len HQ.out).mono ?_; rintro e w' ⟨rfl, rfl⟩)
        | (go_at_call 15; refine (nb_told HQ.out).mono ?_; rintro e w1 ⟨rfl, hb1⟩; have HQ1 := Lib.hid (HQ.out.below hb1); have HW1 := Lib.hid (HW.out.below hb1); clear hb1)
        | (go_at_call 23; refine (nb_Full HQ1.out).mono ?_; rintro e w2 ⟨rfl, j, rfl⟩))
      go_roundw
      case rel => exact ⟨i + 1, by go_num, by omega, Lib.hid (HW1.out.drewN j)⟩
      case measure => simp [intOf]; omega
    · have hi2 : i = 2 := by omega
      subst hi2
      go_wp2_with (go_at_call 9; refine (lives18 _).mono ?_; rintro e w1 ⟨rfl, hb1⟩)
      go_ret
      exact ⟨rfl, HW.out.bel.trans (hb1.mono HW.out.bel.size)⟩
end Go.Proofs.Ytnmmeccbpcichaa
