/-
  The walk of IdentFar. Conditions: the ids are twenty bytes.
-/
import Derived.Test.YtjdmbegmbffhfaaIdC
import Derived.Test.YtjdmbegmbffhfaaQuiet
import Derived.BigQuiet
namespace Go.Proofs.Ytjdmbegmbffhfaa
open Go.RowKit

/-- Three ids that are held. -/
structure Held3 (w : World) (s s1 s2 : Nat) (a b c : List UInt8) : Prop where
  a : BB 32 w s a
  b : BB 32 w s1 b
  c : BB 32 w s2 c
theorem Held3.below {w w' : World} {s s1 s2 : Nat} {a b c : List UInt8} (h : Held3 w s s1 s2 a b c) (hb : Below w.heap.size w w') : Held3 w' s s1 s2 a b c := ⟨h.a.below hb, h.b.below hb, h.c.below hb⟩
theorem Held3.drew {w : World} {s s1 s2 : Nat} {a b c : List UInt8} (h : Held3 w s s1 s2 a b c) : Held3 w.drew s s1 s2 a b c := ⟨h.a, h.b, h.c⟩

/-- The worlds of the walk. -/
structure FarC (w0 : World) (a b c : List UInt8) (w : World) : Prop where
  held : Held3 w w0.heap.size (w0.heap.size + 1) (w0.heap.size + 1 + 1) a b c
  bel : Below w0.heap.size w0 w
theorem FarC.below {w0 w w' : World} {a b c : List UInt8} (h : FarC w0 a b c w) (hb : Below w.heap.size w w') : FarC w0 a b c w' := ⟨h.held.below hb, h.bel.trans (hb.mono h.bel.size)⟩
theorem FarC.drew {w0 w : World} {a b c : List UInt8} (h : FarC w0 a b c w) : FarC w0 a b c w.drew := ⟨h.held.drew, below_drewN h.bel 1⟩

set_option maxRecDepth 100000 in
set_option maxHeartbeats 4000000 in
theorem Far_walk (a b c : List UInt8) (ha : a.length = 20) (hb : b.length = 20) (hc : c.length = 20) (w : World) :
    Calls Try.prog 7 #[.agg (bytesV a).toArray, .agg (bytesV b).toArray, .agg (bytesV c).toArray] w fun e w' => e = .returned (.bool true) ∧ Below w.heap.size w w' := by
  have sa := bytes_size ha
  have sb := bytes_size hb
  have sc := bytes_size hc
  have hr : Held3 (((w.alloc (.cells (bytesV a).toArray 32)).alloc (.cells (bytesV b).toArray 32)).alloc (.cells (bytesV c).toArray 32)) w.heap.size (w.heap.size + 1) (w.heap.size + 1 + 1) a b c := ⟨BB.alloc (BB.alloc (l := a) (heap_alloc_new _ _) _) _, BB.alloc (heap_alloc2_new _ _ _) _, by
    have := heap_alloc_new ((w.alloc (.cells (bytesV a).toArray 32)).alloc (.cells (bytesV b).toArray 32)) (.cells (bytesV c).toArray 32)
    rw [World.size_alloc, World.size_alloc] at this
    exact this⟩
  have hbw : Below w.heap.size w (((w.alloc (.cells (bytesV a).toArray 32)).alloc (.cells (bytesV b).toArray 32)).alloc (.cells (bytesV c).toArray 32)) := (((Below.refl _ _).alloc (Nat.le_refl _) _).alloc (by simp) _).alloc (by simp; omega) _
  have HC : Hid (FarC w a b c (((w.alloc (.cells (bytesV a).toArray 32)).alloc (.cells (bytesV b).toArray 32)).alloc (.cells (bytesV c).toArray 32))) := Lib.hid ⟨hr, hbw⟩
  clear hr hbw
  have hxab : (xorB a b).length = 20 := by rw [xorB_length a b (by omega), ha]
  have hxbc : (xorB b c).length = 20 := by rw [xorB_length b c (by omega), hb]
  have h2 := two_least a b c (by omega) (by omega)
  have haA : Hid (IsAgg Try.prog 32 (bytesV a).length) := Lib.hid (by rw [bytes_len ha]; exact aggID)
  have haB : Hid (IsAgg Try.prog 32 (bytesV b).length) := Lib.hid (by rw [bytes_len hb]; exact aggID)
  have haC : Hid (IsAgg Try.prog 32 (bytesV c).length) := Lib.hid (by rw [bytes_len hc]; exact aggID)
  go_enter Try.func7, Try.ntmps7
  go_wp2_with fail
  generalize (((w.alloc (.cells (bytesV a).toArray 32)).alloc (.cells (bytesV b).toArray 32)).alloc (.cells (bytesV c).toArray 32)) = W3 at *
  refine wp_region_quietC (FarC w a b c) (by kernel_rfl) (by kernel_rfl) HC.out.drew ?_
  repeat (first
    | (refine wpQuiet_load (by rfl) _ _ rfl _ rfl (bytesV a) (fun w h => h.held.a.row) haA.out ?_)
    | (refine wpQuiet_load (by rfl) _ _ rfl _ rfl (bytesV b) (fun w h => h.held.b.row) haB.out ?_)
    | (refine wpQuiet_load (by rfl) _ _ rfl _ rfl (bytesV c) (fun w h => h.held.c.row) haC.out ?_)
    | (refine wpQuiet_step (fun K hK => ?_); go_simp
       first
         | (refine hK _ ?_; clear hK K)
         | (apply Exists.intro
            refine ⟨fun w hw => ?_, hK _ ?_⟩
            first
              | with_reducible rfl
              | (go_at_call 28; refine (ident_Prefix _ _ (by assumption) (by assumption) _).mono ?_; rintro e w' ⟨rfl, hbx⟩; exact ⟨rfl, FarC.below hw hbx⟩)
            clear hK K)))
  refine wpQuiet_nil ?_
  intro w1 hC1
  have HC1 := Lib.hid hC1
  clear hC1 HC
  have hp1 := prefB_le (xorB a b)
  have hq1 := prefB_le (xorB b c)
  have hr1 := prefB_le (xorB a c)
  rw [hxab] at hp1
  rw [hxbc] at hq1
  rw [xorB_length a c (by omega), ha] at hr1
  generalize prefB (xorB a b) = p at *
  generalize prefB (xorB b c) = q at *
  generalize prefB (xorB a c) = r at *
  have h3 : (p = q ∧ (p : Int) ≤ (r : Int)) ∨ (q = r ∧ (q : Int) < (p : Int)) ∨ (p = r ∧ (p : Int) < (q : Int)) := by omega
  clear h2
  have hz20 : ∀ w, (binOp .eql 32 (.agg (bytesV (xorB a b)).toArray) (.agg #[.int .u8 0, .int .u8 0, .int .u8 0, .int .u8 0, .int .u8 0, .int .u8 0, .int .u8 0, .int .u8 0, .int .u8 0, .int .u8 0, .int .u8 0, .int .u8 0, .int .u8 0, .int .u8 0, .int .u8 0, .int .u8 0, .int .u8 0, .int .u8 0, .int .u8 0, .int .u8 0])).run Try.prog w = .ok (.bool (decide (a = b))) w := fun w => by
    have h := eql_ID w (xorB a b) (List.replicate 20 0) hxab (by simp)
    rw [show decide (xorB a b = List.replicate 20 0) = decide (a = b) from decide_eq_decide.2 (by rw [← ha]; exact xorB_zero a b (by omega))] at h
    exact h
  have hab : ∀ w, (binOp .eql 32 (.agg (bytesV a).toArray) (.agg (bytesV b).toArray)).run Try.prog w = .ok (.bool (decide (a = b))) w := fun w => eql_ID w a b ha hb
  generalize decide (a = b) = eab at *
  have hcomm : ∀ w, (binOp .eql 32 (.agg (bytesV (xorB a b)).toArray) (.agg (bytesV (xorB b a)).toArray)).run Try.prog w = .ok (.bool true) w := fun w => by
    have h := eql_ID w (xorB a b) (xorB b a) hxab (by rw [xorB_comm]; exact hxab)
    rw [decide_eq_true (xorB_comm a b)] at h
    exact h
  have hthree : ∀ w, (binOp .eql 32 (.agg (bytesV (xorB (xorB a b) (xorB b c))).toArray) (.agg (bytesV (xorB a c)).toArray)).run Try.prog w = .ok (.bool true) w := fun w => by
    have h3 := xorB_three a b c (by omega) (by omega)
    have hl := xorB_length a c (by omega)
    have h := eql_ID w (xorB (xorB a b) (xorB b c)) (xorB a c) (by rw [h3, hl, ha]) (by rw [hl, ha])
    rw [decide_eq_true h3] at h
    exact h
  have cb := cmp_bounds b a
  have cn := cmp_neg a b
  generalize hm : Lib.compareBytes a b = m at *
  generalize hn : Lib.compareBytes b a = n at *
  have hmn : m = -n := by omega
  subst hmn
  have cb1 := cb.1
  have cb2 := cb.2
  clear cb cn
  have hw1 : IntKind.i64.wrap (0 - n) = -n := by rw [IntKind.wrap_i64]; omega
  have hw2 : IntKind.i64.wrap (-n) = -n := by rw [IntKind.wrap_i64]; omega
  have HMm := Lib.hid hm
  have HNn := Lib.hid hn
  clear hm hn
  rcases h3 with ⟨rfl, h2⟩ | ⟨rfl, h2⟩ | ⟨rfl, h2⟩
  all_goals
    go_wp2_with fail
    refine wp_region_quietC (FarC w a b c) (by kernel_rfl) (by kernel_rfl) HC1.out.drew ?_
    repeat (first
      | (refine wpQuiet_load (by rfl) _ _ rfl _ rfl (bytesV a) (fun w h => h.held.a.row) haA.out ?_)
      | (refine wpQuiet_load (by rfl) _ _ rfl _ rfl (bytesV b) (fun w h => h.held.b.row) haB.out ?_)
      | (refine wpQuiet_load (by rfl) _ _ rfl _ rfl (bytesV c) (fun w h => h.held.c.row) haC.out ?_)
      | (refine wpQuiet_step (fun K hK => ?_); go_simp
         first
           | (refine hK _ ?_; clear hK K)
           | (apply Exists.intro
              refine ⟨fun w hw => ?_, hK _ ?_⟩
              first
                | with_reducible rfl
                | (go_at_call 29; refine (ident_Xor _ _ (by first | assumption | (rw [xorB_comm]; assumption)) (by first | assumption | (rw [xorB_comm]; assumption)) _).mono ?_; rintro e w' ⟨rfl, hbx⟩; exact ⟨rfl, FarC.below hw hbx⟩)
                | (go_at_call 30; refine (ident_Cmp a b ha hb _).mono ?_; rintro e w' ⟨rfl, hbx⟩; exact ⟨by rw [HMm.out], FarC.below hw hbx⟩)
                | (go_at_call 30; refine (ident_Cmp b a hb ha _).mono ?_; rintro e w' ⟨rfl, hbx⟩; exact ⟨by rw [HNn.out], FarC.below hw hbx⟩)
                | (go_at_call 31; refine (lives03 _).mono ?_; rintro e w' ⟨rfl, hbx⟩; exact ⟨rfl, FarC.below hw hbx⟩)
              clear hK K)))
  all_goals
    refine wpQuiet_nil ?_
    intro w2 hC2
    have HC2 := Lib.hid hC2
    clear hC2
    go_wp2_with fail
    go_ret
    exact ⟨rfl, HC2.out.bel⟩
end Go.Proofs.Ytjdmbegmbffhfaa
