/-
  What sha.eat computes. Conditions: 64 bytes stand in the slice's cells.
-/
import Derived.Test.YtgdiajhegmdfgaaShaD
import Derived.Deep.DeepCutAuto
import Derived.Deep.AppendLies
namespace Go.Proofs.Ytgdiajhegmdfgaa
open Go.RowKit

/-- The words and the window behind k rounds. -/
def eatV (h : Nat → Nat) (l : List UInt8) : Nat → (Nat → Nat) × (Nat → Nat)
  | 0 => (h, ldw l)
  | k + 1 => (vnext (eatV h l k).1 (eatV h l k).2 k, wsn (eatV h l k).2 k)
def eatH (h : Nat → Nat) (l : List UInt8) (j : Nat) : Nat := (h j + (eatV h l 80).1 j) % 4294967296
def eatK (h : Nat → Nat) (l : List UInt8) (k j : Nat) : Nat := if j < k then eatH h l j else h j

theorem vnext_lt (v ws : Nat → Nat) (i : Nat) (hv : ∀ j, v j < 4294967296) (j : Nat) : vnext v ws i j < 4294967296 := by
  unfold vnext
  split
  · exact Nat.mod_lt _ (by omega)
  split
  · exact hv 0
  split
  · exact rotl_lt 30 _ (hv 1)
  split
  · exact hv 2
  · exact hv 3
theorem eatV_lt (h : Nat → Nat) (l : List UInt8) (hh : ∀ j, h j < 4294967296) : ∀ k, (∀ j, (eatV h l k).1 j < 4294967296) ∧ (∀ j, (eatV h l k).2 j < 4294967296)
  | 0 => ⟨hh, ldw_lt l⟩
  | k + 1 => ⟨fun j => vnext_lt _ _ _ (eatV_lt h l hh k).1 j, fun j => wsn_lt _ (eatV_lt h l hh k).2 k j⟩
theorem eatH_lt (h : Nat → Nat) (l : List UInt8) (j : Nat) : eatH h l j < 4294967296 := Nat.mod_lt _ (by omega)

section
variable {P : Program} {w : World}
/-- A whole aggregate is stored into the block that was laid last, its number told. -/
theorem wpList_store_new2 {ops : Array Oper} {rest : List Oper} {o : Oper} {a : Act} {Q : Exit → Act → World → Prop} (hgd : o.guard = none) (ty : TypeId) (x y : Operand) (ho : o.op = .store ty x y)
    (z : Array Value) (t : TypeId) (g : Nat) (hx : a.eval x = .pointer (some ⟨g, 0, none⟩)) (hgw : g = w.heap.size) (cs : List Value) (hy : a.eval y = .agg cs.toArray) (n : Nat) (hn : (P.info? ty).map (·.size) = some n) (hl : cs.length = n) (hz : z.size = n) (h1 : ∀ v ∈ cs, v.oneCell' = true)
    (h : wpList P ops Q rest (a.put o.dst undef) (w.alloc (.cells cs.toArray t))) : wpList P ops Q (o :: rest) a (w.alloc (.cells z t)) := by
  subst hgw
  exact wpList_store_new hgd ty x y ho z t hx cs hy n hn hl hz h1 h
end

theorem Words.alloc {n : Nat} {T : TypeId} {w : World} {b : Nat} {ws : Nat → Nat} (h : Words n T w b ws) (o : Obj) : Words n T (w.alloc o) b ws := (heap_alloc_old w o h.lt).trans h
theorem Words.new {n : Nat} {T : TypeId} {w : World} {ws : Nat → Nat} : Words n T (w.alloc (.cells (wcells n ws).toList.toArray T)) w.heap.size ws := heap_alloc_new w _

set_option maxRecDepth 100000 in
set_option maxHeartbeats 1000000 in
theorem eat_any (h : Nat → Nat) (hh : ∀ j, h j < 4294967296) (A : Option Addr) (cap : Nat) (l : List UInt8) (w : World) (hb : Bytes w A l) (hlen : l.length = 64) (hcap : 64 ≤ cap) (hl : cap ≤ maxLen) :
    Calls Try.prog 79 #[.agg (wcells 5 h), .slice A 64 cap] w fun e w' => e = .returned (.agg (wcells 5 (eatH h l))) ∧ Below w.heap.size w w' := by
  have ld := fun (w : World) (hb : Bytes w A l) => load_any A cap l w hb hlen hcap hl
  have LD := Lib.hid ld
  have HB := Lib.hid hb
  have hs5 : (wcells 5 h).size = 5 := wcells_size _ _
  clear ld hb
  go_enter Try.func79, Try.ntmps79
  go_wp2_with fail
  have hz5 : (#[.int .u32 0, .int .u32 0, .int .u32 0, .int .u32 0, .int .u32 0] : Array Value) = wcells 5 (fun _ => 0) := rfl
  rw [hz5]
  have f1 : Words 5 100 ((w.alloc (.cells (wcells 5 h) 100)).alloc (.cells (wcells 5 (fun _ => 0)) 100)) w.heap.size h :=
    (heap_alloc_old _ _ (by simp)).trans (heap_alloc_new _ _)
  have f2 : Words 5 100 ((w.alloc (.cells (wcells 5 h) 100)).alloc (.cells (wcells 5 (fun _ => 0)) 100)) (w.heap.size + 1) (fun _ => 0) := by
    have := heap_alloc_new (w.alloc (.cells (wcells 5 h) 100)) (.cells (wcells 5 (fun _ => 0)) 100)
    rw [World.size_alloc] at this
    exact this
  have f3 : Below w.heap.size w ((w.alloc (.cells (wcells 5 h) 100)).alloc (.cells (wcells 5 (fun _ => 0)) 100)) := ((Below.refl _ _).alloc (Nat.le_refl _) _).alloc (by simp) _
  generalize ((w.alloc (.cells (wcells 5 h) 100)).alloc (.cells (wcells 5 (fun _ => 0)) 100)) = w1 at *
  refine (LD.out _ (HB.out.below f3)).mono ?_; rintro e w2 ⟨rfl, hb2⟩
  have F1 := Lib.hid (Words.far (S := fun _ => False) f1 (Only.of_below (S := fun _ => False) hb2) id)
  have F2 := Lib.hid (Words.far (S := fun _ => False) f2 (Only.of_below (S := fun _ => False) hb2) id)
  have F3 := Lib.hid (f3.trans (hb2.mono f3.size))
  clear f1 f2 f3 hb2 hz5
  have ha5 : IsAgg Try.prog 100 (wcells 5 h).toList.length := by rw [wcells_len]; exact agg5
  go_wp2_with (first
    | refine wpList_store_new (o := ⟨none, _, _, _, _, _⟩) rfl _ (.tmp 5) (.tmp 11) rfl _ _ rfl (wcells 16 (ldw l)).toList rfl 16 (by kernel_rfl) (wcells_len _ _) rfl (wcells_one _ _) ?_
    | refine wpList_load_agg (o := ⟨some 12, _, _, _, _, _⟩) rfl _ (.tmp 2) rfl _ rfl (wcells 5 h).toList (Words.row (Words.alloc F1.out _)) ha5 ?_
    | refine wpList_store_new2 (o := ⟨none, _, _, _, _, _⟩) rfl _ (.tmp 6) (.tmp 12) rfl _ _ _ rfl (World.size_alloc _ _).symm (wcells 5 h).toList rfl 5 (by kernel_rfl) (wcells_len _ _) rfl (wcells_one _ _) ?_)
  have hlt2 : w.heap.size + 1 < w2.heap.size := Words.lt F2.out
  have i1 : Hid (Words 5 100 ((w2.alloc (.cells (wcells 16 (ldw l)) 115)).alloc (.cells (wcells 5 h) 100)) w.heap.size h) := Lib.hid ((Words.alloc F1.out _).alloc _)
  have i2 : Hid (Words 5 100 ((w2.alloc (.cells (wcells 16 (ldw l)) 115)).alloc (.cells (wcells 5 h) 100)) (w.heap.size + 1) (fun _ => 0)) := Lib.hid ((Words.alloc F2.out _).alloc _)
  have i3 : Hid (Words 16 115 ((w2.alloc (.cells (wcells 16 (ldw l)) 115)).alloc (.cells (wcells 5 h) 100)) w2.heap.size (ldw l)) := Lib.hid (Words.alloc (heap_alloc_new _ _) _)
  have i4 : Hid (Words 5 100 ((w2.alloc (.cells (wcells 16 (ldw l)) 115)).alloc (.cells (wcells 5 h) 100)) (w2.heap.size + 1) h) := Lib.hid (by
    have := heap_alloc_new (w2.alloc (.cells (wcells 16 (ldw l)) 115)) (.cells (wcells 5 h) 100)
    rw [World.size_alloc] at this
    exact this)
  have i5 : Hid (Below w.heap.size w ((w2.alloc (.cells (wcells 16 (ldw l)) 115)).alloc (.cells (wcells 5 h) 100))) := Lib.hid ((F3.out.alloc (by omega) _).alloc (by simp; omega) _)
  generalize ((w2.alloc (.cells (wcells 16 (ldw l)) 115)).alloc (.cells (wcells 5 h) 100)) = w3 at *
  clear F1 F2 F3 LD HB ha5
  have ev := eatV_lt h l hh
  have EV := Lib.hid ev
  clear ev
  generalize w2.heap.size = bx at *
  go_loopw [14] (fun i wr => ∃ k : Nat, i = .int .i64 k ∧ k ≤ 80 ∧ Hid (Words 5 100 wr w.heap.size h) ∧ Hid (Words 5 100 wr (w.heap.size + 1) (fun _ => 0)) ∧ Hid (Words 16 115 wr bx (eatV h l k).2) ∧ Hid (Words 5 100 wr (bx + 1) (eatV h l k).1) ∧ Hid (Below w.heap.size w wr)) (fun i _ => 80 - (intOf i).toNat)
  case atStart => exact ⟨0, rfl, by omega, i1, i2, i3, i4, i5⟩
  case round =>
    obtain ⟨k, rfl, hk, j1, j2, j3, j4, j5⟩ := hrel
    clear i1 i2 i3 i4 i5
    by_cases hlt : k < 80
    · have R := Lib.hid (eat1 k hlt (bx + 1) bx (by omega) (eatV h l k).1 (eatV h l k).2 (EV.out k).1 (EV.out k).2 wr j4.out j3.out)
      go_wp2_with fail
      refine R.out.mono ?_; rintro e w4 ⟨rfl, q1, q2, q3⟩
      have J1 := Lib.hid (Words.far (S := fun k => k = bx + 1 ∨ k = bx) j1.out q3 (by omega))
      have J2 := Lib.hid (Words.far (S := fun k => k = bx + 1 ∨ k = bx) j2.out q3 (by omega))
      have J5 := Lib.hid (j5.out.trans (Only.below q3 j5.out.size fun k hk => by omega))
      have Q1 := Lib.hid q1
      have Q2 := Lib.hid q2
      clear j1 j2 j3 j4 j5 q1 q2 q3
      go_wp2_with fail
      go_roundw
      case rel => exact ⟨k + 1, by go_num, by omega, J1, J2, Q2, Q1, J5⟩
      case measure => simp [intOf]; omega
    · have e80 : k = 80 := by omega
      rw [e80] at j4
      have hge : (80 : Int) ≤ (k : Int) := by omega
      obtain ⟨k0, rfl⟩ : ∃ k0 : Nat, k0 = k := ⟨_, rfl⟩
      clear e80
      obtain ⟨wo, rfl⟩ : ∃ wo : World, wo = wr := ⟨_, rfl⟩
      go_wp2_with fail
      clear j3
      go_loopw [21] (fun i wr => ∃ k : Nat, i = .int .i64 k ∧ k ≤ 5 ∧ Hid (Words 5 100 wr w.heap.size (eatK h l k)) ∧ Hid (Words 5 100 wr (w.heap.size + 1) (fun _ => 0)) ∧ Hid (Words 5 100 wr (bx + 1) (eatV h l 80).1) ∧ Hid (Below w.heap.size w wr)) (fun i _ => 5 - (intOf i).toNat)
      case atStart => exact ⟨0, rfl, by omega, j1, j2, j4, j5⟩
      case round =>
        obtain ⟨k, rfl, hk, j1, j2, j4, j5⟩ := hrel
        by_cases hlt : k < 5
        · have hek : eatK h l k k = h k := if_neg (by omega)
          have c1 := j1.out.cell k hlt
          rw [hek] at c1
          have c2 := j4.out.cell k hlt
          have hz := j1.out.free k
          have hk5 : (k : Int) < 5 := by omega
          obtain ⟨v, hv⟩ : ∃ v, (eatV h l 80).1 k = v := ⟨_, rfl⟩
          rw [hv] at c2
          have e1 := wrap_u32 (h k) v
          obtain ⟨s, hs⟩ : ∃ s, (h k + v) % 4294967296 = s := ⟨_, rfl⟩
          rw [hs] at e1
          have hes : Hid (s = eatH h l k) := Lib.hid (by rw [← hs, ← hv]; rfl)
          clear hs hv hek
          go_wp2_with fail
          go_still_tail 7, (by kernel_rfl)
          change wpList _ _ _ _ _ wr.drew
          go_wp2_with fail
          go_roundw
          case rel =>
            have hu : upd (eatK h l k) k s = eatK h l (k + 1) := by
              funext j
              unfold upd eatK
              by_cases hj : j = k
              · subst hj; rw [if_pos rfl, if_pos (by omega)]; exact hes.out
              · rw [if_neg hj]
                by_cases hj2 : j < k
                · rw [if_pos hj2, if_pos (by omega)]
                · rw [if_neg hj2, if_neg (by omega)]
            refine ⟨k + 1, by go_num, by omega, Lib.hid ?_, Lib.hid ?_, Lib.hid ?_, Lib.hid ?_⟩
            · rw [← hu]; exact Words.set_ (w := wr) j1.out k s
            · exact Words.far (S := (· = w.heap.size)) j2.out ((Only.set_ wr w.heap.size k (.int .u32 (s : Int))).drewN 1) (by omega)
            · exact Words.far (S := (· = w.heap.size)) j4.out ((Only.set_ wr w.heap.size k (.int .u32 (s : Int))).drewN 1) (by omega)
            · exact below_drewN (Below.setCell (p := ⟨w.heap.size, k, none⟩) j5.out (Nat.le_refl _) (.int .u32 (s : Int))) 1
          case measure => simp [intOf]; omega
        · obtain rfl : k = 5 := by omega
          have ha5 : IsAgg Try.prog 100 (wcells 5 (eatK h l 5)).toList.length := by rw [wcells_len]; exact agg5
          go_wp2_with (refine wpList_load_agg (o := ⟨some 33, _, _, _, _, _⟩) rfl _ (.tmp 2) rfl _ rfl (wcells 5 (eatK h l 5)).toList (Words.row j1.out) ha5 ?_
                       refine wpList_store_row (o := ⟨none, _, _, _, _, _⟩) rfl _ (.tmp 4) (.tmp 33) rfl (w.heap.size + 1) rfl (wcells 5 (eatK h l 5)).toList rfl _ _ j2.out 5 (by kernel_rfl) (wcells_len _ _) (wcells_size _ _) (wcells_one _ _) ?_)
          have hw2 : Words 5 100 (wr.setRow (w.heap.size + 1) (wcells 5 (eatK h l 5)).toList.toArray) (w.heap.size + 1) (eatK h l 5) := Words.setRow j2.out _
          refine bodyPost_ret (results_cell_row Try.results79 _ _ (w.heap.size + 1) _ _ _ _ rfl hw2 Try.underlying100 rfl (by kernel_rfl)) rfl ⟨?_, ?_⟩
          · rw [wcells_congr 5 (eatK h l 5) (eatH h l) fun j hj => if_pos hj]
          · exact j5.out.trans (Only.below (S := (· = w.heap.size + 1)) (Only.setRow _ _ _) j5.out.size fun k hk => by omega)
end Go.Proofs.Ytgdiajhegmdfgaa
