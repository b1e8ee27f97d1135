/-
  slices.Index, slices.Contains, slices.Clone over ids. Conditions: fewer than half a million ids.
-/
import Derived.Test.YtjdmbegmbffhfaaSrtC
import Derived.Lib.SliceRun
namespace Go.Proofs.Ytjdmbegmbffhfaa
open Go.RowKit Go.Sort Go.Lib

/-- A slice of no id, written out. -/
theorem wpList_empty_ids {sl T : TypeId} (h : IdTy sl T) {w : World} {ops : Array Oper} {rest : List Oper} {o : Oper} {a : Act} {Q : Exit → Act → World → Prop} (hgd : o.guard = none) (ho : o.op = .buildSlice sl 0 #[])
    (hK : wpList Try.prog ops Q rest (a.put o.dst (.slice (some ⟨w.heap.size, 0, none⟩) 0 0)) (w.alloc (.cells #[] T))) : wpList Try.prog ops Q (o :: rest) a w := by
  refine wpList_plain hgd fun _ hk => ?_
  obtain ⟨i, hi, hz, hs, hby⟩ := info_parts h.i
  have hr : (execOp a.eval o).run Try.prog w = .ok (.value (.slice (some ⟨w.heap.size, 0, none⟩) 0 0)) (w.alloc (.cells #[] T)) := by
    simp [execOp, ho, Instr.buildSlice, run_underlying h.u, sizeOf, typeInfo, hi, newRow, Instr.fill]
    have e : Array.range 0 = #[] := Array.eq_empty_of_size_eq_zero (by simp)
    rw [e, Array.map_empty]
  unfold Oper.wp
  rw [hr]
  exact hk _ _ hK

/-- The worlds of slices.Index. -/
structure IdxW (w0 : World) (p : Option Addr) (d : Array Id20) (B : Nat) (x : Id20) (w : World) : Prop where
  row : IdRow w p d
  box : Row w ⟨B, 0, none⟩ (bytesV x.1)
  bel : Below w0.heap.size w0 w
theorem IdxW.drew {w0 w : World} {p : Option Addr} {d : Array Id20} {B : Nat} {x : Id20} (h : IdxW w0 p d B x w) : IdxW w0 p d B x w.drew := ⟨⟨h.row.none_, h.row.row⟩, h.box, below_drewN h.bel 1⟩

theorem IdRow.aty {w : World} {ad : Addr} {d : Array Id20} (h : IdRow w (some ad) d) {k : Nat} {x : Id20} (hk : k < d.size) (hx : d[k]! = x) : Row w (ad.add (k * 20)) (bytesV x.1) := by
  rw [← hx]; exact h.at rfl hk

set_option maxRecDepth 100000 in
set_option maxHeartbeats 4000000 in
theorem slices_Index (p : Option Addr) (d : Array Id20) (cap : Nat) (x : Id20) (w : World) (hp : IdRow w p d) (hpb : ∀ a, p = some a → a.block < w.heap.size) (hn : d.size < 500000) :
    Calls Try.prog 101 #[.slice p d.size cap, .agg (bytesV x.1).toArray] w fun e w' => ∃ r : Int, e = .returned (.int .i64 r) ∧ (0 ≤ r ↔ x ∈ d.toList) ∧ Below w.heap.size w w' := by
  have sx := bytes_size x.2
  have HG : Hid (∀ x : Id20, IsAgg Try.prog 32 (bytesV x.1).length) := Lib.hid (fun x => by rw [bytes_len x.2]; exact aggID)
  have hb1 : Below w.heap.size w (w.alloc (.cells (bytesV x.1).toArray 32)) := (Below.refl _ _).alloc (Nat.le_refl _) _
  have HW : Hid (IdxW w p d w.heap.size x (w.alloc (.cells (bytesV x.1).toArray 32))) := Lib.hid ⟨hp.below hb1 hpb, Row.of_block (heap_alloc_new _ _), hb1⟩
  clear hp hpb hb1
  go_enter Try.func101, Try.ntmps101
  go_wp2_with fail
  go_loopw [8] (fun s8 wr => ∃ k : Nat, s8 = .int .i64 k ∧ k ≤ d.size ∧ Hid (IdxW w p d w.heap.size x wr) ∧ Hid (∀ j, j < k → d[j]! ≠ x)) (fun s8 _ => d.size - (intOf s8).toNat)
  case atStart => exact ⟨0, rfl, Nat.zero_le _, HW, Lib.hid (fun j hj => by omega)⟩
  case round =>
    clear HW
    obtain ⟨k, rfl, hk, HW, HN⟩ := hrel
    by_cases hlt : k < d.size
    · obtain ⟨ad, rfl⟩ := HW.out.row.some_of (by omega)
      obtain ⟨y, hy⟩ : ∃ y, d[k]! = y := ⟨_, rfl⟩
      have HY := Lib.hid hy
      have hk1 : (k : Int) < (d.size : Int) := by omega
      have hq : ∀ w, (binOp .eql 32 (.agg (bytesV x.1).toArray) (.agg (bytesV y.1).toArray)).run Try.prog w = .ok (.bool (decide (x.1 = y.1))) w := fun w => eql_ID w x.1 y.1 x.2 y.2
      clear hy
      by_cases hxy : x = y
      · subst hxy
        rw [decide_eq_true rfl] at hq
        go_wp2_with fail
        refine wp_region_QL (IdxW w (some ad) d w.heap.size x) (by kernel_rfl) (by kernel_rfl) HW.out.drew ?_
        repeat (first
          | (refine QL.load (o := ⟨some 11, _, _, _, _, _⟩) (by rfl) _ _ rfl _ rfl (bytesV x.1) (fun w h => h.box) (HG.out _) ?_)
          | (refine QL.load (o := ⟨some 15, _, _, _, _, _⟩) (by rfl) _ _ rfl _ rfl (bytesV x.1) (fun w h => h.row.aty hlt HY.out) (HG.out _) ?_)
          | (refine QL.step (fun K hK => ?_); go_simp
             first
               | (refine hK _ ?_; clear hK K)
               | (apply Exists.intro
                  refine ⟨fun w hw => ?_, hK _ ?_⟩
                  first
                    | with_reducible rfl
                  clear hK K)))
        refine QL.nil ?_
        intro w7 hC7
        clear HW
        have HW := Lib.hid hC7
        clear hC7
        go_wp2_with fail
        go_ret
        refine ⟨(k : Int), rfl, ⟨fun _ => ?_, fun _ => by omega⟩, HW.out.bel⟩
        rw [← HY.out, getElem!_pos _ k hlt]
        simp
      · have HXY : Hid (y ≠ x) := Lib.hid (fun e => hxy e.symm)
        rw [decide_eq_false (fun e => hxy (Subtype.ext e))] at hq
        clear hxy
        go_wp2_with fail
        refine wp_region_QL (IdxW w (some ad) d w.heap.size x) (by kernel_rfl) (by kernel_rfl) HW.out.drew ?_
        repeat (first
          | (refine QL.load (o := ⟨some 11, _, _, _, _, _⟩) (by rfl) _ _ rfl _ rfl (bytesV x.1) (fun w h => h.box) (HG.out _) ?_)
          | (refine QL.load (o := ⟨some 15, _, _, _, _, _⟩) (by rfl) _ _ rfl _ rfl (bytesV y.1) (fun w h => h.row.aty hlt HY.out) (HG.out _) ?_)
          | (refine QL.step (fun K hK => ?_); go_simp
             first
               | (refine hK _ ?_; clear hK K)
               | (apply Exists.intro
                  refine ⟨fun w hw => ?_, hK _ ?_⟩
                  first
                    | with_reducible rfl
                  clear hK K)))
        refine QL.nil ?_
        intro w7 hC7
        clear HW
        have HW := Lib.hid hC7
        clear hC7
        go_wp2_with fail
        go_roundw
        case rel =>
          refine ⟨k + 1, by go_num, by omega, HW, Lib.hid (fun j hj => ?_)⟩
          by_cases e : j = k
          · rw [e, HY.out]; exact HXY.out
          · exact HN.out j (by omega)
        case measure => simp [intOf]; omega
    · have hk2 : k = d.size := by omega
      subst hk2
      go_wp2_with fail
      go_ret
      refine ⟨-1, rfl, ⟨fun h => absurd h (by decide), fun h => ?_⟩, HW.out.bel⟩
      obtain ⟨i, hi, e⟩ := List.mem_iff_getElem.1 h
      have hi' : i < d.size := by simpa using hi
      exact absurd (by rw [getElem!_pos _ i hi']; simpa using e) (HN.out i hi')

set_option maxRecDepth 100000 in
set_option maxHeartbeats 2000000 in
theorem slices_Contains (p : Option Addr) (d : Array Id20) (cap : Nat) (x : Id20) (w : World) (hp : IdRow w p d) (hpb : ∀ a, p = some a → a.block < w.heap.size) (hn : d.size < 500000) :
    Calls Try.prog 80 #[.slice p d.size cap, .agg (bytesV x.1).toArray] w fun e w' => e = .returned (.bool (decide (x ∈ d.toList))) ∧ Below w.heap.size w w' := by
  have sx := bytes_size x.2
  have HG : Hid (IsAgg Try.prog 32 (bytesV x.1).length) := Lib.hid (by rw [bytes_len x.2]; exact aggID)
  have hb1 : Below w.heap.size w (w.alloc (.cells (bytesV x.1).toArray 32)) := (Below.refl _ _).alloc (Nat.le_refl _) _
  have i1 : Hid (Row (w.alloc (.cells (bytesV x.1).toArray 32)) ⟨w.heap.size, 0, none⟩ (bytesV x.1)) := Lib.hid (Row.of_block (heap_alloc_new _ _))
  have HI := Lib.hid (slices_Index p d cap x _ (hp.below hb1 hpb) (fun a ha => Nat.lt_of_lt_of_le (hpb a ha) hb1.size) hn)
  have HB1 := Lib.hid hb1
  clear hp hpb hb1
  go_enter Try.func80, Try.ntmps80
  go_wp2_with ((with_reducible show wpList _ _ _ (⟨some 6, _, _, _, _, _⟩ :: _) _ _); refine wpList_load_agg (o := ⟨some 6, _, _, _, _, _⟩) rfl _ (.tmp 3) rfl _ rfl (bytesV x.1) i1.out HG.out ?_)
  refine HI.out.mono ?_
  rintro e w1 ⟨r, rfl, hr, hb2⟩
  have HB : Hid (Below w.heap.size w w1) := Lib.hid (HB1.out.trans (hb2.mono HB1.out.size))
  have HD : Hid (decide (x ∈ d.toList) = decide (0 ≤ r)) := Lib.hid (decide_eq_decide.2 hr.symm)
  clear hr hb2
  go_wp2_with fail
  go_ret
  exact ⟨by rw [HD.out]; rfl, HB.out⟩

set_option maxRecDepth 100000 in
set_option maxHeartbeats 2000000 in
theorem slices_Clone (p : Option Addr) (d : Array Id20) (cap : Nat) (w : World) (hp : IdRow w p d) (hpb : ∀ a, p = some a → a.block < w.heap.size) (hcap : p = none → cap = 0) (hn : d.size < 500000) :
    Calls Try.prog 79 #[.slice p d.size cap] w fun e w' => ∃ v, e = .returned v ∧ OwnIds 32 w' w.heap.size v d ∧ Below w.heap.size w w' := by
  have HG : Hid (IdRow w p d) := Lib.hid hp
  have e1 : Hid (OwnIds 32 (w.alloc (.cells #[] 32)) w.heap.size (.slice (some ⟨w.heap.size, 0, none⟩) 0 0) #[]) := Lib.hid ⟨by rw [idsV_len], Or.inr ⟨w.heap.size, 0, #[], rfl, Nat.le_refl _, heap_alloc_new _ _, Nat.le_refl _, by simp [maxLen], rfl, by rw [idsV_nil]; rfl⟩⟩
  have hb1 : Below w.heap.size w (w.alloc (.cells #[] 32)) := (Below.refl _ _).alloc (Nat.le_refl _) _
  have e2 : Hid (IdRow (w.alloc (.cells #[] 32)) p d) := Lib.hid (hp.below hb1 hpb)
  have HB1 := Lib.hid hb1
  have HN := Lib.hid hn
  cases p with
  | none =>
    have hd0 : d = #[] := HG.out.none_ rfl
    have hc0 : cap = 0 := hcap rfl
    subst hd0 hc0
    clear hp hpb hb1 hcap
    have hq : ∀ w, (binOp .eql 78 (.slice none 0 0) (.slice none 0 0)).run Try.prog w = .ok (.bool true) w := fun w => Lib.run_eql_slice_nil w _ _ none 0 0 0 0 Try.underlying78
    go_enter Try.func79, Try.ntmps79
    go_wp2_with fail
    go_ret
    exact ⟨_, rfl, OwnIds.nil _ _ _, Below.refl _ _⟩
  | some ad =>
    clear hp hpb hb1 hcap
    have hq : ∀ w, (binOp .eql 78 (.slice (some ad) d.size cap) (.slice none 0 0)).run Try.prog w = .ok (.bool false) w := fun w => Lib.run_eql_slice_nil w _ _ (some ad) d.size cap 0 0 Try.underlying78
    go_enter Try.func79, Try.ntmps79
    go_wp2_with (first
      | ((with_reducible show wpList _ _ _ (⟨some 5, _, _, _, _, _⟩ :: _) _ _); refine wpList_empty_ids idTyA (o := ⟨some 5, _, _, _, _, _⟩) rfl rfl ?_)
      | ((with_reducible show wpList _ _ _ (⟨some 7, _, _, _, _, _⟩ :: _) _ _)
         refine wpList_append_ids idTyA (o := ⟨some 7, _, _, _, _, _⟩) rfl (.tmp 5) (.tmp 6) rfl w.heap.size _ #[] d (by rfl) e1.out (some ad) cap (by rfl) e2.out (by have := HN.out; simp; omega) HB1.out.size ?_
         intro v' w' hown hbel))
    go_ret
    exact ⟨_, rfl, by simpa using hown, HB1.out.trans hbel⟩
end Go.Proofs.Ytjdmbegmbffhfaa
