/-
  The law's own 'lives' for metric: the chapter's example. Conditions: none.
-/
import Derived.Test.YtgdiajhegmdfgaaMetC
import Derived.Great.Walk
namespace Go.Proofs.Ytgdiajhegmdfgaa
open Go.RowKit Go.Sort Go.Lib

/-- The id whose last byte is this number. -/
def idV (v : Int) : List UInt8 := List.replicate 19 0 ++ [UInt8.ofNat v.toNat]
theorem idV_length (v : Int) : (idV v).length = 20 := by simp [idV]

set_option maxRecDepth 100000 in
set_option maxHeartbeats 1000000 in
theorem lives04_id (v : Int) (h0 : 0 ≤ v) (h1 : v < 256) (w : World) :
    Calls Try.prog 50 #[.int .u8 v] w fun e w' => e = .returned (.agg (bytesV (idV v)).toArray) ∧ Below w.heap.size w w' := by
  obtain ⟨x, hx, hv⟩ : ∃ x : UInt8, (x.toNat : Int) = v ∧ UInt8.ofNat v.toNat = x := by
    refine ⟨UInt8.ofNat v.toNat, ?_, rfl⟩
    rw [UInt8.toNat_ofNat']
    omega
  have e : idV v = List.replicate 19 0 ++ [x] := by rw [idV, hv]
  rw [e]
  clear e hv h0 h1
  subst hx
  go_enter Try.func50, Try.ntmps50
  go_wp2_with (refine wpList_store_new (o := ⟨none, _, _, _, _, _⟩) rfl _ (.tmp 2) (.tmp 4) rfl _ _ rfl (bytesV (List.replicate 19 0 ++ [x])) rfl 20 (by kernel_rfl) rfl rfl (bytesV_one _) ?_)
  have hw2 : (w.alloc (.cells (bytesV (List.replicate 19 0 ++ [x])).toArray 34)).heap[w.heap.size]? = _ := heap_alloc_new _ _
  exact bodyPost_ret (results_cell_row Try.results50 _ _ w.heap.size _ _ _ _ rfl hw2 Try.underlying34 rfl (by kernel_rfl)) rfl ⟨rfl, (Below.refl _ _).alloc (Nat.le_refl _) _⟩

theorem nearS_unique (t : List UInt8) (ht : t.length = 20) (l l' : List Id20) (hp : l'.Perm l) (hs : l'.Pairwise fun x y => (!ltOf (nearC t) y x) = true) : nearS t l = l' := by
  have hS := near_swo t ht
  refine List.Perm.eq_of_pairwise (le := fun x y => (!ltOf (nearC t) y x) = true) ?_ ?_ hs ((List.mergeSort_perm _ _).trans hp.symm)
  · intro a b _ _ h1 h2
    simp only [Bool.not_eq_true'] at h1 h2
    exact near_total t ht a b h2 h1
  · refine List.pairwise_mergeSort ?_ ?_ l
    · intro a b c h1 h2
      simp only [Bool.not_eq_true'] at h1 h2 ⊢
      exact hS.ntrans c b a h2 h1
    · intro a b
      cases h1 : ltOf (nearC t) b a with
      | false => rfl
      | true =>
        cases h2 : ltOf (nearC t) a b with
        | false => rfl
        | true => have := hS.trans _ _ _ h1 h2; rw [hS.irrefl] at this; cases this

def id04 (v : Int) : Id20 := ⟨idV v, idV_length v⟩
theorem near04a : nearD (idV 0) #[id04 3, id04 1, id04 2, id04 1] = [id04 1, id04 2, id04 3] := by
  unfold nearD
  rw [show nearS (idV 0) (#[id04 3, id04 1, id04 2, id04 1] : Array Id20).toList = [id04 1, id04 1, id04 2, id04 3] from nearS_unique _ (idV_length 0) _ _ (by decide +kernel) (by decide +kernel)]
  decide +kernel
theorem near04b : nearD (idV 3) #[id04 0, id04 1, id04 2] = [id04 2, id04 1, id04 0] := by
  unfold nearD
  rw [show nearS (idV 3) (#[id04 0, id04 1, id04 2] : Array Id20).toList = [id04 2, id04 1, id04 0] from nearS_unique _ (idV_length 3) _ _ (by decide +kernel) (by decide +kernel)]
  decide +kernel

/-- A slice of ids, written out. -/
theorem wpList_build_ids {ops : Array Oper} {rest : List Oper} {o : Oper} {a : Act} {w : World} {Q : Exit → Act → World → Prop} (J : World → Prop) (hJ : ∀ w w', J w → Below w.heap.size w w' → J w') (hb : Hid (J w)) (hg : o.guard = none) (len : Nat) (parts : Array (Nat × Operand)) (ho : o.op = .buildSlice 28 len parts)
    (dst : Option Tmp) (hdst : o.dst = dst) (d : Array Id20) (hf : Try.prog.builtSlice 34 len (parts.map fun (i, x) => (i, a.eval x)).toList = some (idsV d))
    (h : ∀ w' g, Hid (IB w' g d) → Hid (J w') → wpList Try.prog ops Q rest (a.put dst (.slice (some ⟨g, 0, none⟩) len len)) w') : wpList Try.prog ops Q (o :: rest) a w :=
  Great.wpList_buildSliceTo hg _ _ len parts ho _ rfl dst hdst Try.underlying28 (idsV d) hf
    (h _ _ (Lib.hid (heap_alloc_new _ _)) (Lib.hid (hJ _ _ hb.out ((Below.refl _ _).alloc (Nat.le_refl _) _))))

theorem sort04a (w : World) (g : Nat) (h : IB w g #[id04 3, id04 1, id04 2, id04 1]) : Calls Try.prog 21 #[.agg (bytesV (idV 0)).toArray, .slice (some ⟨g, 0, none⟩) 4 4] w fun e w' =>
    ∃ ga, e = .returned (.slice (some ⟨ga, 0, none⟩) 3 4) ∧ Below w.heap.size w w' ∧ IB w' ga #[id04 1, id04 2, id04 3, noId] := by
  refine (metric_Sort (idV 0) (idV_length 0) (some ⟨g, 0, none⟩) #[id04 3, id04 1, id04 2, id04 1] 4 w h.idRow (fun a ha => by obtain rfl := Option.some.inj ha; exact h.lt) (by decide)).mono ?_
  rintro e w' ⟨he, hb, hi⟩
  rw [near04a] at he hi
  exact ⟨_, he, hb, hi⟩
theorem sort04b (w : World) (g : Nat) (h : IB w g #[id04 0, id04 1, id04 2]) : Calls Try.prog 21 #[.agg (bytesV (idV 3)).toArray, .slice (some ⟨g, 0, none⟩) 3 3] w fun e w' =>
    ∃ ga, e = .returned (.slice (some ⟨ga, 0, none⟩) 3 3) ∧ Below w.heap.size w w' ∧ IB w' ga #[id04 2, id04 1, id04 0] := by
  refine (metric_Sort (idV 3) (idV_length 3) (some ⟨g, 0, none⟩) #[id04 0, id04 1, id04 2] 3 w h.idRow (fun a ha => by obtain rfl := Option.some.inj ha; exact h.lt) (by decide)).mono ?_
  rintro e w' ⟨he, hb, hi⟩
  rw [near04b] at he hi
  exact ⟨_, he, hb, hi⟩

/-- The worlds behind the first call. -/
structure LiveA (w0 : World) (ga : Nat) (w : World) : Prop where
  a : IB w ga #[id04 1, id04 2, id04 3, noId]
  bel : Below w0.heap.size w0 w
theorem LiveA.below {w0 : World} {ga : Nat} (w w' : World) (h : LiveA w0 ga w) (hb : Below w.heap.size w w') : LiveA w0 ga w' := ⟨h.a.below hb, h.bel.trans (hb.mono h.bel.size)⟩
/-- The worlds of lives. -/
structure LiveC (w0 : World) (ga gb : Nat) (w : World) : Prop where
  a : IB w ga #[id04 1, id04 2, id04 3, noId]
  b : IB w gb #[id04 2, id04 1, id04 0]
  bel : Below w0.heap.size w0 w
theorem LiveC.below {w0 : World} {ga gb : Nat} (w w' : World) (h : LiveC w0 ga gb w) (hb : Below w.heap.size w w') : LiveC w0 ga gb w' := ⟨h.a.below hb, h.b.below hb, h.bel.trans (hb.mono h.bel.size)⟩
theorem LiveC.drew {w0 w : World} {ga gb : Nat} (h : LiveC w0 ga gb w) : LiveC w0 ga gb w.drew := ⟨h.a, h.b, below_drewN h.bel 1⟩

theorem lives04_idJ (J : World → Prop) (hJ : ∀ w w', J w → Below w.heap.size w w' → J w') : Hid (∀ (v : Int), 0 ≤ v → v < 256 → ∀ w, Hid (J w) → Calls Try.prog 50 #[.int .u8 v] w fun e w' => e = .returned (.agg (bytesV (idV v)).toArray) ∧ Hid (J w')) :=
  Lib.hid fun v h0 h1 w hb => (lives04_id v h0 h1 w).mono fun _ _ ⟨he, h⟩ => ⟨he, Lib.hid (hJ _ _ hb.out h)⟩

set_option maxRecDepth 100000 in
set_option maxHeartbeats 4000000 in
theorem lives04 (w0 : World) : Calls Try.prog 17 #[] w0 fun e w' => e = .returned (.bool true) ∧ Below w0.heap.size w0 w' := by
  have hJ1 : ∀ w w', Below w0.heap.size w0 w → Below w.heap.size w w' → Below w0.heap.size w0 w' := fun w w' h k => h.trans (k.mono h.size)
  have HJ1 := Lib.hid hJ1
  have HID := lives04_idJ (Below w0.heap.size w0) hJ1
  have hb0 : Hid (Below w0.heap.size w0 w0) := Lib.hid (Below.refl _ _)
  clear hJ1
  go_enter Try.func17, Try.ntmps17
  go_wp2_with (first
    | (go_at_call 50; refine (HID.out _ (by decide) (by decide) _ (by assumption)).mono ?_; rintro e w' ⟨rfl, hb⟩)
    | (refine wpList_build_ids (o := ⟨some 14, _, _, _, _, _⟩) (Below w0.heap.size w0) HJ1.out (by assumption) rfl _ _ rfl _ rfl #[id04 3, id04 1, id04 2, id04 1] (by kernel_rfl) ?_; intro w' g hib hbl))
  refine (sort04a _ g hib.out).mono ?_
  rintro e w1 ⟨ga, rfl, hb1, hi1⟩
  have hA : Hid (LiveA w0 ga w1) := Lib.hid ⟨hi1, HJ1.out _ _ hbl.out hb1⟩
  have HID2 := lives04_idJ (LiveA w0 ga) LiveA.below
  clear hb1 hi1 HID HJ1 hbl hib
  go_wp2_with (first
    | (go_at_call 50; refine (HID2.out _ (by decide) (by decide) _ (by assumption)).mono ?_; rintro e w' ⟨rfl, hb⟩)
    | (refine wpList_build_ids (o := ⟨some 24, _, _, _, _, _⟩) (LiveA w0 ga) LiveA.below (by assumption) rfl _ _ rfl _ rfl #[id04 0, id04 1, id04 2] (by kernel_rfl) ?_; intro w' g hib hbl))
  refine (sort04b _ _ hib.out).mono ?_
  rintro e w2 ⟨gb, rfl, hb2, hi2⟩
  have hC : Hid (LiveC w0 ga gb w2) := Lib.hid ⟨hbl.out.a.below hb2, hi2, (LiveA.below _ _ hbl.out hb2).bel⟩
  clear hb2 hi2 hbl hib
  have HG : Hid (∀ x : Id20, IsAgg Try.prog 34 (bytesV x.1).length) := Lib.hid (fun x => by rw [bytes_len x.2]; exact aggID)
  have hq : ∀ (v : Int) w, (binOp .eql 34 (.agg (bytesV (id04 v).1).toArray) (.agg (bytesV (idV v)).toArray)).run Try.prog w = .ok (.bool true) w := fun v w => by
    have h := eql_ID w (idV v) (idV v) (idV_length v) (idV_length v)
    rw [decide_eq_true rfl] at h
    exact h
  have q1 := hq 1
  have q3 := hq 3
  have q2 := hq 2
  have q0 := hq 0
  have HL := Lib.hid (fun v h0 h1 w => lives04_id v h0 h1 w)
  clear hq
  go_wp2_with fail
  refine wp_region_QL (LiveC w0 ga gb) (by kernel_rfl) (by kernel_rfl) hC.out.drew ?_
  repeat (first
    | (refine QL.load (o := ⟨some 32, _, _, _, _, _⟩) (by rfl) _ _ rfl _ rfl (bytesV (id04 1).1) (fun w h => h.a.rowAt (i := 0) (by decide) rfl rfl) (HG.out _) ?_)
    | (refine QL.load (o := ⟨some 40, _, _, _, _, _⟩) (by rfl) _ _ rfl _ rfl (bytesV (id04 3).1) (fun w h => h.a.rowAt (i := 2) (by decide) rfl rfl) (HG.out _) ?_)
    | (refine QL.load (o := ⟨some 53, _, _, _, _, _⟩) (by rfl) _ _ rfl _ rfl (bytesV (id04 2).1) (fun w h => h.b.rowAt (i := 0) (by decide) rfl rfl) (HG.out _) ?_)
    | (refine QL.load (o := ⟨some 61, _, _, _, _, _⟩) (by rfl) _ _ rfl _ rfl (bytesV (id04 0).1) (fun w h => h.b.rowAt (i := 2) (by decide) rfl rfl) (HG.out _) ?_)
    | (refine QL.step (fun K hK => ?_); go_simp
       first
         | (refine hK _ ?_; clear hK K)
         | (apply Exists.intro
            refine ⟨fun w hw => ?_, hK _ ?_⟩
            first
              | with_reducible rfl
              | (go_at_call 50; refine (HL.out _ (by decide) (by decide) _).mono ?_; rintro e w' ⟨rfl, hbx⟩; exact ⟨rfl, LiveC.below _ _ hw hbx⟩)
            clear hK K)))
  refine QL.nil ?_
  intro w3 hC3
  have HC3 := Lib.hid hC3
  clear hC3 hC
  go_wp2_with fail
  go_ret
  exact ⟨rfl, HC3.out.bel⟩
end Go.Proofs.Ytgdiajhegmdfgaa
