/-
  metric.Insert. Conditions: the ids are twenty bytes; fewer than half a million of them.
-/
import Derived.Test.YtjdmbegmbffhfaaLstA
import Derived.Test.YtjdmbegmbffhfaaLstB
import Derived.Test.YtjdmbegmbffhfaaLstE
namespace Go.Proofs.Ytjdmbegmbffhfaa
open Go.RowKit Go.Sort Go.Lib

def opsI : List Oper := [{ dst := some 11, op := Op.load 32 (Operand.tmp 4), type := 32, pos := "metric.go:46", after := #[], guard := none }, { dst := some 12, op := Op.move (Operand.tmp 1), type := 78, pos := "metric.go:46", after := #[], guard := none }, { dst := some 13, op := Op.call { callee := Callee.value (Operand.func 79), args := #[Operand.tmp 12], argTypes := #[78] }, type := 78, pos := "metric.go:46", after := #[{ on := 1, ground := Ground.data }], guard := none }, { dst := some 14, op := Op.load 32 (Operand.tmp 6), type := 32, pos := "metric.go:46", after := #[], guard := none }, { dst := some 15, op := Op.buildSlice 78 1 #[(0, Operand.tmp 14)], type := 78, pos := "metric.go:46", after := #[{ on := 3, ground := Ground.data }], guard := none }, { dst := some 16, op := Op.call { callee := Callee.builtin Builtin.append, args := #[Operand.tmp 13, Operand.tmp 15], argTypes := #[78, 78] }, type := 78, pos := "metric.go:46", after := #[{ on := 2, ground := Ground.data }, { on := 4, ground := Ground.data }, { on := 2, ground := Ground.chain }], guard := none }, { dst := some 17, op := Op.move (Operand.tmp 3), type := 3, pos := "metric.go:46", after := #[], guard := none }, { dst := some 18, op := Op.call { callee := Callee.value (Operand.func 55), args := #[Operand.tmp 11, Operand.tmp 16, Operand.tmp 17], argTypes := #[32, 78, 3] }, type := 78, pos := "metric.go:46", after := #[{ on := 0, ground := Ground.data }, { on := 5, ground := Ground.data }, { on := 6, ground := Ground.data }, { on := 5, ground := Ground.chain }], guard := none }, { dst := some 10, op := Op.assign (Operand.tmp 18), type := 78, pos := "metric.go:46", after := #[{ on := 7, ground := Ground.data }, { on := 7, ground := Ground.chain }, { on := 0, ground := Ground.phase }, { on := 1, ground := Ground.phase }, { on := 2, ground := Ground.phase }, { on := 3, ground := Ground.phase }, { on := 4, ground := Ground.phase }, { on := 5, ground := Ground.phase }, { on := 6, ground := Ground.phase }, { on := 7, ground := Ground.phase }], guard := none }]
def usesI : Nat → List Nat
  | 2 => [1] | 4 => [3] | 5 => [2, 4] | 7 => [0, 5, 6] | 8 => [7] | _ => []
def ancI : Nat → List Nat
  | 2 => [1] | 4 => [3] | 5 => [2, 4, 1, 3] | 7 => [0, 5, 6, 2, 4, 1, 3] | 8 => [0, 1, 2, 3, 4, 5, 6, 7] | _ => []
def finI : Nat → Bool := fun i => i == 8
/-- The nearest ones, with one more. -/
def withOne (t : List UInt8) (d : Array Id20) (x : Id20) (most : Int) : List Id20 := (nearD t (d ++ #[x])).take most.toNat

theorem wpList_load_guardI {P : Program} {ops : Array Oper} {rest : List Oper} {o : Oper} {a : Act} {w : World} {Q : Exit → Act → World → Prop} (hw : Region.wanted o (yielded ops a.tmps) = true) (ty : TypeId) (x : Operand) (ho : o.op = .load ty x)
    (ad : Addr) (hx : a.eval x = .pointer (some ad)) (cs : List Value) (hr : Row w ad cs) (ht : IsAgg P ty cs.length)
    (h : wpList P ops Q rest (a.put o.dst (.agg cs.toArray)) w) : wpList P ops Q (o :: rest) a w :=
  wpList_step fun _ hK => by
    rw [if_pos hw]
    exact wp_load_agg ty x ho ad hx cs hr ht (hK _ _ h)

/-- What each operation yields. -/
def phiI (W : World) (p : Option Addr) (cap : Nat) (t : List UInt8) (d : Array Id20) (x : Id20) (most : Int) : Nat → Value → World → Prop
  | 0 => fun v _ => v = .agg (bytesV t).toArray
  | 1 => fun v _ => v = .slice p d.size cap
  | 2 => fun v w => OwnIds 32 w W.heap.size v d
  | 3 => fun v _ => v = .agg (bytesV x.1).toArray
  | 4 => fun v w => ∃ g, v = .slice (some ⟨g, 0, none⟩) 1 1 ∧ IdRow w (some ⟨g, 0, none⟩) #[x] ∧ g < w.heap.size
  | 5 => fun v w => OwnIds 32 w W.heap.size v (d ++ #[x])
  | 6 => fun v _ => v = .int .i64 most
  | _ => fun v w => OwnIds 32 w W.heap.size v (withOne t d x most).toArray
def laterI (W : World) : Nat → World → World → Prop := fun j w w' => Below W.heap.size w w' ∧ (j ≠ 5 → Below w.heap.size w w')
theorem needIb : ((List.range 9).all fun k => (List.range 9).all fun i => !(k != i && needB 9 usesI ancI finI k i) || (i != 5 || (k == 0 || k == 6))) = true := by decide +kernel
theorem needI (k : Nat) (hk : k < 9) (i : Nat) (hi : i < 9) (hne : k ≠ i) (h : needB 9 usesI ancI finI k i = true) : i ≠ 5 ∨ k = 0 ∨ k = 6 := by
  have h1 := List.all_eq_true.1 (List.all_eq_true.1 needIb k (List.mem_range.2 hk)) i (List.mem_range.2 hi)
  rw [h] at h1
  simpa [hne] using h1
theorem agreeI (t i : Nat) (k : Nat) (ok : Oper) (hk : opsI[k]? = some ok) (hd : ok.dst = some t) (h : opsI.all (fun o => o.dst != some t || (depsOf o).contains i) = true) : i ∈ depsOf ok := by
  have h1 := List.all_eq_true.1 h ok (List.mem_of_getElem? hk)
  rw [hd] at h1
  simpa using h1

set_option maxRecDepth 100000 in
set_option maxHeartbeats 2000000 in
theorem regionI {id : Nat} {Q : Exit → Act → World → Prop} {a0 : Act} {W : World} (t : List UInt8) (ht : t.length = 20) (x : Id20) (p : Option Addr) (d : Array Id20) (cap : Nat) (most : Int) (b4 b6 : Nat)
    (e1 : a0.eval (.tmp 1) = .slice p d.size cap) (e3 : a0.eval (.tmp 3) = .int .i64 most) (e4 : a0.eval (.tmp 4) = .pointer (some ⟨b4, 0, none⟩)) (e6 : a0.eval (.tmp 6) = .pointer (some ⟨b6, 0, none⟩)) (hsz : a0.tmps.size = 29)
    (h4 : Row W ⟨b4, 0, none⟩ (bytesV t)) (h6 : Row W ⟨b6, 0, none⟩ (bytesV x.1)) (l4 : b4 < W.heap.size) (l6 : b6 < W.heap.size) (hp : IdRow W p d) (hpb : ∀ a, p = some a → a.block < W.heap.size) (hcap : p = none → cap = 0) (hd : d.size < 499990)
    (hK : ∀ (vs : Nat → Value) (w' : World), Below W.heap.size W w' → OwnIds 32 w' W.heap.size (vs 8) (withOne t d x most).toArray → Q .normal (putList opsI 0 vs a0) w') :
    (Code.region id opsI.toArray true).wp Try.prog Q a0 W := by
  have hsz9 : opsI.length = 9 := rfl
  have haT : IsAgg Try.prog 32 (bytesV t).length := by rw [bytes_len ht]; exact aggID
  have haX : IsAgg Try.prog 32 (bytesV x.1).length := by rw [bytes_len x.2]; exact aggID
  refine wp_region_assert usesI ancI finI (fun w => Below W.heap.size W w) (laterI W) (phiI W p cap t d x most) (by kernel_rfl) (by rw [hsz]; decide +kernel) (by decide +kernel) (below_drewN (Below.refl _ _) 1) (fun j w w' h hL => h.trans hL.1) ?_ ?_ ?_
  · intro k' i hk' hi hne hneed v w w' hC h hL
    rw [hsz9] at hk' hi hneed
    rcases needI k' hk' i hi hne hneed with h5 | rfl | rfl
    · have hb := hL.2 h5
      match k', hk' with
      | 0, _ => exact h
      | 1, _ => exact h
      | 2, _ => exact OwnIds.below h hb
      | 3, _ => exact h
      | 4, _ => obtain ⟨g, h1, h2, h3⟩ := h; exact ⟨g, h1, h2.below hb (fun a ha => by obtain rfl := Option.some.inj ha; exact h3), Nat.lt_of_lt_of_le h3 hb.size⟩
      | 5, _ => exact OwnIds.below h hb
      | 6, _ => exact h
      | 7, _ => exact OwnIds.below h hb
      | 8, _ => exact OwnIds.below h hb
      | m + 9, hm => exact absurd hm (by omega)
    · exact h
    · exact h
  · have hLr : ∀ i w, laterI W i w w := fun i w => ⟨Below.refl _ _, fun _ => Below.refl _ _⟩
    have hLb : ∀ i w w', Below W.heap.size W w → Below w.heap.size w w' → laterI W i w w' := fun i w w' hC hb => ⟨hb.mono hC.size, fun _ => hb⟩
    refine ⟨?_, ?_, ?_, ?_, ?_, ?_, ?_, ?_, ?_, trivial⟩
    · -- t
      intro a w hC hag hdp K hKK
      exact wp_load_agg _ _ rfl ⟨b4, 0, none⟩ ((hag 4 (fun k ok hk hd => agreeI 4 _ k ok hk hd (by decide +kernel))).trans e4) (bytesV t) (h4.below hC l4) haT (hKK _ _ rfl (hLr _ _))
    · -- l
      refine OpOK.value (hLr _) fun a w hC hag hdp => ⟨_, exec_moveK _ rfl, ?_⟩
      show a.eval (.tmp 1) = _
      rw [hag 1 (fun k ok hk hd => agreeI 1 _ k ok hk hd (by decide +kernel)), e1]
    · -- Clone
      intro a w hC hag hdp K hKK
      obtain ⟨vp, hp, tp⟩ := hdp 1 (by decide) _ rfl
      have up := tp 12 rfl
      refine wp_call 79 _ _ rfl (enters_of Try.func79 (by kernel_rfl) rfl) ?_
      have e : (#[Operand.tmp 12].map a.eval) = #[.slice p d.size cap] := by
        rw [show (#[Operand.tmp 12].map a.eval) = #[a.eval (.tmp 12)] from by simp, up, show vp = _ from hp]
      rw [e]
      refine (slices_Clone p d cap w (IdRow.below ‹IdRow W p d› hC hpb) (fun a ha => Nat.lt_of_lt_of_le (hpb a ha) hC.size) hcap (by omega)).mono ?_
      rintro e' w' ⟨v, rfl, ho, hb⟩
      exact ⟨_, rfl, hKK _ _ (OwnIds.mono ho hC.size) (hLb _ _ _ hC hb)⟩
    · -- id
      intro a w hC hag hdp K hKK
      exact wp_load_agg _ _ rfl ⟨b6, 0, none⟩ ((hag 6 (fun k ok hk hd => agreeI 6 _ k ok hk hd (by decide +kernel))).trans e6) (bytesV x.1) (h6.below hC l6) haX (hKK _ _ rfl (hLr _ _))
    · -- []ID{id}
      intro a w hC hag hdp K hKK
      obtain ⟨vp, hp, tp⟩ := hdp 3 (by decide) _ rfl
      have up := tp 14 rfl
      have hb : Below w.heap.size w (w.alloc (.cells (idsV #[x]) 32)) := (Below.refl _ _).alloc (Nat.le_refl _) _
      refine wp_build_one idTyA _ rfl x (up.trans hp) (hKK _ _ ⟨_, rfl, ⟨(fun h => by cases h), fun b hb' => ?_⟩, by simp⟩ (hLb _ _ _ hC hb))
      obtain rfl := Option.some.inj hb'
      exact Row.of_block (heap_alloc_new _ _)
    · -- append
      intro a w hC hag hdp K hKK
      obtain ⟨vp, hp, tp⟩ := hdp 2 (by decide) _ rfl
      have up := tp 13 rfl
      obtain ⟨vr, hr, tr⟩ := hdp 4 (by decide) _ rfl
      have ur := tr 15 rfl
      obtain ⟨g, hg1, hg2, hg3⟩ := hr
      refine wp_append_ids idTyA (.tmp 13) (.tmp 15) rfl W.heap.size vp d #[x] up hp (some ⟨g, 0, none⟩) 1 (by rw [show a.eval (.tmp 15) = vr from ur, hg1]; rfl) hg2 (by simp; omega) hC.size ?_
      intro v' w' h1 h2 _
      exact hKK v' w' h1 ⟨h2, fun h => absurd rfl h⟩
    · -- most
      refine OpOK.value (hLr _) fun a w hC hag hdp => ⟨_, exec_moveK _ rfl, ?_⟩
      show a.eval (.tmp 3) = _
      rw [hag 3 (fun k ok hk hd => agreeI 3 _ k ok hk hd (by decide +kernel)), e3]
    · -- Least
      intro a w hC hag hdp K hKK
      obtain ⟨vp, hp, tp⟩ := hdp 0 (by decide) _ rfl
      have up := tp 11 rfl
      obtain ⟨vr, hr, tr⟩ := hdp 5 (by decide) _ rfl
      have ur := tr 16 rfl
      obtain ⟨vs, hs, ts⟩ := hdp 6 (by decide) _ rfl
      have us := ts 17 rfl
      have hr' : OwnIds 32 w W.heap.size vr (d ++ #[x]) := hr
      obtain ⟨q, c, hv, hrow, _, hqb, _, _⟩ := hr'.form
      refine wp_call 55 _ _ rfl (enters_of Try.func55 (by kernel_rfl) rfl) ?_
      have e : (#[Operand.tmp 11, Operand.tmp 16, Operand.tmp 17].map a.eval) = #[.agg (bytesV t).toArray, .slice q (d ++ #[x]).size c, .int .i64 most] := by
        rw [show (#[Operand.tmp 11, Operand.tmp 16, Operand.tmp 17].map a.eval) = #[a.eval (.tmp 11), a.eval (.tmp 16), a.eval (.tmp 17)] from by simp, up, ur, us, show vp = _ from hp, hv, show vs = _ from hs]
      rw [e]
      refine (metric_Least t ht q (d ++ #[x]) c most w hrow (fun a ha => (hqb a ha).2) (by simp; omega)).mono ?_
      rintro e' w' ⟨v, rfl, ho, hb⟩
      exact ⟨_, rfl, hKK _ _ (OwnIds.mono ho hC.size) (hLb _ _ _ hC hb)⟩
    · -- out =
      refine OpOK.value (hLr _) fun a w hC hag hdp => ?_
      obtain ⟨vp, hp, tp⟩ := hdp 7 (by decide) _ rfl
      have up := tp 18 rfl
      exact ⟨_, exec_assignK _ rfl, by rw [up]; exact hp⟩
  · intro vs w' hC hf
    exact hK vs w' hC (hf 8 (by rw [hsz9]; decide) rfl)

set_option maxRecDepth 100000 in
set_option maxHeartbeats 4000000 in
theorem metric_Insert (t : List UInt8) (ht : t.length = 20) (x : Id20) (p : Option Addr) (d : Array Id20) (cap : Nat) (most : Int) (w : World) (hp : IdRow w p d) (hpb : ∀ a, p = some a → a.block < w.heap.size) (hcap : p = none → cap = 0) (hd : d.size < 499990) :
    Calls Try.prog 50 #[.agg (bytesV t).toArray, .slice p d.size cap, .agg (bytesV x.1).toArray, .int .i64 most] w fun e w' =>
      ∃ v, e = .returned (.tuple #[v, .bool (decide (x ∈ withOne t d x most) && !decide (x ∈ d.toList))]) ∧ OwnIds 32 w' w.heap.size v (withOne t d x most).toArray ∧ Below w.heap.size w w' := by
  have st := bytes_size ht
  have sx := bytes_size x.2
  have HG : Hid (IsAgg Try.prog 32 (bytesV x.1).length) := Lib.hid (by rw [bytes_len x.2]; exact aggID)
  have hb2 : Below w.heap.size w ((w.alloc (.cells (bytesV t).toArray 32)).alloc (.cells (bytesV x.1).toArray 32)) := ((Below.refl _ _).alloc (Nat.le_refl _) _).alloc (by simp) _
  have HB := Lib.hid hb2
  have HP := Lib.hid (hp.below hb2 hpb)
  have HPB : Hid (∀ a, p = some a → a.block < ((w.alloc (.cells (bytesV t).toArray 32)).alloc (.cells (bytesV x.1).toArray 32)).heap.size) := Lib.hid (fun a ha => Nat.lt_of_lt_of_le (hpb a ha) hb2.size)
  have h4 : Hid (Row ((w.alloc (.cells (bytesV t).toArray 32)).alloc (.cells (bytesV x.1).toArray 32)) ⟨w.heap.size, 0, none⟩ (bytesV t)) := Lib.hid (BB.row (T := 32) (BB.alloc (l := t) (heap_alloc_new _ _) _))
  have h6 : Hid (Row ((w.alloc (.cells (bytesV t).toArray 32)).alloc (.cells (bytesV x.1).toArray 32)) ⟨w.heap.size + 1, 0, none⟩ (bytesV x.1)) := Lib.hid (BB.row (T := 32) (heap_alloc2_new _ _ _))
  have hs2 : Hid (((w.alloc (.cells (bytesV t).toArray 32)).alloc (.cells (bytesV x.1).toArray 32)).heap.size = w.heap.size + 1 + 1) := Lib.hid (by simp)
  have HN := Lib.hid hd
  have HQ := Lib.hid hcap
  obtain ⟨L, hL⟩ : ∃ L, withOne t d x most = L := ⟨_, rfl⟩
  rw [hL]
  have HL0 := Lib.hid hL
  clear hp hpb hb2 hcap hL
  go_enter Try.func50, Try.ntmps50
  go_wp2_with fail
  generalize ((w.alloc (.cells (bytesV t).toArray 32)).alloc (.cells (bytesV x.1).toArray 32)) = W at *
  refine regionI t ht x p d cap most w.heap.size (w.heap.size + 1) rfl rfl rfl rfl rfl h4.out h6.out (by rw [hs2.out]; omega) (by rw [hs2.out]; omega) HP.out HPB.out HQ.out hd ?_
  intro vs w7 hb7 ho7
  have hL := HL0.out
  rw [hL] at ho7
  obtain ⟨q, c, hv, hrow, _, hqb, _, _⟩ := ho7.form
  have hLs : L.toArray.size = L.length := by simp
  have hLn : L.length < 500000 := by
    rw [← hL]
    unfold withOne
    have := nearD_length t (d ++ #[x])
    simp at this ⊢
    omega
  have HV : Hid (vs 8 = .slice q L.length c) := Lib.hid (by rw [hv, hLs])
  have HO := Lib.hid (ho7.mono (base := w.heap.size) (by rw [hs2.out]; omega))
  have HR := Lib.hid hrow
  have HB7 : Hid (Below w.heap.size w w7) := Lib.hid (HB.out.trans (hb7.mono HB.out.size))
  have HP7 := Lib.hid (HP.out.below hb7 HPB.out)
  have HPB7 : Hid (∀ a, p = some a → a.block < w7.heap.size) := Lib.hid (fun a ha => Nat.lt_of_lt_of_le (HPB.out a ha) hb7.size)
  have h67 : Hid (Row w7 ⟨w.heap.size + 1, 0, none⟩ (bytesV x.1)) := Lib.hid (h6.out.below hb7 (by show w.heap.size + 1 < _; rw [hs2.out]; omega))
  have h6b : Hid (w.heap.size + 1 < w7.heap.size) := Lib.hid (by have := hs2.out; have := hb7.size; omega)
  have HC1 := Lib.hid (slices_Contains q L.toArray c x w7 hrow (fun a ha => (hqb a ha).2) (by rw [hLs]; exact hLn))
  rw [hLs] at HC1
  clear hv hrow hqb hb7 ho7 hL hLs hLn HB HP HPB h4 h6 hs2
  simp only [putList, opsI]
  rw [HV.out]
  go_wp2_with ((with_reducible show wpList _ _ _ (⟨some 21, _, _, _, _, _⟩ :: _) _ _); refine wpList_load_agg (o := ⟨some 21, _, _, _, _, _⟩) rfl _ (.tmp 6) rfl _ rfl (bytesV x.1) h67.out HG.out ?_)
  refine HC1.out.mono ?_
  rintro e w8 ⟨rfl, hb8⟩
  have h68 : Hid (Row w8 ⟨w.heap.size + 1, 0, none⟩ (bytesV x.1)) := Lib.hid (h67.out.below hb8 h6b.out)
  have HC2 := Lib.hid (slices_Contains p d cap x w8 (HP7.out.below hb8 HPB7.out) (fun a ha => Nat.lt_of_lt_of_le (HPB7.out a ha) hb8.size) (by have := HN.out; omega))
  have HO8 := Lib.hid (HO.out.below hb8)
  have HB8 : Hid (Below w.heap.size w w8) := Lib.hid (HB7.out.trans (hb8.mono HB7.out.size))
  clear hb8 h67 h6b HP7 HPB7 HC1 HO HB7 HR
  by_cases hx : x ∈ L
  · rw [decide_eq_true hx]
    have HX := Lib.hid hx
    clear hx
    go_wp2_with ((with_reducible show wpList _ _ _ (⟨some 25, _, _, _, _, _⟩ :: _) _ _); refine wpList_load_guardI (o := ⟨some 25, _, _, _, _, _⟩) (by rfl) _ (.tmp 6) rfl _ rfl (bytesV x.1) h68.out HG.out ?_)
    refine HC2.out.mono ?_
    rintro e w9 ⟨rfl, hb9⟩
    have HO9 := Lib.hid (HO8.out.below hb9)
    have HB9 : Hid (Below w.heap.size w w9) := Lib.hid (HB8.out.trans (hb9.mono HB8.out.size))
    clear hb9 HO8 HB8 HC2
    obtain ⟨b, hb⟩ : ∃ b, decide (x ∈ d.toList) = b := ⟨_, rfl⟩
    rw [hb]
    have HBB := Lib.hid hb
    clear hb
    cases b
    all_goals
      go_wp2_with fail
      go_ret2
      exact ⟨_, by rw [decide_eq_true HX.out, HBB.out]; rfl, by rw [← HV.out]; exact HO9.out, HB9.out⟩
  · rw [decide_eq_false hx]
    have HX : Hid (¬ x ∈ L) := Lib.hid hx
    clear hx
    go_wp2_with fail
    go_ret2
    exact ⟨_, by rw [decide_eq_false HX.out]; rfl, by rw [← HV.out]; exact HO8.out, HB8.out⟩
end Go.Proofs.Ytjdmbegmbffhfaa
