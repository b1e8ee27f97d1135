/-
  The region of three appends of the reference's Sort: whatever order is drawn, what stands behind it is the row with one id more. Conditions: as the theorem says.
-/
import Derived.Test.YtgdiajhegmdfgaaSrtC
import Derived.Test.YtgdiajhegmdfgaaIdW
namespace Go.Proofs.Ytgdiajhegmdfgaa
open Go.RowKit Go.Sort Go.Lib

theorem idsV_take_drop (l : List Id20) (n : Nat) (hn : n ≤ l.length) : (idsV (l.take n).toArray).toList = (idsV l.toArray).toList.take (n * 20) ∧ (idsV (l.drop n).toArray).toList = (idsV l.toArray).toList.drop (n * 20) := by
  have h := idsV_append (l.take n).toArray (l.drop n).toArray
  rw [show (l.take n).toArray ++ (l.drop n).toArray = l.toArray by simp] at h
  have hl : (idsV (l.take n).toArray).toList.length = n * 20 := by rw [idsV_len]; simp; omega
  rw [h]
  exact ⟨(List.take_left' hl).symm, (List.drop_left' hl).symm⟩
theorem add_zero (a : Addr) : a.add 0 = a := by unfold Addr.add; simp
theorem idrow_take {w : World} {q : Option Addr} {l : List Id20} (h : IdRow w q l.toArray) (n c : Nat) (hn : n ≤ l.length) : IdRow w (if c = 0 then q else q.map (·.add (0 * 20))) (l.take n).toArray := by
  have e : (if c = 0 then q else q.map (·.add (0 * 20))) = q := by
    split
    · rfl
    · cases q with
      | none => rfl
      | some a => show some (a.add (0 * 20)) = some a; rw [Nat.zero_mul, add_zero]
  rw [e]
  refine ⟨fun hq => ?_, fun a ha => ?_⟩
  · have := h.none_ hq
    have hl : l = [] := by simpa using this
    simp [hl]
  · intro j v hv
    rw [(idsV_take_drop l n hn).1, List.getElem?_take] at hv
    split at hv
    · exact h.row a ha j v hv
    · cases hv
theorem idrow_drop {w : World} {q : Option Addr} {l : List Id20} (h : IdRow w q l.toArray) (n c : Nat) (hn : n ≤ l.length) (hc : l.length ≤ c) : IdRow w (if c = n then q else q.map (·.add (n * 20))) (l.drop n).toArray := by
  by_cases hcn : c = n
  · rw [if_pos hcn]
    have hl : l.drop n = [] := List.drop_eq_nil_of_le (by omega)
    rw [hl]
    exact ⟨fun _ => rfl, fun a _ j v hv => by rw [show ([] : List Id20).toArray = #[] from rfl, idsV_nil] at hv; simp at hv⟩
  · rw [if_neg hcn]
    cases q with
    | none =>
      have := h.none_ rfl
      have hl : l = [] := by simpa using this
      subst hl
      exact ⟨fun _ => by simp, fun a ha => by cases ha⟩
    | some a =>
      refine ⟨fun h => (by cases h), fun b hb => ?_⟩
      obtain rfl := Option.some.inj hb
      intro j v hv
      rw [(idsV_take_drop l n hn).2, List.getElem?_drop] at hv
      have := h.row a rfl _ v hv
      rw [add_add]
      exact this

def ops9 : List Oper := [{ dst := some 45, op := Op.buildSlice 30 0 #[], type := 30, pos := "ref.go:128", after := #[], guard := none }, { dst := some 46, op := Op.move (Operand.tmp 3), type := 30, pos := "ref.go:128", after := #[], guard := none }, { dst := some 47, op := Op.move (Operand.tmp 5), type := 3, pos := "ref.go:128", after := #[], guard := none }, { dst := some 48, op := Op.slice 30 (Operand.tmp 46) none (some (Operand.tmp 47)) none, type := 30, pos := "ref.go:128", after := #[{ on := 1, ground := Ground.data }, { on := 2, ground := Ground.data }], guard := none }, { dst := some 49, op := Op.call { callee := Callee.builtin Builtin.append, args := #[Operand.tmp 45, Operand.tmp 48], argTypes := #[30, 30] }, type := 30, pos := "ref.go:128", after := #[{ on := 0, ground := Ground.data }, { on := 3, ground := Ground.data }], guard := none }, { dst := some 50, op := Op.move (Operand.tmp 0), type := 30, pos := "ref.go:128", after := #[], guard := none }, { dst := some 51, op := Op.move (Operand.tmp 4), type := 3, pos := "ref.go:128", after := #[], guard := none }, { dst := some 52, op := Op.indexAddr 30 (Operand.tmp 50) (Operand.tmp 51), type := 0, pos := "ref.go:128", after := #[{ on := 5, ground := Ground.data }, { on := 6, ground := Ground.data }], guard := none }, { dst := some 53, op := Op.load 35 (Operand.tmp 52), type := 35, pos := "ref.go:128", after := #[{ on := 7, ground := Ground.data }], guard := none }, { dst := some 54, op := Op.buildSlice 30 1 #[(0, Operand.tmp 53)], type := 30, pos := "ref.go:128", after := #[{ on := 8, ground := Ground.data }], guard := none }, { dst := some 55, op := Op.call { callee := Callee.builtin Builtin.append, args := #[Operand.tmp 49, Operand.tmp 54], argTypes := #[30, 30] }, type := 30, pos := "ref.go:128", after := #[{ on := 4, ground := Ground.data }, { on := 9, ground := Ground.data }, { on := 4, ground := Ground.chain }], guard := none }, { dst := some 56, op := Op.move (Operand.tmp 3), type := 30, pos := "ref.go:128", after := #[], guard := none }, { dst := some 57, op := Op.move (Operand.tmp 5), type := 3, pos := "ref.go:128", after := #[], guard := none }, { dst := some 58, op := Op.slice 30 (Operand.tmp 56) (some (Operand.tmp 57)) none none, type := 30, pos := "ref.go:128", after := #[{ on := 11, ground := Ground.data }, { on := 12, ground := Ground.data }], guard := none }, { dst := some 59, op := Op.call { callee := Callee.builtin Builtin.append, args := #[Operand.tmp 55, Operand.tmp 58], argTypes := #[30, 30] }, type := 30, pos := "ref.go:128", after := #[{ on := 10, ground := Ground.data }, { on := 13, ground := Ground.data }, { on := 10, ground := Ground.chain }], guard := none }, { dst := some 3, op := Op.assign (Operand.tmp 59), type := 30, pos := "ref.go:128", after := #[{ on := 14, ground := Ground.data }, { on := 14, ground := Ground.chain }, { on := 0, ground := Ground.phase }, { on := 1, ground := Ground.phase }, { on := 2, ground := Ground.phase }, { on := 3, ground := Ground.phase }, { on := 4, ground := Ground.phase }, { on := 5, ground := Ground.phase }, { on := 6, ground := Ground.phase }, { on := 7, ground := Ground.phase }, { on := 8, ground := Ground.phase }, { on := 9, ground := Ground.phase }, { on := 10, ground := Ground.phase }, { on := 11, ground := Ground.phase }, { on := 12, ground := Ground.phase }, { on := 13, ground := Ground.phase }, { on := 14, ground := Ground.phase }], guard := none }]
def uses9 : Nat → List Nat
  | 3 => [1, 2] | 4 => [0, 3] | 7 => [5, 6] | 8 => [7] | 9 => [8] | 10 => [4, 9] | 13 => [11, 12] | 14 => [10, 13] | 15 => [14] | _ => []
def anc9 : Nat → List Nat
  | 3 => [1, 2] | 4 => [0, 3, 1, 2] | 7 => [5, 6] | 8 => [7, 5, 6] | 9 => [8, 7, 5, 6] | 10 => [4, 9, 0, 3, 1, 2, 8, 7, 5, 6] | 13 => [11, 12] | 14 => [10, 13, 4, 9, 0, 3, 1, 2, 8, 7, 5, 6, 11, 12] | 15 => [0, 1, 2, 3, 4, 5, 6, 7, 8, 9, 10, 11, 12, 13, 14] | _ => []
def fin9 : Nat → Bool := fun i => i == 15

/-- What each operation yields. -/
def phi9 (W : World) (ad : Addr) (size cap : Nat) (q : Option Addr) (l : List Id20) (c n k : Nat) (x : Id20) : Nat → Value → World → Prop
  | 0 => fun v w => (∃ g, v = .slice (some ⟨g, 0, none⟩) 0 0) ∧ OwnIds 35 w W.heap.size v #[]
  | 1 => fun v _ => v = .slice q l.length c
  | 2 => fun v _ => v = .int .i64 n
  | 3 => fun v _ => v = .slice (if c = 0 then q else q.map (·.add (0 * 20))) n c
  | 4 => fun v w => OwnIds 35 w W.heap.size v (l.take n).toArray
  | 5 => fun v _ => v = .slice (some ad) size cap
  | 6 => fun v _ => v = .int .i64 k
  | 7 => fun v _ => v = .pointer (some (ad.add (k * 20)))
  | 8 => fun v _ => v = .agg (bytesV x.1).toArray
  | 9 => fun v w => ∃ g, v = .slice (some ⟨g, 0, none⟩) 1 1 ∧ IdRow w (some ⟨g, 0, none⟩) #[x] ∧ g < w.heap.size
  | 10 => fun v w => OwnIds 35 w W.heap.size v (l.take n ++ [x]).toArray
  | 11 => fun v _ => v = .slice q l.length c
  | 12 => fun v _ => v = .int .i64 n
  | 13 => fun v _ => v = .slice (if c = n then q else q.map (·.add (n * 20))) (l.length - n) (c - n)
  | _ => fun v w => OwnIds 35 w W.heap.size v (l.take n ++ [x] ++ l.drop n).toArray
def later9 (W : World) : Nat → World → World → Prop := fun j w w' => Below W.heap.size w w' ∧ (j ≠ 10 → j ≠ 14 → Below w.heap.size w w')

theorem need9b : ((List.range 16).all fun k => (List.range 16).all fun i => !(k != i && needB 16 uses9 anc9 fin9 k i) || ((i != 10 && i != 14) || (k == 11 || (k == 12 || k == 13)))) = true := by decide +kernel
theorem need9 (k : Nat) (hk : k < 16) (i : Nat) (hi : i < 16) (hne : k ≠ i) (h : needB 16 uses9 anc9 fin9 k i = true) : (i ≠ 10 ∧ i ≠ 14) ∨ k = 11 ∨ k = 12 ∨ k = 13 := by
  have h1 := List.all_eq_true.1 (List.all_eq_true.1 need9b k (List.mem_range.2 hk)) i (List.mem_range.2 hi)
  rw [h] at h1
  simpa [hne] using h1

section
variable {ρ : Operand → Value} {w : World} {o : Oper}
theorem exec_move (x : Operand) (ho : o.op = .move x) : (execOp ρ o).run Try.prog w = .ok (.value (ρ x)) w := by simp [execOp, ho]
theorem exec_assign (x : Operand) (ho : o.op = .assign x) : (execOp ρ o).run Try.prog w = .ok (.value (ρ x)) w := by simp [execOp, ho]
theorem exec_empty {sl T : TypeId} (h : IdTy sl T) (ho : o.op = .buildSlice sl 0 #[]) : (execOp ρ o).run Try.prog w = .ok (.value (.slice (some ⟨w.heap.size, 0, none⟩) 0 0)) (w.alloc (.cells #[] T)) := by
  obtain ⟨i, hi, hz, hs, hby⟩ := info_parts h.i
  simp [execOp, ho, Instr.buildSlice, run_underlying h.u, sizeOf, typeInfo, hi, newRow, Instr.fill]
  have e : Array.range 0 = #[] := Array.eq_empty_of_size_eq_zero (by simp)
  rw [e, Array.map_empty]
theorem exec_slice_h {sl T : TypeId} (h : IdTy sl T) (x y : Operand) (ho : o.op = .slice sl x none (some y) none) (q : Option Addr) (len c n : Nat) (hx : ρ x = .slice q len c) (hy : ρ y = .int .i64 (n : Int)) (hn : n ≤ c) :
    (execOp ρ o).run Try.prog w = .ok (.value (.slice (if c = 0 then q else q.map (·.add (0 * 20))) n c)) w := by
  obtain ⟨i, hi, hz, hs, hby⟩ := info_parts h.i
  simp [execOp, ho, hx, hy, Instr.sliceAt, Instr.slice, run_underlying h.u, Instr.sliceBounds, run_sliceBound, sizeOf, typeInfo, hi, hs, hn]
theorem exec_slice_l {sl T : TypeId} (h : IdTy sl T) (x y : Operand) (ho : o.op = .slice sl x (some y) none none) (q : Option Addr) (len c n : Nat) (hx : ρ x = .slice q len c) (hy : ρ y = .int .i64 (n : Int)) (hn : n ≤ len) :
    (execOp ρ o).run Try.prog w = .ok (.value (.slice (if c = n then q else q.map (·.add (n * 20))) (len - n) (c - n))) w := by
  obtain ⟨i, hi, hz, hs, hby⟩ := info_parts h.i
  simp [execOp, ho, hx, hy, Instr.sliceAt, Instr.slice, run_underlying h.u, Instr.sliceBounds, run_sliceBound, sizeOf, typeInfo, hi, hs, hn]
theorem exec_index {sl T : TypeId} (h : IdTy sl T) (x y : Operand) (ho : o.op = .indexAddr sl x y) (ad : Addr) (len c k : Nat) (hx : ρ x = .slice (some ad) len c) (hy : ρ y = .int .i64 (k : Int)) (hk : k < len) :
    (execOp ρ o).run Try.prog w = .ok (.value (.pointer (some (ad.add (k * 20))))) w := by
  obtain ⟨i, hi, hz, hs, hby⟩ := info_parts h.i
  have hk1 : (k : Int) < (len : Int) := by omega
  simp [execOp, ho, hx, hy, Instr.indexAt, run_underlying h.u, sizeOf, typeInfo, hi, hs, hk, asInt, asIntOf]
end

theorem agree9 (t i : Nat) (k : Nat) (ok : Oper) (hk : ops9[k]? = some ok) (hd : ok.dst = some t) (h : ops9.all (fun o => o.dst != some t || (depsOf o).contains i) = true) : i ∈ depsOf ok := by
  have h1 := List.all_eq_true.1 h ok (List.mem_of_getElem? hk)
  rw [hd] at h1
  simpa using h1

set_option maxRecDepth 100000 in
set_option maxHeartbeats 2000000 in
theorem region9 {id : Nat} {Q : Exit → Act → World → Prop} {a0 : Act} {W : World} (ad : Addr) (d : Array Id20) (cap : Nat) (q : Option Addr) (l : List Id20) (c n k : Nat) (x : Id20)
    (e0 : a0.eval (.tmp 0) = .slice (some ad) d.size cap) (e3 : a0.eval (.tmp 3) = .slice q l.length c) (e4 : a0.eval (.tmp 4) = .int .i64 k) (e5 : a0.eval (.tmp 5) = .int .i64 n) (hsz : a0.tmps.size = 61)
    (hn : n ≤ l.length) (hc : l.length ≤ c) (hk : k < d.size) (hx : d[k]! = x) (hq : IdRow W q l.toArray) (hqb : ∀ a, q = some a → a.block < W.heap.size) (hd : IdRow W (some ad) d) (hdb : ad.block < W.heap.size) (hl : l.length < 499999)
    (hK : ∀ (vs : Nat → Value) (w' : World), Below W.heap.size W w' → OwnIds 35 w' W.heap.size (vs 15) (l.take n ++ [x] ++ l.drop n).toArray → Q .normal (putList ops9 0 vs a0) w') :
    (Code.region id ops9.toArray true).wp Try.prog Q a0 W := by
  have hrow : ∀ w, Below W.heap.size W w → IdRow w q l.toArray := fun w hw => hq.below hw hqb
  have harg : ∀ w, Below W.heap.size W w → Row w (ad.add (k * 20)) (bytesV x.1) := fun w hw => by
    rw [← hx]; exact (hd.below hw (fun a ha => by obtain rfl := Option.some.inj ha; exact hdb)).at rfl hk
  have hsz16 : ops9.length = 16 := rfl
  refine wp_region_assert uses9 anc9 fin9 (fun w => Below W.heap.size W w) (later9 W) (phi9 W ad d.size cap q l c n k x) (by kernel_rfl) (by rw [hsz]; decide +kernel) (by decide +kernel) (below_drewN (Below.refl _ _) 1) (fun j w w' h hL => h.trans hL.1) ?_ ?_ ?_
  · -- what holds goes on to hold
    intro k' i hk' hi hne hneed v w w' hC h hL
    rw [hsz16] at hk' hi hneed
    have key := need9 k' hk' i hi hne hneed
    rcases key with ⟨h10, h14⟩ | rfl | rfl | rfl
    · have hb := hL.2 h10 h14
      match k', hk' with
      | 0, _ => exact ⟨h.1, h.2.below hb⟩
      | 1, _ => exact h
      | 2, _ => exact h
      | 3, _ => exact h
      | 4, _ => exact OwnIds.below h hb
      | 5, _ => exact h
      | 6, _ => exact h
      | 7, _ => exact h
      | 8, _ => exact h
      | 9, _ => obtain ⟨g, h1, h2, h3⟩ := h; exact ⟨g, h1, h2.below hb (fun a ha => by obtain rfl := Option.some.inj ha; exact h3), Nat.lt_of_lt_of_le h3 hb.size⟩
      | 10, _ => exact OwnIds.below h hb
      | 11, _ => exact h
      | 12, _ => exact h
      | 13, _ => exact h
      | 14, _ => exact OwnIds.below h hb
      | 15, _ => exact OwnIds.below h hb
      | m + 16, hm => exact absurd hm (by omega)
    · exact h
    · exact h
    · exact h
  · have hLr : ∀ i w, later9 W i w w := fun i w => ⟨Below.refl _ _, fun _ _ => Below.refl _ _⟩
    refine ⟨?_, ?_, ?_, ?_, ?_, ?_, ?_, ?_, ?_, ?_, ?_, ?_, ?_, ?_, ?_, ?_, trivial⟩
    · -- []ID{}
      intro a w hC hag hdp K hKK
      have hb : Below w.heap.size w (w.alloc (.cells #[] 35)) := (Below.refl _ _).alloc (Nat.le_refl _) _
      unfold Oper.wp
      rw [exec_empty idTyR rfl]
      refine hKK _ _ ⟨⟨_, rfl⟩, ?_⟩ ⟨hb.mono hC.size, fun _ _ => hb⟩
      exact ⟨by rw [idsV_len], Or.inr ⟨w.heap.size, 0, #[], rfl, hC.size, heap_alloc_new _ _, Nat.le_refl _, by simp [maxLen], rfl, by rw [idsV_nil]; rfl⟩⟩
    · -- out
      refine OpOK.value (hLr _) fun a w hC hag hdp => ⟨_, exec_move _ rfl, ?_⟩
      show a.eval (.tmp 3) = _
      rw [hag 3 (fun k ok hk hd => agree9 3 _ k ok hk hd (by decide +kernel)), e3]
    · -- at
      refine OpOK.value (hLr _) fun a w hC hag hdp => ⟨_, exec_move _ rfl, ?_⟩
      show a.eval (.tmp 5) = _
      rw [hag 5 (fun k ok hk hd => agree9 5 _ k ok hk hd (by decide +kernel)), e5]
    · -- out[:at]
      refine OpOK.value (hLr _) fun a w hC hag hdp => ?_
      obtain ⟨vp, hp, tp⟩ := hdp 1 (by decide) _ rfl
      have up := tp 46 rfl
      obtain ⟨vr, hr, tr⟩ := hdp 2 (by decide) _ rfl
      have ur := tr 47 rfl
      exact ⟨_, exec_slice_h idTyR _ _ rfl q l.length c n (up.trans hp) (ur.trans hr) (by omega), rfl⟩
    · -- append
      intro a w hC hag hdp K hKK
      obtain ⟨vp, hp, tp⟩ := hdp 0 (by decide) _ rfl
      have up := tp 45 rfl
      obtain ⟨vr, hr, tr⟩ := hdp 3 (by decide) _ rfl
      have ur := tr 48 rfl
      obtain ⟨⟨g, hg⟩, ho⟩ := hp
      have hr' : vr = .slice (if c = 0 then q else q.map (·.add (0 * 20))) n c := hr
      refine wp_append_ids idTyR (.tmp 45) (.tmp 48) rfl W.heap.size vp #[] (l.take n).toArray up ho _ c (by rw [show a.eval (.tmp 48) = vr from ur, hr']; simp [hn]) (idrow_take (hrow w hC) n c hn) (by simp; omega) hC.size ?_
      intro v' w' h1 h2 h3
      have h1' : OwnIds 35 w' W.heap.size v' (l.take n).toArray := by simpa using h1
      refine hKK v' w' h1' ⟨h2, fun _ _ => h3 fun g' cap' hv => ?_⟩
      rw [hg] at hv
      injection hv with _ _ h5
      exact h5.symm
    · -- l
      refine OpOK.value (hLr _) fun a w hC hag hdp => ⟨_, exec_move _ rfl, ?_⟩
      show a.eval (.tmp 0) = _
      rw [hag 0 (fun k ok hk hd => agree9 0 _ k ok hk hd (by decide +kernel)), e0]
    · -- i
      refine OpOK.value (hLr _) fun a w hC hag hdp => ⟨_, exec_move _ rfl, ?_⟩
      show a.eval (.tmp 4) = _
      rw [hag 4 (fun k ok hk hd => agree9 4 _ k ok hk hd (by decide +kernel)), e4]
    · -- its place
      refine OpOK.value (hLr _) fun a w hC hag hdp => ?_
      obtain ⟨vp, hp, tp⟩ := hdp 5 (by decide) _ rfl
      have up := tp 50 rfl
      obtain ⟨vr, hr, tr⟩ := hdp 6 (by decide) _ rfl
      have ur := tr 51 rfl
      exact ⟨_, exec_index idTyR _ _ rfl ad d.size cap k (up.trans hp) (ur.trans hr) hk, rfl⟩
    · -- the id
      intro a w hC hag hdp K hKK
      obtain ⟨vp, hp, tp⟩ := hdp 7 (by decide) _ rfl
      have up := tp 52 rfl
      refine wp_load_agg _ _ rfl (ad.add (k * 20)) (up.trans hp) (bytesV x.1) (harg w hC) (by rw [bytes_len x.2]; exact aggR3) (hKK _ _ rfl (hLr _ _))
    · -- []ID{id}
      intro a w hC hag hdp K hKK
      obtain ⟨vp, hp, tp⟩ := hdp 8 (by decide) _ rfl
      have up := tp 53 rfl
      have hb : Below w.heap.size w (w.alloc (.cells (idsV #[x]) 35)) := (Below.refl _ _).alloc (Nat.le_refl _) _
      refine wp_build_one idTyR _ rfl x (up.trans hp) (hKK _ _ ⟨_, rfl, ⟨(fun h => by cases h), fun b hb' => ?_⟩, by simp⟩ ⟨hb.mono hC.size, fun _ _ => hb⟩)
      obtain rfl := Option.some.inj hb'
      exact Row.of_block (heap_alloc_new _ _)
    · -- append
      intro a w hC hag hdp K hKK
      obtain ⟨vp, hp, tp⟩ := hdp 4 (by decide) _ rfl
      have up := tp 49 rfl
      obtain ⟨vr, hr, tr⟩ := hdp 9 (by decide) _ rfl
      have ur := tr 54 rfl
      obtain ⟨g, hg1, hg2, hg3⟩ := hr
      refine wp_append_ids idTyR (.tmp 49) (.tmp 54) rfl W.heap.size vp (l.take n).toArray #[x] up hp (some ⟨g, 0, none⟩) 1 (by rw [show a.eval (.tmp 54) = vr from ur, hg1]; rfl) hg2 (by simp; omega) hC.size ?_
      intro v' w' h1 h2 _
      refine hKK v' w' ?_ ⟨h2, fun h => absurd rfl h⟩
      have e : (l.take n).toArray ++ #[x] = (l.take n ++ [x]).toArray := by simp
      rw [e] at h1
      exact h1
    · -- out
      refine OpOK.value (hLr _) fun a w hC hag hdp => ⟨_, exec_move _ rfl, ?_⟩
      show a.eval (.tmp 3) = _
      rw [hag 3 (fun k ok hk hd => agree9 3 _ k ok hk hd (by decide +kernel)), e3]
    · -- at
      refine OpOK.value (hLr _) fun a w hC hag hdp => ⟨_, exec_move _ rfl, ?_⟩
      show a.eval (.tmp 5) = _
      rw [hag 5 (fun k ok hk hd => agree9 5 _ k ok hk hd (by decide +kernel)), e5]
    · -- out[at:]
      refine OpOK.value (hLr _) fun a w hC hag hdp => ?_
      obtain ⟨vp, hp, tp⟩ := hdp 11 (by decide) _ rfl
      have up := tp 56 rfl
      obtain ⟨vr, hr, tr⟩ := hdp 12 (by decide) _ rfl
      have ur := tr 57 rfl
      exact ⟨_, exec_slice_l idTyR _ _ rfl q l.length c n (up.trans hp) (ur.trans hr) hn, rfl⟩
    · -- append
      intro a w hC hag hdp K hKK
      obtain ⟨vp, hp, tp⟩ := hdp 10 (by decide) _ rfl
      have up := tp 55 rfl
      obtain ⟨vr, hr, tr⟩ := hdp 13 (by decide) _ rfl
      have ur := tr 58 rfl
      have hr' : vr = .slice (if c = n then q else q.map (·.add (n * 20))) (l.length - n) (c - n) := hr
      refine wp_append_ids idTyR (.tmp 55) (.tmp 58) rfl W.heap.size vp (l.take n ++ [x]).toArray (l.drop n).toArray up hp _ (c - n) (by rw [show a.eval (.tmp 58) = vr from ur, hr']; simp) (idrow_drop (hrow w hC) n c hn hc) (by simp; omega) hC.size ?_
      intro v' w' h1 h2 _
      refine hKK v' w' ?_ ⟨h2, fun _ h => absurd rfl h⟩
      have e : (l.take n ++ [x]).toArray ++ (l.drop n).toArray = (l.take n ++ [x] ++ l.drop n).toArray := by simp
      rw [e] at h1
      exact h1
    · -- out =
      refine OpOK.value (hLr _) fun a w hC hag hdp => ?_
      obtain ⟨vp, hp, tp⟩ := hdp 14 (by decide) _ rfl
      have up := tp 59 rfl
      exact ⟨_, exec_assign _ rfl, by rw [up]; exact hp⟩
  · intro vs w' hC hf
    exact hK vs w' hC (hf 15 (by rw [hsz16]; decide) rfl)
end Go.Proofs.Ytgdiajhegmdfgaa
