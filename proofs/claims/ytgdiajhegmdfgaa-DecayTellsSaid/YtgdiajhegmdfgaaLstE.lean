/-
  metric.Rank. Conditions: the ids are twenty bytes; fewer than half a million of them.
-/
import Derived.Test.YtgdiajhegmdfgaaLstD
import Derived.Test.YtgdiajhegmdfgaaCallA
namespace Go.Proofs.Ytgdiajhegmdfgaa
open Go.RowKit Go.Sort Go.Lib

def opsK : List Oper := [{ dst := some 10, op := Op.load 34 (Operand.tmp 3), type := 34, pos := "metric.go:40", after := #[], guard := none }, { dst := some 11, op := Op.move (Operand.tmp 2), type := 28, pos := "metric.go:40", after := #[], guard := none }, { dst := some 12, op := Op.call { callee := Callee.value (Operand.func 21), args := #[Operand.tmp 10, Operand.tmp 11], argTypes := #[34, 28] }, type := 28, pos := "metric.go:40", after := #[{ on := 0, ground := Ground.data }, { on := 1, ground := Ground.data }], guard := none }, { dst := some 13, op := Op.load 34 (Operand.tmp 4), type := 34, pos := "metric.go:40", after := #[], guard := none }, { dst := some 14, op := Op.load 34 (Operand.tmp 3), type := 34, pos := "metric.go:40", after := #[], guard := none }, { dst := some 15, op := Op.call { callee := Callee.value (Operand.func 54), args := #[Operand.tmp 14], argTypes := #[34] }, type := 39, pos := "metric.go:40", after := #[{ on := 4, ground := Ground.data }, { on := 2, ground := Ground.chain }], guard := none }, { dst := some 16, op := Op.call { callee := Callee.value (Operand.func 56), args := #[Operand.tmp 12, Operand.tmp 13, Operand.tmp 15], argTypes := #[28, 34, 39] }, type := 76, pos := "metric.go:40", after := #[{ on := 2, ground := Ground.data }, { on := 3, ground := Ground.data }, { on := 5, ground := Ground.data }, { on := 5, ground := Ground.chain }], guard := none }, { dst := some 9, op := Op.move (Operand.tmp 16), type := 76, pos := "metric.go:40", after := #[{ on := 6, ground := Ground.data }], guard := none }, { dst := some 17, op := Op.extract (Operand.tmp 9) 0, type := 3, pos := "metric.go:40", after := #[{ on := 7, ground := Ground.data }], guard := none }, { dst := some 18, op := Op.extract (Operand.tmp 9) 1, type := 4, pos := "metric.go:40", after := #[{ on := 7, ground := Ground.data }, { on := 10, ground := Ground.gcOnly Departure.lateStores }], guard := none }, { dst := some 7, op := Op.assign (Operand.tmp 17), type := 3, pos := "metric.go:40", after := #[{ on := 8, ground := Ground.data }, { on := 6, ground := Ground.chain }, { on := 0, ground := Ground.phase }, { on := 1, ground := Ground.phase }, { on := 2, ground := Ground.phase }, { on := 3, ground := Ground.phase }, { on := 4, ground := Ground.phase }, { on := 5, ground := Ground.phase }, { on := 6, ground := Ground.phase }, { on := 7, ground := Ground.phase }, { on := 8, ground := Ground.phase }, { on := 9, ground := Ground.textOnly Departure.lateStores }], guard := none }, { dst := some 8, op := Op.assign (Operand.tmp 18), type := 4, pos := "metric.go:40", after := #[{ on := 9, ground := Ground.data }, { on := 10, ground := Ground.chain }, { on := 0, ground := Ground.phase }, { on := 1, ground := Ground.phase }, { on := 2, ground := Ground.phase }, { on := 3, ground := Ground.phase }, { on := 4, ground := Ground.phase }, { on := 5, ground := Ground.phase }, { on := 6, ground := Ground.phase }, { on := 7, ground := Ground.phase }, { on := 8, ground := Ground.phase }, { on := 9, ground := Ground.phase }, { on := 10, ground := Ground.phase }], guard := none }]
def usesK : Nat → List Nat
  | 2 => [0, 1] | 5 => [4] | 6 => [2, 3, 5] | 7 => [6] | 8 => [7] | 9 => [7] | 10 => [8] | 11 => [9] | _ => []
def ancK : Nat → List Nat
  | 2 => [0, 1] | 5 => [4] | 6 => [2, 3, 5, 0, 1, 4] | 7 => [6, 2, 3, 5, 0, 1, 4] | 8 => [7, 6, 2, 3, 5, 0, 1, 4] | 9 => [7, 6, 2, 3, 5, 0, 1, 4] | 10 => [8, 7, 6, 2, 3, 5, 0, 1, 4] | 11 => [9, 7, 6, 2, 3, 5, 0, 1, 4] | _ => []
def finK : Nat → Bool := fun i => i == 10

/-- How many of ids sorted by their distance are nearer. -/
def RankIs (t : List UInt8) (l : List Id20) (x : Id20) (n : Nat) : Prop := n ≤ l.length ∧ (∀ k, k < n → farC t l.toArray[k]!.1 x.1 < 0) ∧ (∀ k, n ≤ k → k < l.length → 0 ≤ farC t l.toArray[k]!.1 x.1)

/-- What each operation yields. -/
def phiK (p : Option Addr) (size cap : Nat) (t : List UInt8) (x : Id20) (N : List Id20) : Nat → Value → World → Prop
  | 0 => fun v _ => v = .agg (bytesV t).toArray
  | 1 => fun v _ => v = .slice p size cap
  | 2 => fun v w => ∃ g, v = .slice (some ⟨g, 0, none⟩) N.length size ∧ IdRow w (some ⟨g, 0, none⟩) N.toArray ∧ g < w.heap.size
  | 3 => fun v _ => v = .agg (bytesV x.1).toArray
  | 4 => fun v _ => v = .agg (bytesV t).toArray
  | 5 => fun v w => ∃ g, v = .func (.func 76) #[] #[.pointer (some ⟨g, 0, none⟩)] ∧ BB 34 w g t
  | 6 => fun v _ => ∃ n b, v = .tuple #[.int .i64 (n : Nat), .bool b] ∧ RankIs t N x n
  | 7 => fun v _ => ∃ n b, v = .tuple #[.int .i64 (n : Nat), .bool b] ∧ RankIs t N x n
  | 8 => fun v _ => ∃ n, v = .int .i64 (n : Nat) ∧ RankIs t N x n
  | 9 => fun _ _ => True
  | 10 => fun v _ => ∃ n, v = .int .i64 (n : Nat) ∧ RankIs t N x n
  | _ => fun _ _ => True

theorem agreeK (t i : Nat) (k : Nat) (ok : Oper) (hk : opsK[k]? = some ok) (hd : ok.dst = some t) (h : opsK.all (fun o => o.dst != some t || (depsOf o).contains i) = true) : i ∈ depsOf ok := by
  have h1 := List.all_eq_true.1 h ok (List.mem_of_getElem? hk)
  rw [hd] at h1
  simpa using h1
theorem exec_moveK {ρ : Operand → Value} {w : World} {o : Oper} (x : Operand) (ho : o.op = .move x) : (execOp ρ o).run Try.prog w = .ok (.value (ρ x)) w := by simp [execOp, ho]
theorem exec_assignK {ρ : Operand → Value} {w : World} {o : Oper} (x : Operand) (ho : o.op = .assign x) : (execOp ρ o).run Try.prog w = .ok (.value (ρ x)) w := by simp [execOp, ho]

set_option maxRecDepth 100000 in
set_option maxHeartbeats 2000000 in
theorem regionK {id : Nat} {Q : Exit → Act → World → Prop} {a0 : Act} {W : World} (t : List UInt8) (ht : t.length = 20) (x : Id20) (p : Option Addr) (d : Array Id20) (cap : Nat) (b3 b4 : Nat)
    (e2 : a0.eval (.tmp 2) = .slice p d.size cap) (e3 : a0.eval (.tmp 3) = .pointer (some ⟨b3, 0, none⟩)) (e4 : a0.eval (.tmp 4) = .pointer (some ⟨b4, 0, none⟩)) (hsz : a0.tmps.size = 20)
    (h3 : Row W ⟨b3, 0, none⟩ (bytesV t)) (h4 : Row W ⟨b4, 0, none⟩ (bytesV x.1)) (l3 : b3 < W.heap.size) (l4 : b4 < W.heap.size) (hp : IdRow W p d) (hpb : ∀ a, p = some a → a.block < W.heap.size) (hd : d.size < 500000)
    (hK : ∀ (vs : Nat → Value) (w' : World), Below W.heap.size W w' → (∃ n, vs 10 = .int .i64 (n : Nat) ∧ RankIs t (nearD t d) x n) → Q .normal (putList opsK 0 vs a0) w') :
    (Code.region id opsK.toArray true).wp Try.prog Q a0 W := by
  have hsz12 : opsK.length = 12 := rfl
  have haT : IsAgg Try.prog 34 (bytesV t).length := by rw [bytes_len ht]; exact aggID
  have haX : IsAgg Try.prog 34 (bytesV x.1).length := by rw [bytes_len x.2]; exact aggID
  obtain ⟨hup, _⟩ := nearD_spec t ht d
  have hlen : (nearD t d).length ≤ d.size := by
    unfold nearD compactUpTo
    rw [List.length_map]
    exact Nat.le_trans (List.length_filter_le _ _) (by simp)
  have hsort := fun w (hw : Below W.heap.size W w) => metric_Sort t ht p d cap w (hp.below hw hpb) (fun a ha => Nat.lt_of_lt_of_le (hpb a ha) hw.size) (by omega)
  obtain ⟨N, hN⟩ : ∃ N, nearD t d = N := ⟨_, rfl⟩
  rw [hN] at hup hlen hK
  simp only [hN] at hsort
  refine wp_region_assert usesK ancK finK (fun w => Below W.heap.size W w) (fun _ w w' => Below w.heap.size w w') (phiK p d.size cap t x N) (by kernel_rfl) (by rw [hsz]; decide +kernel) (by decide +kernel) (below_drewN (Below.refl _ _) 1) (fun j w w' h hL => h.trans (hL.mono h.size)) ?_ ?_ ?_
  · intro k' i hk' hi hne hneed v w w' hC h hb
    rw [hsz12] at hk'
    match k', hk' with
    | 0, _ => exact h
    | 1, _ => exact h
    | 2, _ => obtain ⟨g, h1, h2, h3⟩ := h; exact ⟨g, h1, h2.below hb (fun a ha => by obtain rfl := Option.some.inj ha; exact h3), Nat.lt_of_lt_of_le h3 hb.size⟩
    | 3, _ => exact h
    | 4, _ => exact h
    | 5, _ => obtain ⟨g, h1, h2⟩ := h; exact ⟨g, h1, h2.below hb⟩
    | 6, _ => exact h
    | 7, _ => exact h
    | 8, _ => exact h
    | 9, _ => exact h
    | 10, _ => exact h
    | 11, _ => exact h
    | m + 12, hm => exact absurd hm (by omega)
  · have hLr : ∀ w : World, Below w.heap.size w w := fun w => Below.refl _ _
    refine ⟨?_, ?_, ?_, ?_, ?_, ?_, ?_, ?_, ?_, ?_, ?_, ?_, trivial⟩
    · -- t
      intro a w hC hag hdp K hKK
      exact wp_load_agg _ _ rfl ⟨b3, 0, none⟩ ((hag 3 (fun k ok hk hd => agreeK 3 _ k ok hk hd (by decide +kernel))).trans e3) (bytesV t) (h3.below hC l3) haT (hKK _ _ rfl (hLr _))
    · -- l
      refine OpOK.value hLr fun a w hC hag hdp => ⟨_, exec_moveK _ rfl, ?_⟩
      show a.eval (.tmp 2) = _
      rw [hag 2 (fun k ok hk hd => agreeK 2 _ k ok hk hd (by decide +kernel)), e2]
    · -- Sort
      intro a w hC hag hdp K hKK
      obtain ⟨vp, hp, tp⟩ := hdp 0 (by decide) _ rfl
      have up := tp 10 rfl
      obtain ⟨vr, hr, tr⟩ := hdp 1 (by decide) _ rfl
      have ur := tr 11 rfl
      refine wp_call 21 _ _ rfl (enters_of Try.func21 (by kernel_rfl) rfl) ?_
      have e : (#[Operand.tmp 10, Operand.tmp 11].map a.eval) = #[.agg (bytesV t).toArray, .slice p d.size cap] := by
        rw [show (#[Operand.tmp 10, Operand.tmp 11].map a.eval) = #[a.eval (.tmp 10), a.eval (.tmp 11)] from by simp]
        rw [up, ur, show vp = _ from hp, show vr = _ from hr]
      rw [e]
      refine (hsort w hC).mono ?_
      rintro e' w' ⟨rfl, hb, hi⟩
      refine ⟨_, rfl, hKK _ _ ⟨_, rfl, ⟨(fun h => by cases h), fun a ha => ?_⟩, hi.lt⟩ hb⟩
      obtain rfl := Option.some.inj ha
      intro j u hj
      refine Row.of_block hi j u ?_
      have e2 : (N ++ List.replicate (d.size - N.length) noId).toArray = N.toArray ++ (List.replicate (d.size - N.length) noId).toArray := by simp
      rw [e2, idsV_append, List.getElem?_append_left (List.getElem?_eq_some_iff.1 hj).1]
      exact hj
    · -- id
      intro a w hC hag hdp K hKK
      exact wp_load_agg _ _ rfl ⟨b4, 0, none⟩ ((hag 4 (fun k ok hk hd => agreeK 4 _ k ok hk hd (by decide +kernel))).trans e4) (bytesV x.1) (h4.below hC l4) haX (hKK _ _ rfl (hLr _))
    · -- t
      intro a w hC hag hdp K hKK
      exact wp_load_agg _ _ rfl ⟨b3, 0, none⟩ ((hag 3 (fun k ok hk hd => agreeK 3 _ k ok hk hd (by decide +kernel))).trans e3) (bytesV t) (h3.below hC l3) haT (hKK _ _ rfl (hLr _))
    · -- by
      intro a w hC hag hdp K hKK
      obtain ⟨vp, hp, tp⟩ := hdp 4 (by decide) _ rfl
      have up := tp 14 rfl
      refine wp_call 54 _ _ rfl (enters_of Try.func54 (by kernel_rfl) rfl) ?_
      have e : (#[Operand.tmp 14].map a.eval) = #[.agg (bytesV t).toArray] := by
        rw [show (#[Operand.tmp 14].map a.eval) = #[a.eval (.tmp 14)] from by simp]
        rw [up, show vp = _ from hp]
      rw [e]
      refine (metric_by t ht w).mono ?_
      rintro e' w' ⟨rfl, rfl⟩
      exact ⟨_, rfl, hKK _ _ ⟨_, rfl, heap_alloc_new _ _⟩ ((Below.refl _ _).alloc (Nat.le_refl _) _)⟩
    · -- the search
      intro a w hC hag hdp K hKK
      obtain ⟨vp, hp, tp⟩ := hdp 2 (by decide) _ rfl
      have up := tp 12 rfl
      obtain ⟨vr, hr, tr⟩ := hdp 3 (by decide) _ rfl
      have ur := tr 13 rfl
      obtain ⟨vs, hs, ts⟩ := hdp 5 (by decide) _ rfl
      have us := ts 15 rfl
      obtain ⟨g, hg1, hg2, hg3⟩ := hp
      obtain ⟨gb, hb1, hb2⟩ := hs
      refine wp_call 56 _ _ rfl (enters_of Try.func56 (by kernel_rfl) rfl) ?_
      have hNs : N.toArray.size = N.length := by simp
      have e : (#[Operand.tmp 12, Operand.tmp 13, Operand.tmp 15].map a.eval) = #[.slice (some ⟨g, 0, none⟩) N.toArray.size d.size, .agg (bytesV x.1).toArray, .func (.func 76) #[] #[.pointer (some ⟨gb, 0, none⟩)]] := by
        rw [show (#[Operand.tmp 12, Operand.tmp 13, Operand.tmp 15].map a.eval) = #[a.eval (.tmp 12), a.eval (.tmp 13), a.eval (.tmp 15)] from by simp]
        rw [up, ur, us, hg1, show vr = _ from hr, hb1, hNs]
      rw [e]
      refine (search_IDs t ht (some ⟨g, 0, none⟩) N.toArray d.size gb x w hg2 (fun a ha => by obtain rfl := Option.some.inj ha; exact hg3) hb2 (by simp; omega) (nearUp_of t N hup)).mono ?_
      rintro e' w' ⟨n, b, rfl, q1, q2, q3, hb⟩
      exact ⟨_, rfl, hKK _ _ ⟨n, b, rfl, by simpa using q1, q2, fun k h1 h2 => q3 k h1 (by simpa using h2)⟩ hb⟩
    · -- both
      refine OpOK.value hLr fun a w hC hag hdp => ?_
      obtain ⟨vp, hp, tp⟩ := hdp 6 (by decide) _ rfl
      have up := tp 16 rfl
      exact ⟨_, exec_moveK _ rfl, by rw [up]; exact hp⟩
    · -- the first
      refine OpOK.value hLr fun a w hC hag hdp => ?_
      obtain ⟨vp, hp, tp⟩ := hdp 7 (by decide) _ rfl
      have up := tp 9 rfl
      obtain ⟨n, b, q1, q2⟩ := hp
      exact ⟨.int .i64 n, by simp [execOp, up, q1, Instr.extract], n, rfl, q2⟩
    · -- the second
      refine OpOK.value hLr fun a w hC hag hdp => ?_
      obtain ⟨vp, hp, tp⟩ := hdp 7 (by decide) _ rfl
      have up := tp 9 rfl
      obtain ⟨n, b, q1, q2⟩ := hp
      exact ⟨.bool b, by simp [execOp, up, q1, Instr.extract], trivial⟩
    · -- n =
      refine OpOK.value hLr fun a w hC hag hdp => ?_
      obtain ⟨vp, hp, tp⟩ := hdp 8 (by decide) _ rfl
      have up := tp 17 rfl
      exact ⟨_, exec_assignK _ rfl, by rw [up]; exact hp⟩
    · -- _ =
      refine OpOK.value hLr fun a w hC hag hdp => ⟨_, exec_assignK _ rfl, trivial⟩
  · intro vs w' hC hf
    exact hK vs w' hC (hf 10 (by rw [hsz12]; decide) rfl)

set_option maxRecDepth 100000 in
set_option maxHeartbeats 2000000 in
theorem metric_Rank (t : List UInt8) (ht : t.length = 20) (x : Id20) (p : Option Addr) (d : Array Id20) (cap : Nat) (w : World) (hp : IdRow w p d) (hpb : ∀ a, p = some a → a.block < w.heap.size) (hd : d.size < 500000) :
    Calls Try.prog 25 #[.agg (bytesV t).toArray, .agg (bytesV x.1).toArray, .slice p d.size cap] w fun e w' => ∃ n : Nat, e = .returned (.int .i64 n) ∧ RankIs t (nearD t d) x n ∧ Below w.heap.size w w' := by
  have st := bytes_size ht
  have sx := bytes_size x.2
  have hb2 : Below w.heap.size w ((w.alloc (.cells (bytesV t).toArray 34)).alloc (.cells (bytesV x.1).toArray 34)) := ((Below.refl _ _).alloc (Nat.le_refl _) _).alloc (by simp) _
  have HB := Lib.hid hb2
  have HP := Lib.hid (hp.below hb2 hpb)
  have HPB := Lib.hid (fun a ha => Nat.lt_of_lt_of_le (hpb a ha) hb2.size)
  have h3 : Hid (Row ((w.alloc (.cells (bytesV t).toArray 34)).alloc (.cells (bytesV x.1).toArray 34)) ⟨w.heap.size, 0, none⟩ (bytesV t)) := Lib.hid (BB.row (T := 34) (BB.alloc (l := t) (heap_alloc_new _ _) _))
  have h4 : Hid (Row ((w.alloc (.cells (bytesV t).toArray 34)).alloc (.cells (bytesV x.1).toArray 34)) ⟨w.heap.size + 1, 0, none⟩ (bytesV x.1)) := Lib.hid (BB.row (T := 34) (heap_alloc2_new _ _ _))
  clear hp hpb hb2
  go_enter Try.func25, Try.ntmps25
  go_wp2_with fail
  refine regionK t ht x p d cap w.heap.size (w.heap.size + 1) rfl rfl rfl rfl h3.out h4.out (by simp; omega) (by simp) HP.out HPB.out hd ?_
  rintro vs w7 hb7 ⟨n, hn, hr⟩
  have HR := Lib.hid hr
  have HB7 : Hid (Below w.heap.size w w7) := Lib.hid (HB.out.trans (hb7.mono HB.out.size))
  clear hr hb7
  simp only [putList, opsK]
  rw [hn]
  go_wp2_with fail
  go_ret
  exact ⟨n, rfl, HR.out, HB7.out⟩
end Go.Proofs.Ytgdiajhegmdfgaa
