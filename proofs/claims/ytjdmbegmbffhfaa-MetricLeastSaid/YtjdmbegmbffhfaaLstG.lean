/-
  One id more from the back: a region of MetricLeast. Conditions: as the theorem says.
-/
import Derived.Test.YtjdmbegmbffhfaaLstF
namespace Go.Proofs.Ytjdmbegmbffhfaa
open Go.RowKit Go.Sort Go.Lib

def opsL : List Oper := [{ dst := some 46, op := Op.load 32 (Operand.tmp 3), type := 32, pos := "law.go:65", after := #[], guard := none }, { dst := some 47, op := Op.move (Operand.tmp 9), type := 78, pos := "law.go:65", after := #[], guard := none }, { dst := some 48, op := Op.move (Operand.tmp 1), type := 78, pos := "law.go:65", after := #[], guard := none }, { dst := some 49, op := Op.move (Operand.tmp 1), type := 78, pos := "law.go:65", after := #[], guard := none }, { dst := some 50, op := Op.call { callee := Callee.builtin Builtin.len, args := #[Operand.tmp 49], argTypes := #[78] }, type := 3, pos := "law.go:65", after := #[{ on := 3, ground := Ground.data }], guard := none }, { dst := some 51, op := Op.binOp BinOp.sub 3 (Operand.tmp 50) (Operand.const (Value.int IntKind.i64 1)) 3, type := 3, pos := "law.go:65", after := #[{ on := 4, ground := Ground.data }], guard := none }, { dst := some 52, op := Op.move (Operand.tmp 10), type := 3, pos := "law.go:65", after := #[], guard := none }, { dst := some 53, op := Op.binOp BinOp.sub 3 (Operand.tmp 51) (Operand.tmp 52) 3, type := 3, pos := "law.go:65", after := #[{ on := 5, ground := Ground.data }, { on := 6, ground := Ground.data }], guard := none }, { dst := some 54, op := Op.indexAddr 78 (Operand.tmp 48) (Operand.tmp 53), type := 0, pos := "law.go:65", after := #[{ on := 2, ground := Ground.data }, { on := 7, ground := Ground.data }], guard := none }, { dst := some 55, op := Op.load 32 (Operand.tmp 54), type := 32, pos := "law.go:65", after := #[{ on := 8, ground := Ground.data }], guard := none }, { dst := some 56, op := Op.move (Operand.tmp 2), type := 3, pos := "law.go:65", after := #[], guard := none }, { dst := some 57, op := Op.call { callee := Callee.value (Operand.func 50), args := #[Operand.tmp 46, Operand.tmp 47, Operand.tmp 55, Operand.tmp 56], argTypes := #[32, 78, 32, 3] }, type := 81, pos := "law.go:65", after := #[{ on := 0, ground := Ground.data }, { on := 1, ground := Ground.data }, { on := 9, ground := Ground.data }, { on := 10, ground := Ground.data }], guard := none }, { dst := some 45, op := Op.move (Operand.tmp 57), type := 81, pos := "law.go:65", after := #[{ on := 11, ground := Ground.data }], guard := none }, { dst := some 58, op := Op.extract (Operand.tmp 45) 0, type := 78, pos := "law.go:65", after := #[{ on := 12, ground := Ground.data }], guard := none }, { dst := some 59, op := Op.extract (Operand.tmp 45) 1, type := 4, pos := "law.go:65", after := #[{ on := 12, ground := Ground.data }, { on := 15, ground := Ground.gcOnly Departure.lateStores }], guard := none }, { dst := some 9, op := Op.assign (Operand.tmp 58), type := 78, pos := "law.go:65", after := #[{ on := 13, ground := Ground.data }, { on := 11, ground := Ground.chain }, { on := 0, ground := Ground.phase }, { on := 1, ground := Ground.phase }, { on := 2, ground := Ground.phase }, { on := 3, ground := Ground.phase }, { on := 4, ground := Ground.phase }, { on := 5, ground := Ground.phase }, { on := 6, ground := Ground.phase }, { on := 7, ground := Ground.phase }, { on := 8, ground := Ground.phase }, { on := 9, ground := Ground.phase }, { on := 10, ground := Ground.phase }, { on := 11, ground := Ground.phase }, { on := 12, ground := Ground.phase }, { on := 13, ground := Ground.phase }, { on := 14, ground := Ground.textOnly Departure.lateStores }], guard := none }]
def usesL : Nat → List Nat
  | 4 => [3] | 5 => [4] | 7 => [5, 6] | 8 => [2, 7] | 9 => [8] | 11 => [0, 1, 9, 10] | 12 => [11] | 13 => [12] | 14 => [12] | 15 => [13] | _ => []
def ancL : Nat → List Nat := fun _ => []
def finL : Nat → Bool := fun i => i == 15
theorem agreeL (t i : Nat) (k : Nat) (ok : Oper) (hk : opsL[k]? = some ok) (hd : ok.dst = some t) (h : opsL.all (fun o => o.dst != some t || (depsOf o).contains i) = true) : i ∈ depsOf ok := by
  have h1 := List.all_eq_true.1 h ok (List.mem_of_getElem? hk)
  rw [hd] at h1
  simpa using h1
theorem exec_lenL {ρ : Operand → Value} {w : World} {o : Oper} (x : Operand) (ho : o.op = .call { callee := .builtin .len, args := #[x], argTypes := #[78] }) (q : Option Addr) (n c : Nat) (hx : ρ x = .slice q n c) : (execOp ρ o).run Try.prog w = .ok (.value (.int .i64 n)) w := by
  simp [execOp, ho, resolve, invoke, builtin, Builtin.len_, run_underlying Try.underlying78, Builtin.lenOf, hx, goInt]
theorem exec_subL {ρ : Operand → Value} {w : World} {o : Oper} (x y : Operand) (ho : o.op = .binOp .sub 3 x y 3) (a b : Int) (hx : ρ x = .int .i64 a) (hy : ρ y = .int .i64 b) : (execOp ρ o).run Try.prog w = .ok (.value (.int .i64 (IntKind.i64.wrap (a - b)))) w := by
  simp [execOp, ho, hx, hy, binOp, eqGuard, Op.intArith]

theorem exec_indexL {ρ : Operand → Value} {w : World} {o : Oper} {sl T : TypeId} (h : IdTy sl T) (x y : Operand) (ho : o.op = .indexAddr sl x y) (ad : Addr) (len c k : Nat) (hx : ρ x = .slice (some ad) len c) (hy : ρ y = .int .i64 (k : Int)) (hk : k < len) :
    (execOp ρ o).run Try.prog w = .ok (.value (.pointer (some (ad.add (k * 20))))) w := by
  obtain ⟨i, hi, hz, hs, hby⟩ := info_parts h.i
  have hk1 : (k : Int) < (len : Int) := by omega
  simp [execOp, ho, hx, hy, Instr.indexAt, run_underlying h.u, sizeOf, typeInfo, hi, hs, hk, asInt, asIntOf]

/-- What each operation yields. -/
def phiL (W : World) (ad : Addr) (cap : Nat) (t : List UInt8) (d : Array Id20) (vb : Value) (B : List Id20) (y : Id20) (i j : Nat) (n : Int) : Nat → Value → World → Prop
  | 0 => fun v _ => v = .agg (bytesV t).toArray
  | 1 => fun v _ => v = vb
  | 2 => fun v _ => v = .slice (some ad) d.size cap
  | 3 => fun v _ => v = .slice (some ad) d.size cap
  | 4 => fun v _ => v = .int .i64 d.size
  | 5 => fun v _ => v = .int .i64 ((d.size : Int) - 1)
  | 6 => fun v _ => v = .int .i64 i
  | 7 => fun v _ => v = .int .i64 j
  | 8 => fun v _ => v = .pointer (some (ad.add (j * 20)))
  | 9 => fun v _ => v = .agg (bytesV y.1).toArray
  | 10 => fun v _ => v = .int .i64 n
  | 11 => fun v w => ∃ u b, v = .tuple #[u, .bool b] ∧ OwnIds 32 w W.heap.size u (withOne t B.toArray y n).toArray
  | 12 => fun v w => ∃ u b, v = .tuple #[u, .bool b] ∧ OwnIds 32 w W.heap.size u (withOne t B.toArray y n).toArray
  | 13 => fun v w => OwnIds 32 w W.heap.size v (withOne t B.toArray y n).toArray
  | 14 => fun _ _ => True
  | _ => fun v w => OwnIds 32 w W.heap.size v (withOne t B.toArray y n).toArray

set_option maxRecDepth 100000 in
set_option maxHeartbeats 2000000 in
theorem regionL {id : Nat} {Q : Exit → Act → World → Prop} {a0 : Act} {W : World} (t : List UInt8) (ht : t.length = 20) (ad : Addr) (d : Array Id20) (cap : Nat) (qb : Option Addr) (cb : Nat) (B : List Id20) (y : Id20) (i j : Nat) (n : Int) (b3 : Nat)
    (e1 : a0.eval (.tmp 1) = .slice (some ad) d.size cap) (e2 : a0.eval (.tmp 2) = .int .i64 n) (e3 : a0.eval (.tmp 3) = .pointer (some ⟨b3, 0, none⟩)) (e9 : a0.eval (.tmp 9) = .slice qb B.length cb) (e10 : a0.eval (.tmp 10) = .int .i64 i) (hsz : a0.tmps.size = 104)
    (h3 : Row W ⟨b3, 0, none⟩ (bytesV t)) (l3 : b3 < W.heap.size) (hp : IdRow W (some ad) d) (hpb : ad.block < W.heap.size) (hd : d.size < 400000) (hi : i < d.size) (hj : j = d.size - 1 - i) (hy : d[j]! = y)
    (hq : IdRow W qb B.toArray) (hqb : ∀ a, qb = some a → a.block < W.heap.size) (hqc : qb = none → cb = 0) (hB : B.length < 400000)
    (hK : ∀ (vs : Nat → Value) (w' : World), Below W.heap.size W w' → OwnIds 32 w' W.heap.size (vs 15) (withOne t B.toArray y n).toArray → Q .normal (putList opsL 0 vs a0) w') :
    (Code.region id opsL.toArray true).wp Try.prog Q a0 W := by
  have hsz16 : opsL.length = 16 := rfl
  have haT : IsAgg Try.prog 32 (bytesV t).length := by rw [bytes_len ht]; exact aggID
  have haY : IsAgg Try.prog 32 (bytesV y.1).length := by rw [bytes_len y.2]; exact aggID
  refine wp_region_assert usesL ancL finL (fun w => Below W.heap.size W w) (fun _ w w' => Below w.heap.size w w') (phiL W ad cap t d (.slice qb B.length cb) B y i j n) (by kernel_rfl) (by rw [hsz]; decide +kernel) (by decide +kernel) (below_drewN (Below.refl _ _) 1) (fun j w w' h hL => h.trans (hL.mono h.size)) ?_ ?_ ?_
  · intro k' i hk' hi hne hneed v w w' hC h hb
    rw [hsz16] at hk'
    match k', hk' with
    | 0, _ => exact h
    | 1, _ => exact h
    | 2, _ => exact h
    | 3, _ => exact h
    | 4, _ => exact h
    | 5, _ => exact h
    | 6, _ => exact h
    | 7, _ => exact h
    | 8, _ => exact h
    | 9, _ => exact h
    | 10, _ => exact h
    | 11, _ => obtain ⟨u, b, h1, h2⟩ := h; exact ⟨u, b, h1, h2.below hb⟩
    | 12, _ => obtain ⟨u, b, h1, h2⟩ := h; exact ⟨u, b, h1, h2.below hb⟩
    | 13, _ => exact OwnIds.below h hb
    | 14, _ => exact h
    | 15, _ => exact OwnIds.below h hb
    | m + 16, hm => exact absurd hm (by omega)
  · have hLr : ∀ w : World, Below w.heap.size w w := fun w => Below.refl _ _
    refine ⟨?_, ?_, ?_, ?_, ?_, ?_, ?_, ?_, ?_, ?_, ?_, ?_, ?_, ?_, ?_, ?_, trivial⟩
    · -- t
      intro a w hC hag hdp K hKK
      exact wp_load_agg _ _ rfl ⟨b3, 0, none⟩ ((hag 3 (fun k ok hk hd => agreeL 3 _ k ok hk hd (by decide +kernel))).trans e3) (bytesV t) (h3.below hC l3) haT (hKK _ _ rfl (hLr _))
    · -- b
      refine OpOK.value hLr fun a w hC hag hdp => ⟨_, exec_moveK _ rfl, ?_⟩
      show a.eval (.tmp 9) = _
      rw [hag 9 (fun k ok hk hd => agreeL 9 _ k ok hk hd (by decide +kernel)), e9]
    · -- l
      refine OpOK.value hLr fun a w hC hag hdp => ⟨_, exec_moveK _ rfl, ?_⟩
      show a.eval (.tmp 1) = _
      rw [hag 1 (fun k ok hk hd => agreeL 1 _ k ok hk hd (by decide +kernel)), e1]
    · -- l
      refine OpOK.value hLr fun a w hC hag hdp => ⟨_, exec_moveK _ rfl, ?_⟩
      show a.eval (.tmp 1) = _
      rw [hag 1 (fun k ok hk hd => agreeL 1 _ k ok hk hd (by decide +kernel)), e1]
    · -- len
      refine OpOK.value hLr fun a w hC hag hdp => ?_
      obtain ⟨vp, hp, tp⟩ := hdp 3 (by decide) _ rfl
      have up := tp 49 rfl
      exact ⟨_, exec_lenL _ rfl (some ad) d.size cap (up.trans hp), rfl⟩
    · -- len - 1
      refine OpOK.value hLr fun a w hC hag hdp => ?_
      obtain ⟨vp, hp, tp⟩ := hdp 4 (by decide) _ rfl
      have up := tp 50 rfl
      exact ⟨_, exec_subL _ _ rfl (d.size : Int) 1 (up.trans hp) rfl, by show Value.int _ _ = Value.int _ _; rw [IntKind.wrap_i64]; congr 1; omega⟩
    · -- i
      refine OpOK.value hLr fun a w hC hag hdp => ⟨_, exec_moveK _ rfl, ?_⟩
      show a.eval (.tmp 10) = _
      rw [hag 10 (fun k ok hk hd => agreeL 10 _ k ok hk hd (by decide +kernel)), e10]
    · -- len - 1 - i
      refine OpOK.value hLr fun a w hC hag hdp => ?_
      obtain ⟨vp, hp, tp⟩ := hdp 5 (by decide) _ rfl
      have up := tp 51 rfl
      obtain ⟨vr, hr, tr⟩ := hdp 6 (by decide) _ rfl
      have ur := tr 52 rfl
      exact ⟨_, exec_subL _ _ rfl ((d.size : Int) - 1) (i : Int) (up.trans hp) (ur.trans hr), by show Value.int _ _ = Value.int _ _; rw [IntKind.wrap_i64]; congr 1; omega⟩
    · -- its place
      refine OpOK.value hLr fun a w hC hag hdp => ?_
      obtain ⟨vp, hp, tp⟩ := hdp 2 (by decide) _ rfl
      have up := tp 48 rfl
      obtain ⟨vr, hr, tr⟩ := hdp 7 (by decide) _ rfl
      have ur := tr 53 rfl
      exact ⟨_, exec_indexL idTyA _ _ rfl ad d.size cap j (up.trans hp) (ur.trans hr) (by omega), rfl⟩
    · -- the id
      intro a w hC hag hdp K hKK
      obtain ⟨vp, hp, tp⟩ := hdp 8 (by decide) _ rfl
      have up := tp 54 rfl
      refine wp_load_agg _ _ rfl (ad.add (j * 20)) (up.trans hp) (bytesV y.1) ?_ haY (hKK _ _ rfl (hLr _))
      exact (IdRow.below ‹IdRow W (some ad) d› hC (fun a ha => by obtain rfl := Option.some.inj ha; exact hpb)).atq (by omega) hy
    · -- n
      refine OpOK.value hLr fun a w hC hag hdp => ⟨_, exec_moveK _ rfl, ?_⟩
      show a.eval (.tmp 2) = _
      rw [hag 2 (fun k ok hk hd => agreeL 2 _ k ok hk hd (by decide +kernel)), e2]
    · -- Insert
      intro a w hC hag hdp K hKK
      obtain ⟨vp, hp, tp⟩ := hdp 0 (by decide) _ rfl
      have up := tp 46 rfl
      obtain ⟨vr, hr, tr⟩ := hdp 1 (by decide) _ rfl
      have ur := tr 47 rfl
      obtain ⟨vs, hs, ts⟩ := hdp 9 (by decide) _ rfl
      have us := ts 55 rfl
      obtain ⟨vz, hz, tz⟩ := hdp 10 (by decide) _ rfl
      have uz := tz 56 rfl
      refine wp_call 50 _ _ rfl (enters_of Try.func50 (by kernel_rfl) rfl) ?_
      have hBs : B.toArray.size = B.length := by simp
      have e : (#[Operand.tmp 46, Operand.tmp 47, Operand.tmp 55, Operand.tmp 56].map a.eval) = #[.agg (bytesV t).toArray, .slice qb B.toArray.size cb, .agg (bytesV y.1).toArray, .int .i64 n] := by
        rw [show (#[Operand.tmp 46, Operand.tmp 47, Operand.tmp 55, Operand.tmp 56].map a.eval) = #[a.eval (.tmp 46), a.eval (.tmp 47), a.eval (.tmp 55), a.eval (.tmp 56)] from by simp, up, ur, us, uz, show vp = _ from hp, show vr = _ from hr, show vs = _ from hs, show vz = _ from hz, hBs]
      rw [e]
      refine (metric_Insert t ht y qb B.toArray cb n w (hq.below hC hqb) (fun a ha => Nat.lt_of_lt_of_le (hqb a ha) hC.size) hqc (by simp; omega)).mono ?_
      rintro e' w' ⟨v, rfl, ho, hb⟩
      exact ⟨_, rfl, hKK _ _ ⟨_, _, rfl, OwnIds.mono ho hC.size⟩ hb⟩
    · -- both
      refine OpOK.value hLr fun a w hC hag hdp => ?_
      obtain ⟨vp, hp, tp⟩ := hdp 11 (by decide) _ rfl
      have up := tp 57 rfl
      exact ⟨_, exec_moveK _ rfl, by rw [up]; exact hp⟩
    · -- the first
      refine OpOK.value hLr fun a w hC hag hdp => ?_
      obtain ⟨vp, hp, tp⟩ := hdp 12 (by decide) _ rfl
      have up := tp 45 rfl
      obtain ⟨u, b, q1, q2⟩ := hp
      exact ⟨u, by simp [execOp, up, q1, Instr.extract], q2⟩
    · -- the second
      refine OpOK.value hLr fun a w hC hag hdp => ?_
      obtain ⟨vp, hp, tp⟩ := hdp 12 (by decide) _ rfl
      have up := tp 45 rfl
      obtain ⟨u, b, q1, q2⟩ := hp
      exact ⟨.bool b, by simp [execOp, up, q1, Instr.extract], trivial⟩
    · -- b =
      refine OpOK.value hLr fun a w hC hag hdp => ?_
      obtain ⟨vp, hp, tp⟩ := hdp 13 (by decide) _ rfl
      have up := tp 58 rfl
      exact ⟨_, exec_assignK _ rfl, by rw [up]; exact hp⟩
  · intro vs w' hC hf
    exact hK vs w' hC (hf 15 (by rw [hsz16]; decide) rfl)
end Go.Proofs.Ytjdmbegmbffhfaa
