/-
  A select of one case with a default, inside a walk: the walk of a frame that is no early one. Conditions: the channel is open, and nobody else is there.
-/
import Derived.WalkKit
import Derived.Conc.LoneSelect
import Derived.Conc.LoneSelectN
namespace Go.Proofs.Ythcflakdimedpaa
open Go.RowKit Go.Conc

/-- What the code comes to, in whatever frame that is no early one. -/
def wpn (P : Program) (c : Code) (Q : Exit → Act → World → Prop) (a : Act) (w : World) : Prop :=
  ∀ (b : Frame) (k : List Item) (cs : List Frame), b.kind ≠ .early → ∃ e a' w', Q e a' w' ∧ Arrives P (lone (b.at a (.code c :: k)) cs w) b k cs e a' w'

section
variable {P : Program} {Q : Exit → Act → World → Prop} {a : Act} {w : World}

theorem wpn_of_wp {c : Code} (h : c.wp P Q a w) : wpn P c Q a w := fun b k cs _ => h b k cs

theorem wpn_seq {x y : Code} (h : wpn P x (Exit.then (fun a w => wpn P y Q a w) Q) a w) : wpn P (Code.seq x y) Q a w := by
  intro b k cs hb
  obtain ⟨e, a₁, w₁, hq, harr⟩ := h b (.code y :: k) cs hb
  cases e with
  | normal =>
    obtain ⟨e₂, a₂, w₂, hq₂, harr₂⟩ := hq b k cs hb
    exact ⟨e₂, a₂, w₂, hq₂, .of_steps (.head step_seq harr) harr₂⟩
  | exit id => exact ⟨_, a₁, w₁, hq, .of_steps (.one step_seq) (.pass (x := .code y) rfl (fun _ _ => .inl (by simp)) harr)⟩
  | goto l => exact ⟨_, a₁, w₁, hq, .of_steps (.one step_seq) (.pass (x := .code y) rfl (fun _ _ => .inl (by simp)) harr)⟩
  | ret => exact ⟨_, a₁, w₁, hq, .of_steps (.one step_seq) (.pass (x := .code y) rfl (fun _ _ => .inl (by simp)) harr)⟩
  | panic ch => exact ⟨_, a₁, w₁, hq, .of_steps (.one step_seq) (.pass (x := .code y) rfl (fun _ _ => .inl (by simp)) harr)⟩
  | outgrown => exact ⟨_, a₁, w₁, hq, .of_steps (.one step_seq) (.pass (x := .code y) rfl (fun _ _ => .inl (by simp)) harr)⟩

/-- The first part by the plain walk; what follows is behind a name. -/
theorem wpn_seq_k {x y : Code} (h : ∀ K : Act → World → Prop, (∀ a w, wpn P y Q a w → K a w) → x.wp P (Exit.then K Q) a w) : wpn P (Code.seq x y) Q a w :=
  wpn_seq (wpn_of_wp (h _ fun _ _ h => h))

theorem calls_of_wpn {f : FuncId} {fn : Func} {c : Code} {args : Array Value} {R : Ending → World → Prop} (hf : P.funcs[f]? = some fn) (hb : fn.body = some c)
    (h : wpn P c (bodyPost P fn R) { tmps := args ++ Array.replicate (fn.ntmps - args.size) undef, defers := [] } w) : Calls P f args w R := by
  intro cs
  let b : Frame := { (default : Frame) with fn := f, kind := .normal }
  have henter : Frame.enter P f args .normal = b.at { tmps := args ++ Array.replicate (fn.ntmps - args.size) undef, defers := [] } [.code c] := by
    simp [Frame.enter, Frame.at, hf, hb, b]
  obtain ⟨e, a', w', hq, harr⟩ := h b [] cs (by simp [b])
  rw [← henter] at harr
  cases e with
  | normal =>
    obtain ⟨hd, v, hr, hR⟩ := hq
    exact ⟨.returned v, w', _, hR, Steps.trans harr (.one step_end), rfl, rfl, hd, rfl, fn, hf, hr⟩
  | ret =>
    obtain ⟨hd, v, hr, hR⟩ := hq
    obtain ⟨todo, hs⟩ := harr
    exact ⟨.returned v, w', _, hR, hs, rfl, rfl, hd, rfl, fn, hf, hr⟩
  | panic chain =>
    obtain ⟨hd, hR⟩ := hq
    obtain ⟨todo, hs⟩ := harr
    exact ⟨.panicked chain, w', _, hR, hs, rfl, rfl, hd, fn, hf⟩
  | exit id => exact hq.elim
  | goto l => exact hq.elim
  | outgrown => exact ⟨.outgrown, w', b, hq, harr.resolve_left (by simp [b]), rfl, trivial⟩

/-- A region that begins with a communication. -/
theorem wpn_region_comm {id : Nat} {o : Oper} {l : List Oper} {v : Value} {w' : World}
    (hstep : ∀ (b : Frame) (k : List Item) (cs : List Frame), b.kind ≠ .early →
      step P (lone (b.at a (.inRegion (o :: l).toArray (List.range' 0 (l.length + 1)) :: k)) cs w) = .next (lone ((b.at a (.inRegion (o :: l).toArray (0 :: List.range' 1 l.length) :: k)).finish v) cs w'))
    (h : wpList P (o :: l).toArray Q l (a.put o.dst v) w') : wpn P (.region id (o :: l).toArray false) Q a w := by
  intro b k cs hb
  have hops : wpOps P (o :: l).toArray Q (List.range' 1 l.length) (a.put o.dst v) w' := by
    rw [wpOps_eq_wpList l 1 (fun j => by simp [Nat.add_comm 1 j])]
    exact h
  obtain ⟨e, a', w2, q, r⟩ := wp_ops _ _ _ hops b k cs
  refine ⟨e, a', w2, q, .of_steps (.head step_region (.one ?_)) r⟩
  have h1 := hstep b k cs hb
  rw [Frame.finish_at] at h1
  simpa [List.range_eq_range'] using h1

theorem comm_of {o : Oper} {l : List Oper} {cases : Array CommCase} {blocking : Bool} {shape : CommShape} {b : Frame} {k : List Item} {cs : List Frame} (hgd : o.guard = none) (hb : b.kind ≠ .early)
    (hr : (execOp a.eval o).run P w = .ok (.comm cases blocking shape) w) :
    stepG P true (G (b.at a (.inRegion (o :: l).toArray (List.range' 0 (l.length + 1)) :: k)) cs) w = .comm (G (b.at a (.inRegion (o :: l).toArray (0 :: List.range' 1 l.length) :: k)) cs) cases blocking shape w (listed P b.fn a o w) :=
  stepG_comm (i := 0) (rest := List.range' 1 l.length) (o := o) (by simp) (by simp [Region.wanted, hgd]) hb hr

variable {id c cap s r : Nat} {buf : Array Value} {elem : TypeId} {z : Value} {o : Oper} {l : List Oper} {tm : Bool}

theorem wpn_send_room (hgd : o.guard = none) (ch x : Operand) (ho : o.op = .select #[{ chan := ch, send := some x, elem := elem }] false) (hz : (zeroValue elem).run P w = .ok z w) (hch : a.eval ch = .chan (some c)) (xv : Value) (hx : a.eval x = xv)
    (hc : w.heap[c]? = some (.chan cap buf false s r tm)) (hroom : buf.size < cap)
    (h : wpList P (o :: l).toArray Q l (a.put o.dst (.tuple #[goInt 0, .bool false])) (w.setChan c cap (buf.push xv) false (s + 1) r tm)) : wpn P (.region id (o :: l).toArray false) Q a w := by
  refine wpn_region_comm (fun b k cs hb => ?_) h
  exact step_lone_select_send_room (comm_of hgd hb (by simp [execOp, ho, scase, hz, hch, hx]) (cases := #[scase c xv z])) hc hroom

theorem wpn_send_full (hgd : o.guard = none) (ch x : Operand) (ho : o.op = .select #[{ chan := ch, send := some x, elem := elem }] false) (hz : (zeroValue elem).run P w = .ok z w) (hch : a.eval ch = .chan (some c)) (xv : Value) (hx : a.eval x = xv)
    (hc : w.heap[c]? = some (.chan cap buf false s r tm)) (hfull : cap ≤ buf.size)
    (h : wpList P (o :: l).toArray Q l (a.put o.dst (.tuple #[goInt (-1), .bool false])) w) : wpn P (.region id (o :: l).toArray false) Q a w := by
  refine wpn_region_comm (fun b k cs hb => ?_) h
  exact step_lone_select_send_full (comm_of hgd hb (by simp [execOp, ho, scase, hz, hch, hx]) (cases := #[scase c xv z])) hc hfull

theorem wpn_recv_buf (hgd : o.guard = none) (ch : Operand) (ho : o.op = .select #[{ chan := ch, send := none, elem := elem }] false) (hz : (zeroValue elem).run P w = .ok z w) (hch : a.eval ch = .chan (some c))
    (hc : w.heap[c]? = some (.chan cap buf false s r tm)) (hsome : 0 < buf.size)
    (h : wpList P (o :: l).toArray Q l (a.put o.dst (.tuple #[goInt 0, .bool true, buf.getD 0 undef])) (w.setChan c cap (buf.extract 1 buf.size) false s (r + 1) tm)) : wpn P (.region id (o :: l).toArray false) Q a w := by
  refine wpn_region_comm (fun b k cs hb => ?_) h
  exact step_lone_select_recv_buf (comm_of hgd hb (by simp [execOp, ho, rcase, hz, hch]) (cases := #[rcase c z])) hc hsome

theorem wpn_recv_none (hgd : o.guard = none) (ch : Operand) (ho : o.op = .select #[{ chan := ch, send := none, elem := elem }] false) (hz : (zeroValue elem).run P w = .ok z w) (hch : a.eval ch = .chan (some c))
    (hc : w.heap[c]? = some (.chan cap #[] false s r tm))
    (h : wpList P (o :: l).toArray Q l (a.put o.dst (.tuple #[goInt (-1), .bool false, z])) w) : wpn P (.region id (o :: l).toArray false) Q a w := by
  refine wpn_region_comm (fun b k cs hb => ?_) h
  exact step_lone_select_default (comm_of hgd hb (by simp [execOp, ho, rcase, hz, hch]) (cases := #[rcase c z])) hc
end
end Go.Proofs.Ythcflakdimedpaa
