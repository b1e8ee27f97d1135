/-
  A region that draws its order, walked once in the order of the text, in a class of worlds of one's own: callees may make memory, as long as each hands back one value and leaves a world of the class. Conditions: as each theorem says.
-/
import Derived.Test.YtnmmeccbpcichaaMem
import Derived.Deep.QuietTactic
namespace Go.Proofs.Ytnmmeccbpcichaa

section
variable {P : Program} {C : World → Prop}

theorem wp_region_quietC (C : World → Prop) {id : Nat} {Q : Exit → Act → World → Prop} {a : Act} {w : World} {l : List Oper} (hm : P.follows .mixedOrders = true) (hB : Region.lexB .any l.toArray = true) (hC : C w.drew)
    (h : wpQuiet P l.toArray C (fun a' => ∀ w', C w' → Q .normal a' w') l a) : (Code.region id l.toArray true).wp P Q a w :=
  wp_region_quiet (C := C) hm hB hC (by simpa using h)

/-- A whole array or struct, loaded. -/
theorem wpQuiet_load {ops : Array Oper} {Q : Act → Prop} {a : Act} {o : Oper} {rest : List Oper} (hw : Region.wanted o (yielded ops a.tmps) = true) (ty : TypeId) (x : Operand) (ho : o.op = .load ty x)
    (ad : Addr) (hx : a.eval x = .pointer (some ad)) (cs : List Value) (hrow : ∀ w, C w → Row w ad cs) (ht : IsAgg P ty cs.length) (h : wpQuiet P ops C Q rest (a.put o.dst (.agg cs.toArray))) : wpQuiet P ops C Q (o :: rest) a := by
  refine wpQuiet_step fun K hK => ?_
  rw [if_pos hw]
  refine ⟨.agg cs.toArray, fun w hC => ?_, hK _ h⟩
  unfold Oper.quietAt execOp
  have hr := run_loadVar_agg (P := P) (hrow w hC) ht
  simp only [ho, hx, Instr.loadAt, Instr.sureAddr, Sem.run_bind, Sem.run_pure, Result.andThen_ok, hr]
  exact ⟨rfl, rfl⟩
end
end Go.Proofs.Ytnmmeccbpcichaa
