/-
  The walk of a region that draws its order, what follows kept shut: no step looks into the operations behind it. Conditions: as each theorem says.
-/
import Derived.Test.YtnmmeccbpcichaaQuiet
namespace Go.Proofs.Ytnmmeccbpcichaa

/-- What is still to be walked, kept shut. -/
structure QL (P : Program) (ops : Array Oper) (C : World → Prop) (Q : Act → Prop) (l : List Oper) (a : Act) : Prop where
  out : wpQuiet P ops C Q l a

section
variable {P : Program} {C : World → Prop}

theorem wp_region_QL (C : World → Prop) {id : Nat} {Q : Exit → Act → World → Prop} {a : Act} {w : World} {l : List Oper} (hm : P.follows .mixedOrders = true) (hB : Region.lexB .any l.toArray = true) (hC : C w.drew)
    (h : QL P l.toArray C (fun a' => ∀ w', C w' → Q .normal a' w') l a) : (Code.region id l.toArray true).wp P Q a w :=
  wp_region_quietC C hm hB hC h.out
theorem QL.nil {ops : Array Oper} {Q : Act → Prop} {a : Act} (h : Q a) : QL P ops C Q [] a := ⟨h⟩
theorem QL.step {ops : Array Oper} {Q : Act → Prop} {a : Act} {o : Oper} {rest : List Oper}
    (h : ∀ K : Act → Prop, (∀ a, QL P ops C Q rest a → K a) → if Region.wanted o (yielded ops a.tmps) then o.quiet P a C K else K (a.put o.dst undef)) : QL P ops C Q (o :: rest) a :=
  ⟨wpQuiet_step fun K hK => h K fun a ha => hK a ha.out⟩
/-- A whole array or struct, loaded. -/
theorem QL.load {ops : Array Oper} {Q : Act → Prop} {a : Act} {o : Oper} {rest : List Oper} (hw : Region.wanted o (yielded ops a.tmps) = true) (ty : TypeId) (x : Operand) (ho : o.op = .load ty x)
    (ad : Addr) (hx : a.eval x = .pointer (some ad)) (cs : List Value) (hrow : ∀ w, C w → Row w ad cs) (ht : IsAgg P ty cs.length) (h : QL P ops C Q rest (a.put o.dst (.agg cs.toArray))) : QL P ops C Q (o :: rest) a :=
  ⟨wpQuiet_load hw ty x ho ad hx cs hrow ht h.out⟩
end
end Go.Proofs.Ytnmmeccbpcichaa
