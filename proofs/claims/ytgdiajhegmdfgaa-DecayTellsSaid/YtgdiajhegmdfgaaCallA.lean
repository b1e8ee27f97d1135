/-
  A call among the operations of a region that draws its order. Conditions: as the theorem says.
-/
import Derived.Test.YtgdiajhegmdfgaaAss
namespace Go.Proofs.Ytgdiajhegmdfgaa
open Go.RowKit

theorem wp_call {P : Program} {o : Oper} {a : Act} {w : World} {K : Act → World → Prop} {Q : Exit → Act → World → Prop} (f : FuncId) (xs : Array Operand) (tys : Array TypeId) (ho : o.op = .call { callee := .value (.func f), args := xs, argTypes := tys })
    (eg : ∀ args w, (callFunc f args).run P w = .ok (.enter f args) w) (hc : Calls P f (xs.map a.eval) w fun e w' => ∃ v, e = .returned v ∧ K (a.put o.dst v) w') : o.wp P a w K Q := by
  unfold Oper.wp
  have hrun : (execOp a.eval o).run P w = .ok (.enter f (xs.map a.eval)) w := by
    simp [execOp, ho, resolve, Deferred.ofValue, invoke, Act.eval, eg]
  rw [hrun]
  refine Calls.mono hc ?_
  rintro e w' ⟨v, rfl, hv⟩
  exact hv
end Go.Proofs.Ytgdiajhegmdfgaa
