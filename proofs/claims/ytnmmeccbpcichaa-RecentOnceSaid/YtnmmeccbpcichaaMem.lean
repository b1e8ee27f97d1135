/-
  Small laws on memory that the walks of this seat use: rows of cells read and stored whole. Conditions: as each theorem says.
-/
import Derived.WalkKit
import Derived.Lib.Hide
import Derived.Laws.CopyRow
import Derived.Laws.Rows
import Derived.OwnWalk
namespace Go.Proofs.Ytnmmeccbpcichaa
open Go.RowKit

/-- From address a on memory holds these cells. -/
def Row (w : World) (a : Addr) (cs : List Value) : Prop := ∀ j v, cs[j]? = some v → w.cell? (a.add j) = some v

theorem add_block (a : Addr) (n : Nat) : (a.add n).block = a.block := by unfold Addr.add; split <;> rfl
theorem add_add (a : Addr) (i j : Nat) : (a.add i).add j = a.add (i + j) := by
  unfold Addr.add
  by_cases hi : i = 0 <;> by_cases hj : j = 0 <;> simp [hi, hj, Nat.add_assoc]
theorem add_mk (g o n : Nat) : (⟨g, o, none⟩ : Addr).add n = ⟨g, o + n, none⟩ := by unfold Addr.add; split <;> simp_all

/-- An aggregate type of n cells. -/
def IsAgg (P : Program) (ty : TypeId) (n : Nat) : Prop := ∃ d, P.underlying ty = some d ∧ (match d with | .struct _ | .array _ _ => true | _ => false) = true ∧ (P.info? ty).map (·.size) = some n

section
variable {P : Program} {w w' : World}

theorem Row.keep {a : Addr} {cs : List Value} (h : Row w a cs) (hk : ∀ p : Addr, p.block = a.block → w'.cell? p = w.cell? p) : Row w' a cs :=
  fun j v hv => (hk _ (add_block a j)).trans (h j v hv)
theorem Row.below {a : Addr} {cs : List Value} {B : Nat} (h : Row w a cs) (hb : Below B w w') (ha : a.block < B) : Row w' a cs :=
  h.keep fun _ hp => hb.cell (by omega)
theorem Row.part {a : Addr} {cs : List Value} (h : Row w a cs) (i n : Nat) : Row w (a.add i) ((cs.drop i).take n) := by
  intro j v hv
  rw [add_add]
  refine h _ v ?_
  rw [List.getElem?_take] at hv
  split at hv
  · rwa [List.getElem?_drop] at hv
  · cases hv
theorem Row.of_block {g : Nat} {cs : Array Value} {t : TypeId} {fr : Nat × Nat} (hg : w.heap[g]? = some (.cells cs t fr)) : Row w ⟨g, 0, none⟩ cs.toList := by
  intro j v hv
  rw [add_mk, Nat.zero_add, cell_of_row w g j cs t fr hg]
  simpa using hv

theorem run_loadVar_agg {a : Addr} {ty : TypeId} {cs : List Value} (h : Row w a cs) (ht : IsAgg P ty cs.length) : (loadVar ty a).run P w = .ok (.agg cs.toArray) w := by
  obtain ⟨d, hu, hd, hi⟩ := ht
  have hl : (loadCells a cs.length).run P w = .ok cs.toArray w := run_loadCells_list (P := P) w a cs h
  cases hq : P.info? ty with
  | none => simp [hq] at hi
  | some i =>
    have hs : i.size = cs.length := by simpa [hq] using hi
    have hagg : (isAgg ty).run P w = .ok true w := by
      unfold isAgg
      rw [Sem.run_bind, run_underlying hu w]
      cases d <;> simp_all
    simp [loadVar, Sem.run_bind, hagg, sizeOf, typeInfo, hq, hs, hl]

theorem wp_load_agg {o : Oper} {a : Act} {K : Act → World → Prop} {Q : Exit → Act → World → Prop} (ty : TypeId) (x : Operand) (ho : o.op = .load ty x)
    (ad : Addr) (hx : a.eval x = .pointer (some ad)) (cs : List Value) (hr : Row w ad cs) (ht : IsAgg P ty cs.length)
    (h : K (a.put o.dst (.agg cs.toArray)) w) : o.wp P a w K Q := by
  unfold Oper.wp execOp
  simp only [ho, hx, Instr.loadAt, Instr.sureAddr, Sem.run_bind, Sem.run_pure, Result.andThen_ok, run_loadVar_agg hr ht]
  exact h

/-- A whole aggregate is loaded. -/
theorem wpList_load_agg {ops : Array Oper} {rest : List Oper} {o : Oper} {a : Act} {Q : Exit → Act → World → Prop} (hgd : o.guard = none) (ty : TypeId) (x : Operand) (ho : o.op = .load ty x)
    (ad : Addr) (hx : a.eval x = .pointer (some ad)) (cs : List Value) (hr : Row w ad cs) (ht : IsAgg P ty cs.length)
    (h : wpList P ops Q rest (a.put o.dst (.agg cs.toArray)) w) : wpList P ops Q (o :: rest) a w :=
  wpList_plain hgd fun _ hK => wp_load_agg ty x ho ad hx cs hr ht (hK _ _ h)

theorem alloc_setRow (w : World) (z cs : Array Value) (t : TypeId) : (w.alloc (.cells z t)).setRow w.heap.size cs = w.alloc (.cells cs t) := by
  show { w with heap := (w.heap.push (.cells z t)).modify w.heap.size _ } = ({ w with heap := w.heap.push (.cells cs t) } : World)
  congr 1
  apply Array.ext_getElem?
  intro i
  rw [Array.getElem?_modify]
  by_cases h : w.heap.size = i
  · subst h; simp
  · simp only [h, if_false]
    rw [Array.getElem?_push, Array.getElem?_push, if_neg (fun e => h e.symm), if_neg (fun e => h e.symm)]

theorem run_storeVar_row {g : Nat} {ty t : TypeId} {cs : List Value} {cur : Array Value} {n : Nat} (hg : w.heap[g]? = some (.cells cur t (0, 0))) (hn : (P.info? ty).map (·.size) = some n) (hl : cs.length = n) (hc : cur.size = n) (h1 : ∀ v ∈ cs, v.oneCell' = true) :
    (storeVar ty ⟨g, 0, none⟩ (.agg cs.toArray)).run P w = .ok () (w.setRow g cs.toArray) := by
  have hst := run_storeCells_at P g 0 t cs 0 cur w hg (by omega) h1
  cases hq : P.info? ty with
  | none => simp [hq] at hn
  | some i =>
    have hi : i.size = n := by simpa [hq] using hn
    have hd : cur.toList.drop cs.length = [] := List.drop_of_length_le (by simp; omega)
    simp only [Nat.zero_add, List.take_zero, List.nil_append, hd, List.append_nil] at hst
    simp [storeVar, sizeOf, typeInfo, hq, hi, hl, hst, Value.cells]

/-- A whole aggregate is stored into the block that was laid last. -/
theorem wpList_store_new {ops : Array Oper} {rest : List Oper} {o : Oper} {a : Act} {Q : Exit → Act → World → Prop} (hgd : o.guard = none) (ty : TypeId) (x y : Operand) (ho : o.op = .store ty x y)
    (z : Array Value) (t : TypeId) (hx : a.eval x = .pointer (some ⟨w.heap.size, 0, none⟩)) (cs : List Value) (hy : a.eval y = .agg cs.toArray) (n : Nat) (hn : (P.info? ty).map (·.size) = some n) (hl : cs.length = n) (hz : z.size = n) (h1 : ∀ v ∈ cs, v.oneCell' = true)
    (h : wpList P ops Q rest (a.put o.dst undef) (w.alloc (.cells cs.toArray t))) : wpList P ops Q (o :: rest) a (w.alloc (.cells z t)) := by
  refine wpList_plain hgd fun _ hK => ?_
  unfold Oper.wp execOp
  have hr := run_storeVar_row (P := P) (w := w.alloc (.cells z t)) (g := w.heap.size) (ty := ty) (heap_alloc_new w _) hn hl hz h1
  rw [alloc_setRow] at hr
  simp only [ho, hx, hy, Instr.storeAt, Instr.sureAddr, Sem.run_bind, Sem.run_pure, Result.andThen_ok, hr]
  exact hK _ _ h
end
end Go.Proofs.Ytnmmeccbpcichaa
