/-
  What ident.value, ident.Parse compute. Conditions: the text fits in memory.
-/
import Derived.Test.YtgdiajhegmdfgaaIdQ
import Derived.Laws.ResultCell
namespace Go.Proofs.Ytgdiajhegmdfgaa
open Go.RowKit

theorem results_row_tmp {P : Program} {fn : Func} {p u : Tmp} {ty : TypeId} (h : fn.results = #[.cell p ty, .tmp u]) (tmps : Array Value) (w : World) (g : Nat) (t : TypeId) (cs : Array Value) (fr : Nat × Nat) (d : TypeDesc)
    (hp : tmps.getD p undef = .pointer (some ⟨g, 0, none⟩)) (hg : w.heap[g]? = some (.cells cs t fr))
    (hu : P.underlying ty = some d) (hd : (match d with | .struct _ | .array _ _ => true | _ => false) = true) (hi : (P.info? ty).map (·.size) = some cs.size) :
    (results fn tmps).run P w = .ok (.tuple #[.agg cs, tmps.getD u undef]) w := by
  rw [results_cell_tmp h, hp]
  simp [asAddr, run_loadVar_row w g t ty cs fr d hg hu hd hi]

/-- A byte of a string. -/
theorem index_str {P : Program} (w : World) {t : TypeId} (ht : P.underlying t = some .string) (l : List UInt8) (k : Nat) (x : UInt8) (hx : l[k]? = some x) :
    (Instr.index t (.string ⟨l.toArray⟩) (.int .i64 (k : Int))).run P w = .ok (.int .u8 (x.toNat : Int)) w := by
  have hk : k < l.length := (List.getElem?_eq_some_iff.1 hx).1
  have hg : (⟨l.toArray⟩ : ByteArray)[k]? = some x := by
    rw [ByteArray.getElem?_lt' _ _ (show k < (⟨l.toArray⟩ : ByteArray).size from hk)]
    have h2 : l[k] = x := by rw [List.getElem?_eq_getElem hk] at hx; exact Option.some.inj hx
    exact congrArg some h2
  simp [Instr.index, run_underlying ht, asIntOf, hg, go_sem]

/-- The bytes read so far, then zeros. -/
def halfB (m : List UInt8) : List UInt8 := m ++ List.replicate (20 - m.length) 0
theorem halfB_set (m : List UInt8) (x : UInt8) (h : m.length < 20) : (halfB m).set m.length x = halfB (m ++ [x]) := by
  unfold halfB
  rw [List.set_append_right _ _ (Nat.le_refl _), Nat.sub_self, List.append_assoc, List.length_append]
  congr 1
  obtain ⟨n, hn⟩ : ∃ n, 20 - m.length = n + 1 := ⟨19 - m.length, by omega⟩
  rw [hn, List.replicate_succ, List.set_cons_zero]
  have : 20 - (m.length + [x].length) = n := by simp; omega
  rw [this]
  rfl
theorem halfB_all (m : List UInt8) (h : m.length = 20) : halfB m = m := by simp [halfB, h]

end Go.Proofs.Ytgdiajhegmdfgaa
