/-
  Readings of data opened: small laws over any program. Conditions: as each theorem says.
-/
import Derived.Test.YtnmmeccbpcichaaRows
import Derived.Test.YtnmmeccbpcichaaSlice
import Derived.Deep.Slices
import Derived.ProofKit
import Derived.OpenShut
namespace Go.Proofs.Ytnmmeccbpcichaa
open Go.ChangeShapes Go.WideShapes Go.ChangeAt Go.RowKit Go.Deep

section
variable {H : Type} {enc : TypeId × Value → H} {P : Program} {w : World} {base : Nat} {spare : Nat → Bool} {held : Bool}

theorem drop_take_one {cs : List Value} {i : Nat} {v : Value} (h : (cs.drop i).take 1 = [v]) : cs[i]? = some v := by
  have := congrArg (fun l => l[0]?) h
  simpa [List.getElem?_take, List.getElem?_drop] using this

theorem wf_bd {k : IntKind} {n : Int} (h : (Lit.int k n).wf = true) : k.min ≤ n ∧ n ≤ k.max := by
  simpa [Lit.wf] using h
theorem wf_u64 {n : Int} (h : (Lit.int .u64 n).wf = true) : 0 ≤ n ∧ n ≤ 18446744073709551615 := by
  have hb := wf_bd h
  rwa [show IntKind.u64.min = 0 by decide, show IntKind.u64.max = 18446744073709551615 by decide] at hb
theorem wf_i64 {n : Int} (h : (Lit.int .i64 n).wf = true) : -9223372036854775808 ≤ n ∧ n ≤ 9223372036854775807 := by
  have hb := wf_bd h
  rwa [show IntKind.i64.min = -9223372036854775808 by decide, show IntKind.i64.max = 9223372036854775807 by decide] at hb
theorem wf_u8 {n : Int} (h : (Lit.int .u8 n).wf = true) : 0 ≤ n ∧ n ≤ 255 := by
  have hb := wf_bd h
  rwa [show IntKind.u8.min = 0 by decide, show IntKind.u8.max = 255 by decide] at hb

/-- A slice read as data, element by element: what each element's cells are is told by 'elem'. -/
theorem open_rows {α : Type} {t e : TypeId} {size : Nat} (cells : α → List Value) (Ok : α → Prop) (ht : P.underlying t = some (.slice e)) (hsz : P.cellsOf e = size) (hpos : 0 < size) (hc : ∀ y : α, Ok y → (cells y).length = size) (dflt : α)
    (elem : ∀ (n : Nat) (cs : List Value) (x : DataW H × List MemPlace), DataW.trod enc P w base spare held n e cs = some x → ∃ y : α, cells y = cs ∧ Ok y)
    {fuel : Nat} {a : Option Addr} {len cap : Nat} {x : DataW H × List MemPlace} (h : DataW.trod enc P w base spare held fuel t [.slice a len cap] = some x) :
    ∃ l : List α, len = l.length ∧ len ≤ cap ∧ cap ≤ maxLen ∧ (a = none → len = 0 ∧ cap = 0) ∧ (∀ y ∈ l, Ok y) ∧ ∀ i y, l[i]? = some y → ∃ ad, a = some ad ∧ ad.block < w.heap.size ∧ Row w (ad.add (i * size)) (cells y) := by
  rcases open_slice ht h with ⟨hcs, _⟩ | ⟨ad, len', cap', m, n, D, Pl, hcs, _, hl, hm, hmm, _, hi⟩
  · simp only [List.cons.injEq, Value.slice.injEq, and_true] at hcs
    obtain ⟨rfl, rfl, rfl⟩ := hcs
    exact ⟨[], rfl, by omega, by simp, fun _ => ⟨rfl, rfl⟩, by simp, by simp⟩
  · simp only [List.cons.injEq, Value.slice.injEq, and_true] at hcs
    obtain ⟨rfl, rfl, rfl⟩ := hcs
    have hmlen : len ≤ m := by rw [hmm]; split <;> omega
    rw [hsz] at hi
    have hall : ∀ i, i < len → ∃ y : α, Ok y ∧ Row w (ad.add (i * size)) (cells y) := by
      intro i hlt
      obtain ⟨cs', hc', ht'⟩ := hi i (by omega)
      obtain ⟨y, hy, hok⟩ := elem _ _ _ ht'
      obtain ⟨_, hcl, hat⟩ := World.cells?_some hc'
      refine ⟨y, hok, fun j v hv => ?_⟩
      rw [hy] at hv
      have hj : j < size := by
        have := (List.getElem?_eq_some_iff.1 hv).1
        omega
      rw [hat j hj, hv]
    let f : Nat → α := fun i => if h : i < len then Classical.choose (hall i h) else dflt
    have hfs : ∀ i, i < len → Ok (f i) ∧ Row w (ad.add (i * size)) (cells (f i)) := by
      intro i h
      have := Classical.choose_spec (hall i h)
      simp only [f, dif_pos h]
      exact this
    refine ⟨(List.range len).map f, by simp, hl, hm, fun h => (by cases h), ?_, ?_⟩
    · intro x hx
      obtain ⟨i, hi', rfl⟩ := List.mem_map.1 hx
      exact (hfs i (List.mem_range.1 hi')).1
    · intro i x hx
      rw [List.getElem?_map] at hx
      have hlt : i < len := by
        by_cases h : i < len
        · exact h
        · rw [List.getElem?_eq_none (by simpa using h)] at hx; cases hx
      rw [List.getElem?_range hlt] at hx
      obtain rfl := Option.some.inj hx
      obtain ⟨hok, hrow⟩ := hfs i hlt
      refine ⟨ad, rfl, ?_, hrow⟩
      have hl0 := hc _ hok
      obtain ⟨v, hv⟩ : ∃ v, (cells (f i))[0]? = some v := ⟨(cells (f i))[0]'(by omega), List.getElem?_eq_getElem _⟩
      have := block_lt_of_cell (hrow 0 v hv)
      rwa [add_block, add_block] at this

theorem block_lt_of_row {ad : Addr} {cs : List Value} (h : Row w ad cs) (hn : cs ≠ []) : ad.block < w.heap.size := by
  cases cs with
  | nil => exact absurd rfl hn
  | cons v l =>
    have := block_lt_of_cell (h 0 v rfl)
    rwa [add_block] at this
end
end Go.Proofs.Ytnmmeccbpcichaa
