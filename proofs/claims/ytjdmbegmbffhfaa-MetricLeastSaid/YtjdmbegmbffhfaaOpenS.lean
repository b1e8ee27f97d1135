/-
  A slice of ids read as data, opened. Conditions: as the theorem says.
-/
import Derived.Test.YtjdmbegmbffhfaaOpenI
import Derived.Test.YtjdmbegmbffhfaaSrtC
namespace Go.Proofs.Ytjdmbegmbffhfaa
open Go.ChangeShapes Go.WideShapes Go.ChangeAt Go.RowKit Go.Deep

theorem okWide_block {P : Program} {w : World} {r : Reach} {base : Nat} {t e : TypeId} (ht : P.underlying t = some (.slice e)) {a : Addr} {len cap : Nat} (h : Value.okWide P w r base t (.slice (some a) len cap)) : a.block < w.heap.size := by
  simp only [Value.okWide, Cell.okWide, Cell.ok, ht] at h
  obtain ⟨_, _, _, _, row, cells, hs, _⟩ := h
  rcases Nat.lt_or_ge a.block w.heap.size with h1 | h1
  · exact h1
  · simp [World.shape?, Array.getElem?_eq_none h1] at hs

section
variable {H : Type} {enc : TypeId × Value → H} {w : World} {base : Nat} {spare : Nat → Bool} {held : Bool}
theorem open_ids {fuel : Nat} {A : Option Addr} {len cap : Nat} {x : DataW H × List MemPlace} (h : DataW.trod enc Try.prog w base spare held fuel 78 [.slice A len cap] = some x) :
    ∃ d : Array Id20, len = d.size ∧ len ≤ cap ∧ cap ≤ maxLen ∧ IdRow w A d := by
  obtain ⟨l, hl, hlc, hcm, hnone, _, hrow⟩ := open_rows (size := 20) encId (fun _ => True) Try.underlying78 (by kernel_rfl) (by omega) (fun y _ => encId_length y) default
    (fun n cs x hx => by
      obtain ⟨m, hm, he⟩ := open_IDcells hx
      exact ⟨⟨m, hm⟩, he.symm, trivial⟩) h
  refine ⟨l.toArray, by simpa using hl, hlc, hcm, fun ha => ?_, fun ad had j v hv => ?_⟩
  · have := (hnone ha).1
    rw [hl] at this
    have hl0 : l = [] := List.eq_nil_of_length_eq_zero this
    simp [hl0]
  · have hj : j < l.toArray.size * 20 := by
      have := (List.getElem?_eq_some_iff.1 hv).1
      rwa [idsV_len] at this
    have hi : j / 20 < l.length := by simp at hj; omega
    obtain ⟨ad', ha', _, hr⟩ := hrow (j / 20) l[j / 20] (List.getElem?_eq_getElem hi)
    obtain rfl : ad = ad' := Option.some.inj (had.symm.trans ha')
    have hg := idsV_get l.toArray (j / 20) (j % 20) (by simpa using hi) (by omega)
    rw [show j / 20 * 20 + j % 20 = j by omega, ← Array.getElem?_toList, hv, getElem!_pos _ _ (by simpa using hi)] at hg
    have := hr (j % 20) v (by simpa using hg.symm)
    rwa [add_add, show j / 20 * 20 + j % 20 = j by omega] at this
end
end Go.Proofs.Ytjdmbegmbffhfaa
