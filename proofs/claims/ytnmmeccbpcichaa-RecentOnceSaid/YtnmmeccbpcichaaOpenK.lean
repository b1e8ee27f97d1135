/-
  A slice of ops (a kind, a key) that reads as data, opened to its cells. Conditions: none.
-/
import Derived.Test.YtnmmeccbpcichaaRecX
import Derived.Test.YtnmmeccbpcichaaOpen
namespace Go.Proofs.Ytnmmeccbpcichaa
open Go.ChangeShapes Go.WideShapes Go.ChangeAt Go.RowKit Go.Deep

section
variable {H : Type} {enc : TypeId × Value → H} {w : World} {base : Nat} {spare : Nat → Bool} {held : Bool}

theorem two_cells {cs : List Value} (hl : cs.length = 2) {v0 v1 : Value} (h0 : cs[0]? = some v0) (h1 : cs[1]? = some v1) : cs = [v0, v1] := by
  match cs, hl with
  | [a, b], _ =>
    obtain rfl := Option.some.inj h0
    obtain rfl := Option.some.inj h1
    rfl
theorem open_opK {fuel : Nat} {cs : List Value} {x : DataW H × List MemPlace} (h : DataW.trod enc Try.prog w base spare held fuel 28 cs = some x) : ∃ y : OpK, [.int .i64 y.kind, .int .i64 y.key.1] = cs ∧ True := by
  obtain ⟨xs, n, _, _, hlen, hxl, hf⟩ := DataW.trod_struct Try.underlying28 h
  have h2 : cs.length = 2 := hlen.trans (by kernel_rfl)
  have hx : ∀ (i : Nat), i < 2 → ∃ z, xs[i]? = some z := fun i hi => ⟨xs[i]'(by rw [hxl]; exact hi), List.getElem?_eq_getElem _⟩
  have c1 : Try.prog.cellsOf 3 = 1 := by kernel_rfl
  obtain ⟨z0, h0⟩ := hx 0 (by omega)
  obtain ⟨z1, h1⟩ := hx 1 (by omega)
  have g0 : DataW.trod enc Try.prog w base spare held n 3 ((cs.drop 0).take (Try.prog.cellsOf 3)) = some z0 := (hf 0 _ rfl).trans h0
  have g1 : DataW.trod enc Try.prog w base spare held n 3 ((cs.drop 1).take (Try.prog.cellsOf 3)) = some z1 := (hf 1 _ rfl).trans h1
  rw [c1] at g0 g1
  obtain ⟨a, e0, _, _⟩ := DataW.trod_int Try.underlying3 g0
  obtain ⟨b, e1, _, wb⟩ := DataW.trod_int Try.underlying3 g1
  exact ⟨⟨a, ⟨b, wb⟩⟩, (two_cells h2 (drop_take_one e0) (drop_take_one e1)).symm, trivial⟩
theorem open_opsK {a : Option Addr} {len cap : Nat} {d : DataW H} {ps : List MemPlace} (h : DataW.Trod enc Try.prog w base spare held 22 (.slice a len cap) d ps) : ∃ l, OpsR w w.heap.size a len l := by
  obtain ⟨fuel, hf⟩ := h
  obtain ⟨l, hl, _, _, _, _, hrow⟩ := open_rows (size := 2) (fun y : OpK => [.int .i64 y.kind, .int .i64 y.key.1]) (fun _ => True) Try.underlying22 (by kernel_rfl) (by omega) (fun _ _ => rfl) ⟨0, ⟨0, by decide⟩⟩
    (fun n cs x hx => open_opK hx) hf
  exact ⟨l, hl, hrow⟩
end
end Go.Proofs.Ytnmmeccbpcichaa
