/-
  The list's functions at keys of the kind int: none, last, out. Conditions: as each theorem says.
-/
import Derived.Test.YtnmmeccbpcichaaRecL
import Derived.Test.YtnmmeccbpcichaaDrawn
import Derived.Test.YtnmmeccbpcichaaRows
import Derived.WalkKit
import Derived.ProofKit
import Derived.WalkLawsBesides
import Derived.WalkSpells
import Derived.StringKeys
namespace Go.Proofs.Ytnmmeccbpcichaa
open Go.RowKit Go.Maps

abbrev KeyI := {x : Int // (Lit.int .i64 x).wf = true}
instance beqI : BEq KeyI := instBEqOfDecidableEq
/-- Keys of the kind int. -/
abbrev kitI : Kit Try.prog where
  α := KeyI
  dec := inferInstance
  K := 3
  TN := 101
  TL := 42
  val x := .int .i64 x.1
  cs x := [.int .i64 x.1]
  kz := 1
  lit x := .int .i64 x.1
  len _ := rfl
  inj := fun x y h => Subtype.ext (by simpa using h)
  keyed := int_keyed Try.underlying3
  key := fun x => keyOf_int_mk Try.underlying3 x.2
  isk := fun _ => trivial

set_option maxHeartbeats 1000000 in
theorem recI_none (p : Nat) (most : Int) (h1 : 1 ≤ most) (w : World) (c0 : w.cell? ⟨p, 0, none⟩ = some (.int .i64 most)) :
    Calls Try.prog 49 #[.pointer (some ⟨p, 0, none⟩)] w fun e w' => e = .returned (.bool false) ∧ w = w' := by
  have h2 : (most == 0) = false := by simp; omega
  go_enter Try.func49, Try.ntmps49
  go_wp2
  go_ret
  exact ⟨rfl, rfl⟩

set_option maxHeartbeats 1000000 in
theorem recI_last (p b m : Nat) (most : Int) (h t o n : Option Nat) (k : KeyI) (w : World) (hp : w.heap[p]? = some (.cells #[.int .i64 most, .map (some m), bp h, bp t] 42 (0, 0)))
    (hx : NodeAt kitI w b k o n) (hne : b ≠ p) (ht : ∀ z, t = some z → z ≠ b ∧ z ≠ p ∧ ∃ kz oz nz, NodeAt kitI w z kz oz nz) :
    Calls Try.prog 50 #[.pointer (some ⟨p, 0, none⟩), .pointer (some ⟨b, 0, none⟩)] w fun e w' => e = .returned (.tuple #[]) ∧ w' = lastW kitI w p b t := by
  obtain ⟨x0, x1, x2, x3, _⟩ := hx.cells
  have c3 : w.cell? ⟨p, 3, none⟩ = some (bp t) := by simp [World.cell?, hp]
  have c2 : w.cell? ⟨p, 2, none⟩ = some (bp h) := by simp [World.cell?, hp]
  have f2 : w.frozen? ⟨p, 2, none⟩ = false := by simp [World.frozen?, hp]
  have f3 : w.frozen? ⟨p, 3, none⟩ = false := by simp [World.frozen?, hp]
  have hne' : p ≠ b := fun e => hne e.symm
  change w.cell? ⟨b, 1, none⟩ = _ at x0
  change w.cell? ⟨b, 2, none⟩ = _ at x1
  change w.frozen? ⟨b, 1, none⟩ = _ at x2
  change w.frozen? ⟨b, 2, none⟩ = _ at x3
  cases t with
  | none =>
    change w.cell? ⟨p, 3, none⟩ = some (.pointer none) at c3
    clear hp hx ht
    go_enter Try.func50, Try.ntmps50
    go_wp2
    go_end0
    exact ⟨rfl, rfl⟩
  | some z =>
    obtain ⟨hzb, hzp, kz, oz, nz, hz⟩ := ht z rfl
    obtain ⟨_, z1, _, z3, _⟩ := hz.cells
    change w.frozen? ⟨z, 2, none⟩ = _ at z3
    change w.cell? ⟨z, 2, none⟩ = _ at z1
    change w.cell? ⟨p, 3, none⟩ = some (.pointer (some ⟨z, 0, none⟩)) at c3
    have hpz : p ≠ z := fun e => hzp e.symm
    clear hp hx ht hz
    go_enter Try.func50, Try.ntmps50
    go_wp2
    go_end0
    exact ⟨rfl, rfl⟩

set_option maxHeartbeats 1000000 in
theorem recI_out (p b m : Nat) (most : Int) (h t o n : Option Nat) (k : KeyI) (w : World) (hp : w.heap[p]? = some (.cells #[.int .i64 most, .map (some m), bp h, bp t] 42 (0, 0)))
    (hx : NodeAt kitI w b k o n) (hne : b ≠ p) (ho : ∀ z, o = some z → z ≠ b ∧ z ≠ p ∧ ∃ kz oz nz, NodeAt kitI w z kz oz nz) (hn : ∀ z, n = some z → z ≠ b ∧ z ≠ p ∧ o ≠ some z ∧ ∃ kz oz nz, NodeAt kitI w z kz oz nz) :
    Calls Try.prog 51 #[.pointer (some ⟨p, 0, none⟩), .pointer (some ⟨b, 0, none⟩)] w fun e w' => e = .returned (.tuple #[]) ∧ ∃ j, w' = (outW kitI w p o n).drewN j := by
  obtain ⟨x0, x1, x2, x3, _⟩ := hx.cells
  have c3 : w.cell? ⟨p, 3, none⟩ = some (bp t) := by simp [World.cell?, hp]
  have c2 : w.cell? ⟨p, 2, none⟩ = some (bp h) := by simp [World.cell?, hp]
  have f2 : w.frozen? ⟨p, 2, none⟩ = false := by simp [World.frozen?, hp]
  have f3 : w.frozen? ⟨p, 3, none⟩ = false := by simp [World.frozen?, hp]
  have hne' : p ≠ b := fun e => hne e.symm
  change w.cell? ⟨b, 1, none⟩ = _ at x0
  change w.cell? ⟨b, 2, none⟩ = _ at x1
  clear x2 x3 hp hx
  cases o with
  | none =>
    change w.cell? ⟨b, 1, none⟩ = some (.pointer none) at x0
    cases n with
    | none =>
      change w.cell? ⟨b, 2, none⟩ = some (.pointer none) at x1
      clear ho hn
      go_enter Try.func51, Try.ntmps51
      go_wp2
      go_end0
      exact ⟨rfl, 0, rfl⟩
    | some y =>
      change w.cell? ⟨b, 2, none⟩ = some (.pointer (some ⟨y, 0, none⟩)) at x1
      obtain ⟨hyb, hyp, _, ky, oy, ny, hy⟩ := hn y rfl
      obtain ⟨y0, _, y2, _, _⟩ := hy.cells
      change w.frozen? ⟨y, 1, none⟩ = _ at y2
      change w.cell? ⟨y, 1, none⟩ = _ at y0
      have hby : b ≠ y := fun e => hyb e.symm
      clear ho hn hy
      go_enter Try.func51, Try.ntmps51
      go_wp2
      go_region
      all_goals go_wp2
      go_end0
      exact ⟨rfl, 1, rfl⟩
  | some z =>
    change w.cell? ⟨b, 1, none⟩ = some (.pointer (some ⟨z, 0, none⟩)) at x0
    obtain ⟨hzb, hzp, kz, oz, nz, hz⟩ := ho z rfl
    obtain ⟨_, z1, _, z3, _⟩ := hz.cells
    change w.frozen? ⟨z, 2, none⟩ = _ at z3
    change w.cell? ⟨z, 2, none⟩ = _ at z1
    have hbz : b ≠ z := fun e => hzb e.symm
    have hpz : p ≠ z := fun e => hzp e.symm
    cases n with
    | none =>
      change w.cell? ⟨b, 2, none⟩ = some (.pointer none) at x1
      clear ho hn hz
      go_enter Try.func51, Try.ntmps51
      go_wp2
      go_region
      all_goals go_wp2
      go_end0
      exact ⟨rfl, 1, rfl⟩
    | some y =>
      change w.cell? ⟨b, 2, none⟩ = some (.pointer (some ⟨y, 0, none⟩)) at x1
      obtain ⟨hyb, hyp, hzy, ky, oy, ny, hy⟩ := hn y rfl
      obtain ⟨y0, _, y2, _, _⟩ := hy.cells
      change w.frozen? ⟨y, 1, none⟩ = _ at y2
      change w.cell? ⟨y, 1, none⟩ = _ at y0
      have hby : b ≠ y := fun e => hyb e.symm
      have hzy' : z ≠ y := fun e => hzy (by rw [e])
      have hyz : y ≠ z := fun e => hzy' e.symm
      clear ho hn hy hz hzy
      go_enter Try.func51, Try.ntmps51
      go_wp2
      go_region
      all_goals go_wp2
      go_region
      all_goals go_wp2
      go_end0
      exact ⟨rfl, 2, rfl⟩
end Go.Proofs.Ytnmmeccbpcichaa
