/-
  What the law's own 'cut' does. Conditions: the slice is one of the call's own.
-/
import Derived.Test.YthcflakdimedpaaBoxB
namespace Go.Proofs.Ythcflakdimedpaa
open Go.RowKit Go.Conc

/-- A slice of ints of the call's own, that reads as a list. -/
def SLi (w : World) (base : Nat) (v : Value) (l : List Int) : Prop := SL w base 3 1 v l.length (ints l)

theorem SL.own_cut {A : Option Addr} {n cap lo m c : Nat} : (Value.slice (if cap = lo then A else A.map (·.add (lo * 1))) m c).ownBlock = (Value.slice A n cap).ownBlock := by
  by_cases h : cap = lo
  · rw [if_pos h]; cases A <;> rfl
  · rw [if_neg h]
    cases A with
    | none => rfl
    | some a => simp [Value.ownBlock, add_block]

set_option maxHeartbeats 1000000 in
theorem cut_nil (A : Option Addr) (cap : Nat) (w : World) :
    Calls Try.prog 16 #[.slice A 0 cap] w fun e w' => e = .returned (.tuple #[.int .i64 0, .bool false, .slice none 0 0]) ∧ w = w' := by
  go_enter Try.func16, Try.ntmps16
  go_wp2
  go_ret3
  exact ⟨rfl, rfl⟩

set_option maxHeartbeats 1000000 in
theorem cut_cons (ad : Addr) (n cap : Nat) (x : Int) (hn : n + 1 ≤ cap) (hc : cap ≤ maxLen) (w : World) (hx : w.cell? ad = some (.int .i64 x)) :
    Calls Try.prog 16 #[.slice (some ad) (n + 1) cap] w fun e w' => e = .returned (.tuple #[.int .i64 x, .bool true, .slice (if cap = 1 then some ad else (some ad).map (·.add (1 * 1))) (n + 1 - 1) (cap - 1)]) ∧ ∃ k, w' = w.drewN k := by
  unfold maxLen at hc
  have h0 : (((n + 1 : Nat) : Int) == 0) = false := by rw [beq_eq_false_iff_ne]; omega
  have h1 : (0 : Int) < ((n + 1 : Nat) : Int) := by omega
  have h2 : (1 : Int) ≤ ((n + 1 : Nat) : Int) := by omega
  go_enter Try.func16, Try.ntmps16
  go_wp2
  go_quiet (fail)
  go_wp2
  all_goals
    go_ret3
    exact ⟨rfl, nq, rfl⟩

/-- What the law's cut tells of a slice of the call's own. -/
theorem cut_any (base : Nat) (v : Value) (l : List Int) (w : World) (h : SLi w base v l) :
    Calls Try.prog 16 #[v] w fun e w' => ∃ v', e = .returned (.tuple #[.int .i64 (headOf l), .bool (!l.isEmpty), v']) ∧ SLi w' base v' l.tail ∧ (v'.ownBlock = none ∨ v'.ownBlock = v.ownBlock) ∧ ∃ k, w' = w.drewN k := by
  obtain ⟨A, cap, rfl, hnc, hcm, hnone, hsome⟩ := SL.shape h
  cases l with
  | nil =>
    exact (cut_nil A cap w).mono fun e w' ⟨he, hw⟩ => ⟨_, he, SL.nil_ _ _ _ _, .inl rfl, 0, hw.symm⟩
  | cons x l =>
    cases A with
    | none => exact absurd (hnone rfl).1 (by simp)
    | some ad =>
      obtain ⟨hob, hrow, _⟩ := hsome ad rfl
      have hx : w.cell? ad = some (.int .i64 x) := hrow 0 _ rfl
      have hcut := SL.cut (lo := 1) (hi := l.length + 1) h (by omega) (by simp)
      have hd : ((ints (x :: l)).drop (1 * 1)).take ((l.length + 1 - 1) * 1) = ints l := by
        simp [ints, List.take_of_length_le]
      rw [hd] at hcut
      refine (cut_cons ad l.length cap x hnc hcm w hx).mono fun e w' ⟨he, k, hw⟩ => ⟨_, he, ?_, .inr SL.own_cut, k, hw⟩
      subst hw
      exact hcut.keep fun _ _ => rfl
end Go.Proofs.Ythcflakdimedpaa
