/-
  Keys that are touched and what lies behind one of them, in plain lists. Conditions: none.
-/
import Derived.Test.YtnmmeccbpcichaaMem
namespace Go.Proofs.Ytnmmeccbpcichaa

section
variable {α : Type} [DecidableEq α]
/-- What stands behind a key. -/
def after (k : α) : List α → List α
  | [] => []
  | x :: r => if x = k then r else after k r
theorem after_not {k : α} : ∀ {l : List α}, k ∉ l → after k l = []
  | [], _ => rfl
  | x :: r, h => by
    rw [List.mem_cons, not_or] at h
    rw [after, if_neg (fun e => h.1 e.symm), after_not h.2]
theorem after_snoc {k x : α} : ∀ {l : List α} (a : α), x ∈ after k (l ++ [a]) → x ∈ after k l ∨ x = a
  | [], a, h => by
    simp only [List.nil_append, after] at h
    split at h <;> cases h
  | y :: r, a, h => by
    rw [List.cons_append, after] at h
    rw [after]
    split at h
    · rename_i e
      rw [if_pos e]
      simpa using h
    · rename_i e
      rw [if_neg e]
      exact after_snoc a h
theorem after_last {k : α} : ∀ {l : List α}, k ∉ l → after k (l ++ [k]) = []
  | [], _ => by simp [after]
  | x :: r, h => by
    rw [List.mem_cons, not_or] at h
    rw [List.cons_append, after, if_neg (fun e => h.1 e.symm), after_last h.2]
theorem after_sub {k x : α} : ∀ {l : List α} , x ∈ after k l → x ∈ l
  | [], h => h
  | y :: r, h => by
    rw [after] at h
    split at h
    · exact List.mem_cons_of_mem _ h
    · exact List.mem_cons_of_mem _ (after_sub h)
theorem after_erase {k x a : α} (hne : a ≠ k) : ∀ {l : List α}, x ∈ after k (l.erase a) → x ∈ after k l
  | [], h => h
  | y :: r, h => by
    rw [List.erase_cons] at h
    rw [after]
    split at h
    · rename_i e
      have e : y = a := by simpa using e
      rw [if_neg (fun e' => hne (e.symm.trans e'))]
      exact h
    · rw [after] at h
      split
      · rename_i e
        rw [if_pos e] at h
        exact List.mem_of_mem_erase h
      · rename_i e
        rw [if_neg e] at h
        exact after_erase hne h

/-- What the law keeps from op to op. -/
structure Once (k : α) (ks since : List α) (on : Bool) : Prop where
  no : k ∉ since
  be : on = true → ∀ x ∈ after k ks, x ∈ since
theorem Once.add {k a : α} {ks since : List α} {on : Bool} (h : Once k ks since on) (hne : a ≠ k) : Once k (ks ++ [a]) (since ++ [a]) on :=
  ⟨fun hm => (List.mem_append.1 hm).elim h.no fun e => hne (List.mem_singleton.1 e).symm, fun ho x hx => by
    rcases after_snoc a hx with hx | rfl
    · exact List.mem_append_left _ (h.be ho x hx)
    · simp⟩
theorem Once.last {k : α} {ks : List α} (hk : k ∉ ks) (on : Bool) : Once k (ks ++ [k]) [] on := ⟨by simp, fun _ x hx => by rw [after_last hk] at hx; cases hx⟩
theorem Once.erase {k a : α} {ks since : List α} {on : Bool} (h : Once k ks since on) (hne : a ≠ k) : Once k (ks.erase a) since on :=
  ⟨h.no, fun ho x hx => h.be ho x (after_erase hne hx)⟩
theorem Once.gone {k : α} {ks since : List α} {on : Bool} (h : Once k ks since on) (hk : k ∉ ks) (on' : Bool) : Once k ks since on' := ⟨h.no, fun _ x hx => by rw [after_not hk] at hx; cases hx⟩
end
end Go.Proofs.Ytnmmeccbpcichaa
