/-
  Rows of numbers that a call owns; signpostlaw18.has; a row of one more. Conditions: as each theorem says.
-/
import Derived.Test.YtnmmeccbpcichaaRecU
namespace Go.Proofs.Ytnmmeccbpcichaa
open Go.RowKit

/-- A slice of numbers of the call's own. -/
def OwnI (w : World) (base : Nat) (v : Value) (ks : List KeyI) : Prop := w.ownsRow base 3 1 v ks.length (intsV ks)
theorem OwnI.form {w : World} {base : Nat} {v : Value} {ks : List KeyI} (h : OwnI w base v ks) :
    ∃ q cap, v = .slice q ks.length cap ∧ (∀ k x, ks[k]? = some x → ∃ g, q = some ⟨g, 0, none⟩ ∧ w.cell? ⟨g, k, none⟩ = some (.int .i64 x.1)) := by
  rcases h.2 with ⟨h1, h2⟩ | ⟨g, cap, cur, h1, h2, h3, h4, h5, h6, h7⟩
  · have : ks = [] := List.eq_nil_of_length_eq_zero h2
    subst this
    exact ⟨none, 0, h1, fun k x hx => by simp at hx⟩
  · refine ⟨some ⟨g, 0, none⟩, cap, h1, fun k x hx => ⟨g, rfl, ?_⟩⟩
    have e : (intsV ks)[k]? = some (.int .i64 x.1) := by simp [intsV, hx]
    rw [← h7, List.getElem?_take] at e
    split at e
    · simp [World.cell?, h3]
      simpa using e
    · cases e
theorem OwnI.lt {w : World} {base : Nat} {v : Value} {ks : List KeyI} (h : OwnI w base v ks) {g : Nat} (hg : v.ownBlock = some g) : base ≤ g ∧ g < w.heap.size := by
  rcases h.2 with ⟨rfl, _⟩ | ⟨g', cap, cur, rfl, h2, h3, _⟩
  · cases hg
  · obtain rfl : g' = g := Option.some.inj hg
    exact ⟨h2, lt_of_block h3⟩
theorem OwnI.keep {w w' : World} {base : Nat} {v : Value} {ks : List KeyI} (h : OwnI w base v ks) (hk : ∀ g, v.ownBlock = some g → w'.heap[g]? = w.heap[g]?) : OwnI w' base v ks := by
  refine ⟨h.1, ?_⟩
  rcases h.2 with h2 | ⟨g, cap, cur, h1, h2, h3, h4⟩
  · exact Or.inl h2
  · exact Or.inr ⟨g, cap, cur, h1, h2, (hk g (by rw [h1]; rfl)).trans h3, h4⟩
theorem OwnI.below {w w' : World} {base : Nat} {v : Value} {ks : List KeyI} (h : OwnI w base v ks) (hb : Below w.heap.size w w') : OwnI w' base v ks := h.keep fun g hg => hb.block g (h.lt hg).2
theorem OwnI.mono {w : World} {base base' : Nat} {v : Value} {ks : List KeyI} (h : OwnI w base' v ks) (hb : base ≤ base') : OwnI w base v ks := by
  refine ⟨h.1, ?_⟩
  rcases h.2 with h2 | ⟨g, cap, cur, h1, h2, h3⟩
  · exact Or.inl h2
  · exact Or.inr ⟨g, cap, cur, h1, Nat.le_trans hb h2, h3⟩
theorem OwnI.nil (w : World) (base : Nat) : OwnI w base (.slice none 0 0) [] := ⟨rfl, Or.inl ⟨rfl, rfl⟩⟩
theorem OwnI.empty {w : World} {base : Nat} (hb : base ≤ w.heap.size) : OwnI (w.alloc (.cells #[] 3)) base (.slice (some ⟨w.heap.size, 0, none⟩) 0 0) [] :=
  ⟨rfl, Or.inr ⟨w.heap.size, 0, #[], rfl, hb, heap_alloc_new _ _, Nat.le_refl _, by unfold maxLen; omega, rfl, rfl⟩⟩

theorem mem_take_succ {ks : List KeyI} {k : Nat} {x y : KeyI} (hy : ks[k]? = some y) : x ∈ ks.take (k + 1) ↔ x ∈ ks.take k ∨ x = y := by
  rw [List.take_add_one, hy]
  simp

set_option maxHeartbeats 1000000 in
theorem law18_has {w : World} {base : Nat} {v : Value} {ks : List KeyI} (h : OwnI w base v ks) (hn : ks.length ≤ 1000000) (x : KeyI) :
    Calls Try.prog 16 #[v, .int .i64 x.1] w fun e w' => e = .returned (.bool (decide (x ∈ ks))) ∧ w = w' := by
  obtain ⟨q, cap, rfl, hc⟩ := h.form
  have HC := Lib.hid hc
  clear hc h
  go_enter Try.func16, Try.ntmps16
  go_wp2
  go_loopw [9] (fun s9 wr => ∃ k : Nat, s9 = .int .i64 k ∧ k ≤ ks.length ∧ Hid (x ∉ ks.take k) ∧ w = wr) (fun s9 _ => ks.length - (intOf s9).toNat)
  case atStart => exact ⟨0, rfl, Nat.zero_le _, Lib.hid (by simp), rfl⟩
  case round =>
    obtain ⟨k, rfl, hk, HN, rfl⟩ := hrel
    by_cases hlt : k < ks.length
    · obtain ⟨y, hy⟩ : ∃ y, ks[k]? = some y := ⟨ks[k], List.getElem?_eq_getElem hlt⟩
      obtain ⟨g, rfl, hcell⟩ := HC.out k y hy
      have HY := Lib.hid hy
      have hk1 : (k : Int) < (ks.length : Int) := by omega
      clear hy
      by_cases e : y = x
      · subst e
        have hm : Hid (y ∈ ks) := Lib.hid (List.mem_of_getElem? HY.out)
        have hq : (y.1 == y.1) = true := by simp
        go_wp2
        go_ret
        exact ⟨by rw [decide_eq_true hm.out]; rfl, rfl⟩
      · have hne : ¬ y.1 = x.1 := fun h => e (Subtype.ext h)
        have hq : (y.1 == x.1) = false := by simp [hne]
        have HE := Lib.hid e
        clear e
        go_wp2
        go_roundw
        case rel => exact ⟨k + 1, by go_num, by omega, Lib.hid (fun h => by rcases (mem_take_succ HY.out).1 h with h | h; exact HN.out h; exact HE.out h.symm), by first | rfl | trivial⟩
        case measure => simp [intOf]; omega
    · have hk2 : k = ks.length := by omega
      subst hk2
      go_wp2
      go_ret
      refine ⟨?_, rfl⟩
      have := HN.out
      rw [List.take_length] at this
      rw [decide_eq_false this]
      rfl
end Go.Proofs.Ytnmmeccbpcichaa
