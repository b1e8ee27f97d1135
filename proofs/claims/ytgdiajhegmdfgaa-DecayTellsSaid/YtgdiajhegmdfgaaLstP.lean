/-
  The nearest ids, each once: sorted, and the same ids. Conditions: ids of twenty bytes.
-/
import Derived.Test.YtgdiajhegmdfgaaMetC
namespace Go.Proofs.Ytgdiajhegmdfgaa
open Go.Sort Go.Lib

/-- Sorted by the distance to t, each once. -/
def NearUp (t : List UInt8) (d : Array Id20) : Prop := ∀ i j, i < j → j < d.size → farC t d[i]!.1 d[j]!.1 < 0

theorem compact_up (t : List UInt8) (ht : t.length = 20) (s : Array Id20) (hs : ∀ i j, i < j → j < s.size → ¬ farC t s[j]!.1 s[i]!.1 < 0) :
    (compactUpTo s s.size).Pairwise (fun x y => farC t x.1 y.1 < 0) ∧ ∀ y, y ∈ compactUpTo s s.size ↔ ∃ i, i < s.size ∧ s[i]! = y := by
  have tot : ∀ x y : Id20, ¬ farC t x.1 y.1 < 0 → x ≠ y → farC t y.1 x.1 < 0 := by
    intro x y h hne
    have h1 := farC_neg t x.1 y.1
    have h2 : farC t x.1 y.1 ≠ 0 := fun e => hne (Subtype.ext ((farC_zero t x.1 y.1 (by rw [ht, x.2]) (by rw [ht, y.2])).1 e))
    omega
  have hlt : ∀ i j, i < j → j < s.size → keeps s j = true → farC t s[i]!.1 s[j]!.1 < 0 := by
    intro i j hij hj hk
    unfold keeps at hk
    have h1 := of_decide_eq_true hk
    rcases h1 with h1 | h1
    · omega
    · have h2 : farC t s[j - 1]!.1 s[j]!.1 < 0 := tot _ _ (hs (j - 1) j (by omega) hj) h1
      by_cases e : i = j - 1
      · rw [e]; exact h2
      · have h3 := hs i (j - 1) (by omega) (by omega)
        by_cases e2 : s[i]! = s[j - 1]!
        · rw [e2]; exact h2
        · exact farC_trans t _ _ _ (tot _ _ h3 (fun h => e2 h.symm)) h2
  unfold compactUpTo
  constructor
  · rw [List.pairwise_map]
    refine List.Pairwise.imp_of_mem (R := (· < ·)) ?_ ((List.pairwise_lt_range (n := s.size)).filter _)
    intro a b ha hb hab
    obtain ⟨hb1, hb2⟩ := List.mem_filter.1 hb
    exact hlt a b hab (List.mem_range.1 hb1) hb2
  · intro y
    rw [List.mem_map]
    constructor
    · rintro ⟨i, hi, rfl⟩
      exact ⟨i, List.mem_range.1 (List.mem_filter.1 hi).1, rfl⟩
    · rintro ⟨i, hi, rfl⟩
      induction i with
      | zero => exact ⟨0, List.mem_filter.2 ⟨List.mem_range.2 hi, by simp [keeps]⟩, rfl⟩
      | succ i ih =>
        by_cases hk : keeps s (i + 1) = true
        · exact ⟨i + 1, List.mem_filter.2 ⟨List.mem_range.2 hi, hk⟩, rfl⟩
        · obtain ⟨j, hj, e⟩ := ih (by omega)
          refine ⟨j, hj, e.trans ?_⟩
          have h1 : ¬ (i + 1 = 0 ∨ s[i + 1]! ≠ s[i + 1 - 1]!) := fun h => hk (by unfold keeps; exact decide_eq_true h)
          have h2 : s[i + 1]! = s[i]! := Classical.byContradiction fun h => h1 (Or.inr h)
          exact h2.symm
theorem mem_getB (d : Array Id20) (y : Id20) : y ∈ d.toList ↔ ∃ i, i < d.size ∧ d[i]! = y := by
  rw [List.mem_iff_getElem]
  constructor
  · rintro ⟨i, hi, rfl⟩
    exact ⟨i, by simpa using hi, by rw [getElem!_pos _ i (by simpa using hi)]; simp⟩
  · rintro ⟨i, hi, rfl⟩
    exact ⟨i, by simpa using hi, by rw [getElem!_pos _ i hi]; simp⟩
theorem nearD_spec (t : List UInt8) (ht : t.length = 20) (d : Array Id20) : (nearD t d).Pairwise (fun x y => farC t x.1 y.1 < 0) ∧ ∀ y, y ∈ nearD t d ↔ y ∈ d.toList := by
  have hS := near_swo t ht
  have hsz : (nearS t d.toList).toArray.size = d.size := nearS_size _ d
  have hpw : (nearS t d.toList).Pairwise fun x y => (!ltOf (nearC t) y x) = true := by
    refine List.pairwise_mergeSort ?_ ?_ _
    · intro a b c h1 h2
      simp only [Bool.not_eq_true'] at h1 h2 ⊢
      exact hS.ntrans c b a h2 h1
    · intro a b
      cases h1 : ltOf (nearC t) b a with
      | false => rfl
      | true =>
        cases h2 : ltOf (nearC t) a b with
        | false => rfl
        | true => have := hS.trans _ _ _ h1 h2; rw [hS.irrefl] at this; cases this
  have hs : ∀ i j, i < j → j < (nearS t d.toList).toArray.size → ¬ farC t (nearS t d.toList).toArray[j]!.1 (nearS t d.toList).toArray[i]!.1 < 0 := by
    intro i j hij hj
    have hj' : j < (nearS t d.toList).length := by simpa using hj
    have h := List.pairwise_iff_getElem.1 hpw i j (by omega) hj' hij
    rw [getElem!_pos _ j hj, getElem!_pos _ i (by omega)]
    simp only [Bool.not_eq_true', near_lt, decide_eq_false_iff_not] at h
    simpa using h
  obtain ⟨c1, c2⟩ := compact_up t ht _ hs
  rw [hsz] at c1 c2
  refine ⟨c1, fun y => ?_⟩
  show y ∈ compactUpTo (nearS t d.toList).toArray d.size ↔ _
  have h1 := mem_getB (nearS t d.toList).toArray y
  rw [hsz] at h1
  rw [c2, ← h1]
  unfold nearS
  simp
theorem nearUp_of (t : List UInt8) (l : List Id20) (h : l.Pairwise (fun x y => farC t x.1 y.1 < 0)) : NearUp t l.toArray := by
  intro i j hij hj
  have hj' : j < l.length := by simpa using hj
  have := List.pairwise_iff_getElem.1 h i j (by omega) hj' hij
  rw [getElem!_pos _ i (by simp; omega), getElem!_pos _ j hj]
  simpa using this
/-- Two that are sorted, each once, of the same ids are one. -/
theorem near_unique (t : List UInt8) (ht : t.length = 20) (a b : List Id20) (ha : a.Pairwise (fun x y => farC t x.1 y.1 < 0)) (hb : b.Pairwise (fun x y => farC t x.1 y.1 < 0)) (h : ∀ x, x ∈ a ↔ x ∈ b) : a = b := by
  have irr : ∀ x : Id20, ¬ farC t x.1 x.1 < 0 := fun x h => by rw [(farC_zero t x.1 x.1 (by rw [ht, x.2]) (by rw [ht, x.2])).2 rfl] at h; exact absurd h (by decide)
  have na : a.Nodup := ha.imp fun {x y} hxy e => by rw [e] at hxy; exact irr _ hxy
  have nb : b.Nodup := hb.imp fun {x y} hxy e => by rw [e] at hxy; exact irr _ hxy
  have hp : a.Perm b := (List.perm_ext_iff_of_nodup na nb).2 h
  exact hp.eq_of_pairwise (fun x y _ _ h1 h2 => (irr x (farC_trans t _ _ _ h1 h2)).elim) ha hb
end Go.Proofs.Ytgdiajhegmdfgaa
