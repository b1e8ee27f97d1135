/-
  Putting ids one by one, and sorting them whole, each once, are one. Conditions: none.
-/
import Derived.Test.YtgdiajhegmdfgaaSrtD
namespace Go.Proofs.Ytgdiajhegmdfgaa
open Go.Sort Go.Lib

theorem lowB_irrefl (x : Id20) : lowB x x = false := by unfold lowB; rw [cmp_self]; rfl
theorem lowB_trans (x y z : Id20) (h : lowB x y = true) (k : lowB y z = true) : lowB x z = true := by
  unfold lowB at *
  exact decide_eq_true (cmp_trans _ _ _ (of_decide_eq_true h) (of_decide_eq_true k))
theorem lowB_total (x y : Id20) (h : lowB x y = false) (hne : x ≠ y) : lowB y x = true := by
  unfold lowB at *
  have h1 := of_decide_eq_false h
  have h2 := cmp_neg x.1 y.1
  have h3 : Lib.compareBytes x.1 y.1 ≠ 0 := fun e => hne (Subtype.ext ((cmp_zero _ _).1 e))
  exact decide_eq_true (by omega)
theorem lowB_asymm (x y : Id20) (h : lowB x y = true) (k : lowB y x = true) : False := by
  have := lowB_trans x y x h k
  rw [lowB_irrefl] at this
  cases this
/-- Rising, each once. -/
def Rising (l : List Id20) : Prop := l.Pairwise fun x y => lowB x y = true
theorem rising_unique (a b : List Id20) (ha : Rising a) (hb : Rising b) (h : ∀ x, x ∈ a ↔ x ∈ b) : a = b := by
  have na : a.Nodup := ha.imp fun {x y} hxy e => by rw [e, lowB_irrefl] at hxy; cases hxy
  have nb : b.Nodup := hb.imp fun {x y} hxy e => by rw [e, lowB_irrefl] at hxy; cases hxy
  have hp : a.Perm b := (List.perm_ext_iff_of_nodup na nb).2 h
  exact hp.eq_of_pairwise (fun x y _ _ h1 h2 => (lowB_asymm x y h1 h2).elim) ha hb

theorem place_spec (l : List Id20) (x : Id20) : l.take (placeOf l x) = l.takeWhile (fun y => lowB y x) ∧ l.drop (placeOf l x) = l.dropWhile (fun y => lowB y x) := by
  have h := List.takeWhile_append_dropWhile (p := fun y => lowB y x) (l := l)
  have hl : (l.takeWhile fun y => lowB y x).length = placeOf l x := rfl
  have e1 := List.take_left' (l₂ := l.dropWhile fun y => lowB y x) hl
  have e2 := List.drop_left' (l₂ := l.dropWhile fun y => lowB y x) hl
  rw [h] at e1 e2
  exact ⟨e1, e2⟩
theorem takeWhile_all (l : List Id20) (x : Id20) : ∀ y ∈ l.takeWhile (fun y => lowB y x), lowB y x = true := by
  induction l with
  | nil => simp
  | cons a l ih =>
    rw [List.takeWhile_cons]
    split
    · rename_i h
      intro y hy
      rcases List.mem_cons.1 hy with rfl | hy
      · exact h
      · exact ih y hy
    · simp
theorem drop_above (l : List Id20) (x : Id20) (hl : Rising l) : ∀ y ∈ l.dropWhile (fun y => lowB y x), lowB y x = false := by
  induction l with
  | nil => simp
  | cons a l ih =>
    have hr : Rising l := (List.pairwise_cons.1 hl).2
    rw [List.dropWhile_cons]
    split
    · exact ih hr
    · rename_i h
      have ha : lowB a x = false := by simpa using h
      intro y hy
      rcases List.mem_cons.1 hy with rfl | hy
      · exact ha
      · cases hyx : lowB y x with
        | false => rfl
        | true =>
          have := lowB_trans a y x ((List.pairwise_cons.1 hl).1 y hy) hyx
          rw [ha] at this; cases this
theorem putId_rising (l : List Id20) (x : Id20) (hl : Rising l) : Rising (putId l x) ∧ ∀ y, y ∈ putId l x ↔ y = x ∨ y ∈ l := by
  obtain ⟨h1, h2⟩ := place_spec l x
  have h3 := List.takeWhile_append_dropWhile (p := fun y => lowB y x) (l := l)
  have hd := drop_above l x hl
  unfold putId
  by_cases hx : l[placeOf l x]? = some x
  · rw [if_pos hx]
    refine ⟨hl, fun y => ⟨Or.inr, ?_⟩⟩
    rintro (rfl | h)
    · exact List.mem_of_getElem? hx
    · exact h
  · rw [if_neg hx, h1, h2]
    have htk : ∀ y ∈ l.takeWhile (fun y => lowB y x), lowB y x = true := takeWhile_all l x
    have hdx : ∀ y ∈ l.dropWhile (fun y => lowB y x), lowB x y = true := by
      intro y hy
      refine lowB_total y x (hd y hy) ?_
      rintro rfl
      -- the first one of what is left would be it
      cases hdw : l.dropWhile (fun z => lowB z y) with
      | nil => rw [hdw] at hy; cases hy
      | cons a m =>
        have ha : l[placeOf l y]? = some a := by
          have : (l.drop (placeOf l y))[0]? = some a := by rw [h2, hdw]; rfl
          rw [List.getElem?_drop] at this
          simpa using this
        rw [hdw] at hy
        rcases List.mem_cons.1 hy with rfl | hm
        · exact hx ha
        · have hr : Rising (a :: m) := by
            rw [← hdw]
            exact hl.sublist (List.dropWhile_sublist _)
          have h5 := (List.pairwise_cons.1 hr).1 y hm
          have h6 := hd a (by rw [hdw]; exact List.mem_cons_self ..)
          rw [h6] at h5; cases h5
    have hl' : Rising (l.takeWhile (fun y => lowB y x) ++ l.dropWhile (fun y => lowB y x)) := by rw [h3]; exact hl
    have hpw := List.pairwise_append.1 hl'
    refine ⟨?_, fun y => ?_⟩
    · rw [List.append_assoc]
      refine List.pairwise_append.2 ⟨hpw.1, List.pairwise_cons.2 ⟨hdx, hpw.2.1⟩, fun a ha b hb => ?_⟩
      rcases List.mem_cons.1 hb with rfl | hb
      · exact htk a ha
      · exact hpw.2.2 a ha b hb
    · have hm : y ∈ l ↔ y ∈ l.takeWhile (fun y => lowB y x) ∨ y ∈ l.dropWhile (fun y => lowB y x) := by
        conv => lhs; rw [← h3]
        exact List.mem_append
      rw [hm]
      simp only [List.mem_append, List.mem_singleton]
      exact ⟨fun h => by rcases h with (h | h) | h <;> simp [h], fun h => by rcases h with h | h | h <;> simp [h]⟩
theorem putAll_rising (d : Array Id20) : ∀ k, k ≤ d.size → Rising (putAll d k) ∧ ∀ y, y ∈ putAll d k ↔ ∃ i, i < k ∧ d[i]! = y
  | 0, _ => ⟨List.Pairwise.nil, fun y => by simp [putAll]⟩
  | k + 1, hk => by
    obtain ⟨h1, h2⟩ := putAll_rising d k (by omega)
    obtain ⟨h3, h4⟩ := putId_rising (putAll d k) d[k]! h1
    refine ⟨h3, fun y => ?_⟩
    show y ∈ putId (putAll d k) d[k]! ↔ _
    rw [h4, h2]
    constructor
    · rintro (rfl | ⟨i, hi, rfl⟩)
      · exact ⟨k, by omega, rfl⟩
      · exact ⟨i, by omega, rfl⟩
    · rintro ⟨i, hi, rfl⟩
      by_cases e : i = k
      · left; rw [e]
      · right; exact ⟨i, by omega, rfl⟩

theorem rise_lt (x y : Id20) : ltOf (nearC (List.replicate 20 0)) x y = lowB x y := by
  rw [near_lt, farC_zeros x.1 y.1 x.2 y.2]
  rfl
theorem compact_rising (s : Array Id20) (hs : ∀ i j, i < j → j < s.size → lowB s[j]! s[i]! = false) : Rising (compactUpTo s s.size) ∧ ∀ y, y ∈ compactUpTo s s.size ↔ ∃ i, i < s.size ∧ s[i]! = y := by
  have hlt : ∀ i j, i < j → j < s.size → keeps s j = true → lowB s[i]! s[j]! = true := by
    intro i j hij hj hk
    unfold keeps at hk
    have h1 := of_decide_eq_true hk
    rcases h1 with h1 | h1
    · omega
    · have h2 : lowB s[j - 1]! s[j]! = true := lowB_total _ _ (hs (j - 1) j (by omega) hj) h1
      by_cases e : i = j - 1
      · rw [e]; exact h2
      · have h3 := hs i (j - 1) (by omega) (by omega)
        by_cases e2 : s[i]! = s[j - 1]!
        · rw [e2]; exact h2
        · exact lowB_trans _ _ _ (lowB_total _ _ h3 (fun h => e2 h.symm)) h2
  unfold compactUpTo
  constructor
  · unfold Rising
    rw [List.pairwise_map]
    refine List.Pairwise.imp_of_mem (R := (· < ·)) ?_ ((List.pairwise_lt_range (n := s.size)).filter _)
    intro a b ha hb hab
    obtain ⟨hb1, hb2⟩ := List.mem_filter.1 hb
    exact hlt a b hab (List.mem_range.1 hb1) hb2
  · intro y
    rw [List.mem_map]
    constructor
    · rintro ⟨i, hi, rfl⟩
      exact ⟨i, List.mem_range.1 (List.mem_filter.1 hi).1, rfl⟩
    · rintro ⟨i, hi, rfl⟩
      induction i with
      | zero => exact ⟨0, List.mem_filter.2 ⟨List.mem_range.2 hi, by simp [keeps]⟩, rfl⟩
      | succ i ih =>
        by_cases hk : keeps s (i + 1) = true
        · exact ⟨i + 1, List.mem_filter.2 ⟨List.mem_range.2 hi, hk⟩, rfl⟩
        · obtain ⟨j, hj, e⟩ := ih (by omega)
          refine ⟨j, hj, e.trans ?_⟩
          have h1 : ¬ (i + 1 = 0 ∨ s[i + 1]! ≠ s[i + 1 - 1]!) := fun h => hk (by unfold keeps; exact decide_eq_true h)
          have h2 : s[i + 1]! = s[i]! := Classical.byContradiction fun h => h1 (Or.inr h)
          exact h2.symm
theorem mem_get! (d : Array Id20) (y : Id20) : y ∈ d.toList ↔ ∃ i, i < d.size ∧ d[i]! = y := by
  rw [List.mem_iff_getElem]
  constructor
  · rintro ⟨i, hi, rfl⟩
    exact ⟨i, by simpa using hi, by rw [getElem!_pos _ i (by simpa using hi)]; simp⟩
  · rintro ⟨i, hi, rfl⟩
    exact ⟨i, by simpa using hi, by rw [getElem!_pos _ i hi]; simp⟩
theorem putAll_near (d : Array Id20) : putAll d d.size = nearD (List.replicate 20 0) d := by
  have ht : (List.replicate 20 (0 : UInt8)).length = 20 := by simp
  have hS := near_swo (List.replicate 20 0) ht
  have hsz : (nearS (List.replicate 20 0) d.toList).toArray.size = d.size := nearS_size _ d
  have hpw : (nearS (List.replicate 20 0) d.toList).Pairwise fun x y => (!ltOf (nearC (List.replicate 20 0)) y x) = true := by
    refine List.pairwise_mergeSort ?_ ?_ _
    · intro a b c h1 h2
      simp only [Bool.not_eq_true'] at h1 h2 ⊢
      exact hS.ntrans c b a h2 h1
    · intro a b
      cases h1 : ltOf (nearC (List.replicate 20 0)) b a with
      | false => rfl
      | true =>
        cases h2 : ltOf (nearC (List.replicate 20 0)) a b with
        | false => rfl
        | true => have := hS.trans _ _ _ h1 h2; rw [hS.irrefl] at this; cases this
  have hs : ∀ i j, i < j → j < (nearS (List.replicate 20 0) d.toList).toArray.size → lowB (nearS (List.replicate 20 0) d.toList).toArray[j]! (nearS (List.replicate 20 0) d.toList).toArray[i]! = false := by
    intro i j hij hj
    have hj' : j < (nearS (List.replicate 20 0) d.toList).length := by simpa using hj
    have h := List.pairwise_iff_getElem.1 hpw i j (by omega) hj' hij
    rw [← rise_lt, getElem!_pos _ j hj, getElem!_pos _ i (by omega)]
    simpa using h
  obtain ⟨c1, c2⟩ := compact_rising _ hs
  obtain ⟨p1, p2⟩ := putAll_rising d d.size (Nat.le_refl _)
  rw [hsz] at c1 c2
  refine rising_unique _ _ p1 c1 fun y => ?_
  show _ ↔ y ∈ compactUpTo (nearS (List.replicate 20 0) d.toList).toArray d.size
  rw [p2, c2, ← mem_get! d y]
  have h1 := mem_get! (nearS (List.replicate 20 0) d.toList).toArray y
  rw [hsz] at h1
  rw [← h1]
  unfold nearS
  simp
end Go.Proofs.Ytgdiajhegmdfgaa
