/-
  Put one by one, bounded, in any order, the nearest ids are left. Conditions: ids of twenty bytes.
-/
import Derived.Test.YtjdmbegmbffhfaaLstF
namespace Go.Proofs.Ytjdmbegmbffhfaa
open Go.Sort Go.Lib

/-- The place at which an id is put among ids sorted by their distance. -/
def farP (t : List UInt8) (x y : Id20) : Bool := decide (farC t y.1 x.1 < 0)
def putN (t : List UInt8) (l : List Id20) (x : Id20) : List Id20 :=
  if (l.dropWhile (farP t x)).head? = some x then l else l.takeWhile (farP t x) ++ x :: l.dropWhile (farP t x)

section
variable (t : List UInt8) (ht : t.length = 20)
include ht
theorem far_irr (x : Id20) : ¬ farC t x.1 x.1 < 0 := fun h => by rw [(farC_zero t x.1 x.1 (by rw [ht, x.2]) (by rw [ht, x.2])).2 rfl] at h; exact absurd h (by decide)
theorem far_tot (x y : Id20) (h : ¬ farC t x.1 y.1 < 0) (hne : x ≠ y) : farC t y.1 x.1 < 0 := by
  have h1 := farC_neg t x.1 y.1
  have h2 : farC t x.1 y.1 ≠ 0 := fun e => hne (Subtype.ext ((farC_zero t x.1 y.1 (by rw [ht, x.2]) (by rw [ht, y.2])).1 e))
  omega
omit ht in
theorem dropW_above (l : List Id20) (x : Id20) (hl : l.Pairwise (fun x y => farC t x.1 y.1 < 0)) : ∀ y ∈ l.dropWhile (farP t x), ¬ farC t y.1 x.1 < 0 := by
  induction l with
  | nil => simp
  | cons a l ih =>
    rw [List.dropWhile_cons]
    split
    · exact ih (List.pairwise_cons.1 hl).2
    · rename_i h
      have ha : ¬ farC t a.1 x.1 < 0 := by unfold farP at h; simpa using h
      intro y hy
      rcases List.mem_cons.1 hy with rfl | hy
      · exact ha
      · intro hyx
        exact ha (farC_trans t _ _ _ ((List.pairwise_cons.1 hl).1 y hy) hyx)
omit ht in
theorem takeW_below (l : List Id20) (x : Id20) : ∀ y ∈ l.takeWhile (farP t x), farC t y.1 x.1 < 0 := by
  induction l with
  | nil => simp
  | cons a l ih =>
    rw [List.takeWhile_cons]
    split
    · rename_i h
      intro y hy
      rcases List.mem_cons.1 hy with rfl | hy
      · unfold farP at h; simpa using h
      · exact ih y hy
    · simp
theorem putN_spec (l : List Id20) (x : Id20) (hl : l.Pairwise (fun x y => farC t x.1 y.1 < 0)) : (putN t l x).Pairwise (fun x y => farC t x.1 y.1 < 0) ∧ ∀ y, y ∈ putN t l x ↔ y ∈ l ∨ y = x := by
  have h3 := List.takeWhile_append_dropWhile (p := farP t x) (l := l)
  have hb := takeW_below t l x
  have ha := dropW_above t l x hl
  have hm : ∀ y, y ∈ l ↔ y ∈ l.takeWhile (farP t x) ∨ y ∈ l.dropWhile (farP t x) := fun y => by
    conv => lhs; rw [← h3]
    exact List.mem_append
  have hpw : (l.takeWhile (farP t x) ++ l.dropWhile (farP t x)).Pairwise (fun x y => farC t x.1 y.1 < 0) := by rw [h3]; exact hl
  obtain ⟨q1, q2, q3⟩ := List.pairwise_append.1 hpw
  unfold putN
  by_cases hx : (l.dropWhile (farP t x)).head? = some x
  · rw [if_pos hx]
    refine ⟨hl, fun y => ⟨Or.inl, ?_⟩⟩
    rintro (h | rfl)
    · exact h
    · exact (hm y).2 (Or.inr (List.mem_of_head? hx))
  · rw [if_neg hx]
    have hdx : ∀ y ∈ l.dropWhile (farP t x), farC t x.1 y.1 < 0 := by
      intro y hy
      refine far_tot t ht y x (ha y hy) ?_
      rintro rfl
      cases hd : l.dropWhile (farP t y) with
      | nil => rw [hd] at hy; cases hy
      | cons a m =>
        rw [hd] at hy hx q2
        rcases List.mem_cons.1 hy with rfl | hym
        · exact hx rfl
        · exact ha a (by rw [hd]; exact List.mem_cons_self ..) ((List.pairwise_cons.1 q2).1 y hym)
    refine ⟨List.pairwise_append.2 ⟨q1, List.pairwise_cons.2 ⟨hdx, q2⟩, fun a h1 b h2 => ?_⟩, fun y => ?_⟩
    · rcases List.mem_cons.1 h2 with rfl | h2
      · exact hb a h1
      · exact q3 a h1 b h2
    · rw [hm y]
      simp only [List.mem_append, List.mem_cons]
      constructor
      · rintro (h | h | h) <;> simp [h]
      · rintro ((h | h) | h) <;> simp [h]
theorem nearD_push (d : Array Id20) (x : Id20) : nearD t (d ++ #[x]) = putN t (nearD t d) x := by
  obtain ⟨a1, a2⟩ := nearD_spec t ht (d ++ #[x])
  obtain ⟨b1, b2⟩ := nearD_spec t ht d
  obtain ⟨c1, c2⟩ := putN_spec t ht (nearD t d) x b1
  refine near_unique t ht _ _ a1 c1 fun y => ?_
  rw [a2, c2, b2]
  simp
theorem nearD_sorted (l : List Id20) (hl : l.Pairwise (fun x y => farC t x.1 y.1 < 0)) : nearD t l.toArray = l := by
  obtain ⟨a1, a2⟩ := nearD_spec t ht l.toArray
  exact near_unique t ht _ _ a1 hl fun y => by rw [a2]
omit ht in
/-- Bounded, it is the same. -/
theorem putN_take (l : List Id20) (x : Id20) (n : Nat) : (putN t (l.take n) x).take n = (putN t l x).take n := by
  induction l generalizing n with
  | nil => simp
  | cons a l ih =>
    cases n with
    | zero => simp
    | succ n =>
      rw [List.take_succ_cons]
      by_cases hp : farP t x a = true
      · have e1 : putN t (a :: l.take n) x = a :: putN t (l.take n) x := by
          unfold putN
          rw [List.dropWhile_cons, if_pos hp, List.takeWhile_cons, if_pos hp]
          split <;> rfl
        have e2 : putN t (a :: l) x = a :: putN t l x := by
          unfold putN
          rw [List.dropWhile_cons, if_pos hp, List.takeWhile_cons, if_pos hp]
          split <;> rfl
        rw [e1, e2, List.take_succ_cons, List.take_succ_cons, ih n]
      · have e1 : putN t (a :: l.take n) x = if a = x then a :: l.take n else x :: a :: l.take n := by
          unfold putN
          rw [List.dropWhile_cons, if_neg hp, List.takeWhile_cons, if_neg hp]
          simp
        have e2 : putN t (a :: l) x = if a = x then a :: l else x :: a :: l := by
          unfold putN
          rw [List.dropWhile_cons, if_neg hp, List.takeWhile_cons, if_neg hp]
          simp
        rw [e1, e2]
        split
        · rw [List.take_succ_cons, List.take_succ_cons, List.take_take, Nat.min_self]
        · rw [List.take_succ_cons, List.take_succ_cons]
          cases n with
          | zero => rfl
          | succ n => rw [List.take_succ_cons, List.take_succ_cons, List.take_take, Nat.min_eq_left (Nat.le_succ n)]
/-- Put one by one. -/
def insF (n : Int) (f : Nat → Id20) : Nat → List Id20
  | 0 => []
  | k + 1 => withOne t (insF n f k).toArray (f k) n
/-- The first k. -/
def seqA (f : Nat → Id20) (k : Nat) : Array Id20 := ((List.range k).map f).toArray
omit ht in
theorem seqA_succ (f : Nat → Id20) (k : Nat) : seqA f (k + 1) = seqA f k ++ #[f k] := by
  unfold seqA
  rw [List.range_succ, List.map_append]
  simp
end
theorem insF_near (t : List UInt8) (ht : t.length = 20) (n : Int) (f : Nat → Id20) : ∀ k, insF t n f k = (nearD t (seqA f k)).take n.toNat
  | 0 => by
    have : nearD t (seqA f 0) = [] := by
      have := nearD_length t (seqA f 0)
      exact List.eq_nil_of_length_eq_zero (by simpa [seqA] using this)
    rw [this]
    simp [insF]
  | k + 1 => by
    have ih := insF_near t ht n f k
    unfold insF withOne
    rw [ih, seqA_succ, nearD_push t ht, nearD_push t ht]
    have hs : ((nearD t (seqA f k)).take n.toNat).Pairwise (fun x y => farC t x.1 y.1 < 0) := ((nearD_spec t ht (seqA f k)).1).sublist (List.take_sublist _ _)
    rw [nearD_sorted t ht _ hs, putN_take t]
theorem seq_mem (d : Array Id20) (f : Nat → Id20) (h : ∀ y, y ∈ d.toList ↔ ∃ j, j < d.size ∧ f j = y) : ∀ y, y ∈ (seqA f d.size).toList ↔ y ∈ d.toList := by
  intro y
  rw [h]
  simp [seqA]
/-- From the front or from the back: the nearest ones. -/
theorem ins_front (t : List UInt8) (ht : t.length = 20) (n : Int) (d : Array Id20) : insF t n (fun j => d[j]!) d.size = (nearD t d).take n.toNat := by
  rw [insF_near t ht]
  congr 1
  obtain ⟨a1, a2⟩ := nearD_spec t ht (seqA (fun j => d[j]!) d.size)
  obtain ⟨b1, b2⟩ := nearD_spec t ht d
  refine near_unique t ht _ _ a1 b1 fun y => ?_
  rw [a2, b2]
  exact seq_mem d _ (fun y => mem_getB d y) y
theorem ins_back (t : List UInt8) (ht : t.length = 20) (n : Int) (d : Array Id20) : insF t n (fun j => d[d.size - 1 - j]!) d.size = (nearD t d).take n.toNat := by
  rw [insF_near t ht]
  congr 1
  obtain ⟨a1, a2⟩ := nearD_spec t ht (seqA (fun j => d[d.size - 1 - j]!) d.size)
  obtain ⟨b1, b2⟩ := nearD_spec t ht d
  refine near_unique t ht _ _ a1 b1 fun y => ?_
  rw [a2, b2]
  refine seq_mem d _ (fun y => ?_) y
  rw [mem_getB]
  constructor
  · rintro ⟨i, hi, e⟩
    exact ⟨d.size - 1 - i, by omega, by rw [show d.size - 1 - (d.size - 1 - i) = i by omega]; exact e⟩
  · rintro ⟨j, hj, e⟩
    exact ⟨d.size - 1 - j, by omega, e⟩
theorem insF_length (t : List UInt8) (ht : t.length = 20) (n : Int) (f : Nat → Id20) (k : Nat) : (insF t n f k).length ≤ k := by
  rw [insF_near t ht]
  have := nearD_length t (seqA f k)
  simp [seqA] at this ⊢
  omega
/-- A near one's rank is its place. -/
theorem rank_place (t : List UInt8) (ht : t.length = 20) (d : Array Id20) (i : Nat) (x : Id20) (hx : (nearD t d)[i]? = some x) (n : Nat) (h : RankIs t (nearD t d) x n) : n = i := by
  obtain ⟨h1, h2, h3⟩ := h
  obtain ⟨hi, he⟩ := List.getElem?_eq_some_iff.1 hx
  have hu := nearUp_of t _ (nearD_spec t ht d).1
  have hxi : (nearD t d).toArray[i]! = x := by rw [getElem!_pos _ i (by simpa using hi)]; simpa using he
  rcases Nat.lt_trichotomy n i with h4 | h4 | h4
  · have h5 := h3 n (Nat.le_refl _) (by omega)
    have h6 := hu n i h4 (by simpa using hi)
    rw [hxi] at h6
    omega
  · exact h4
  · have h5 := h2 i h4
    rw [hxi] at h5
    exact absurd h5 (far_irr t ht x)
end Go.Proofs.Ytjdmbegmbffhfaa
