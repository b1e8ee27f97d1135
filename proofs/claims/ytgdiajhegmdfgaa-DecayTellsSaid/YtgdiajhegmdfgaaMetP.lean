/-
  The order of nearness, in plain Lean: it parts whatever two ids are unlike, and goes on. Conditions: ids of one length.
-/
import Derived.Test.YtgdiajhegmdfgaaIdR
import Derived.Sort.Statements
import Derived.Sort.LotA
import Derived.Shelf.SlSortCmp.Insertion
namespace Go.Proofs.Ytgdiajhegmdfgaa
open Go.Sort

theorem cmp_self : ∀ a : List UInt8, Lib.compareBytes a a = 0
  | [] => rfl
  | x :: a => by unfold Lib.compareBytes; simp [cmp_self a]
theorem cmp_zero : ∀ a b : List UInt8, Lib.compareBytes a b = 0 ↔ a = b
  | [], [] => by simp [Lib.compareBytes]
  | [], _ :: _ => by simp [Lib.compareBytes]
  | _ :: _, [] => by simp [Lib.compareBytes]
  | x :: a, y :: b => by
    unfold Lib.compareBytes
    by_cases h1 : x < y
    · rw [if_pos h1]
      constructor
      · intro h; cases h
      · intro h; cases h; exact (UInt8.lt_irrefl x h1).elim
    · rw [if_neg h1]
      by_cases h2 : y < x
      · rw [if_pos h2]
        constructor
        · intro h; cases h
        · intro h; cases h; exact (UInt8.lt_irrefl x h2).elim
      · have e : x = y := UInt8.le_antisymm (UInt8.not_lt.1 h2) (UInt8.not_lt.1 h1)
        rw [if_neg h2, cmp_zero a b, e]
        simp
theorem cmp_trans : ∀ a b c : List UInt8, Lib.compareBytes a b < 0 → Lib.compareBytes b c < 0 → Lib.compareBytes a c < 0
  | [], [], _, h, _ => by simp [Lib.compareBytes] at h
  | _ :: _, [], _, h, _ => by simp [Lib.compareBytes] at h
  | _, _ :: _, [], _, h => by simp [Lib.compareBytes] at h
  | [], _ :: _, _ :: _, _, _ => by simp [Lib.compareBytes]
  | x :: a, y :: b, z :: c, h, k => by
    unfold Lib.compareBytes at *
    by_cases h1 : x < y
    · by_cases k1 : y < z
      · rw [if_pos (UInt8.lt_trans h1 k1)]; decide
      · rw [if_neg k1] at k
        by_cases k2 : z < y
        · rw [if_pos k2] at k; exact absurd k (by decide)
        · have e : y = z := UInt8.le_antisymm (UInt8.not_lt.1 k2) (UInt8.not_lt.1 k1)
          rw [← e, if_pos h1]; decide
    · rw [if_neg h1] at h
      by_cases h2 : y < x
      · rw [if_pos h2] at h; exact absurd h (by decide)
      · rw [if_neg h2] at h
        have e : x = y := UInt8.le_antisymm (UInt8.not_lt.1 h2) (UInt8.not_lt.1 h1)
        rw [e]
        by_cases k1 : y < z
        · rw [if_pos k1]; decide
        · rw [if_neg k1] at k ⊢
          by_cases k2 : z < y
          · rw [if_pos k2] at k; exact absurd k (by decide)
          · rw [if_neg k2] at k ⊢
            exact cmp_trans a b c h k

/-- Which one is nearer. -/
def farC (t a b : List UInt8) : Int := Lib.compareBytes (xorB t a) (xorB t b)
theorem farC_bounds (t a b : List UInt8) : -1 ≤ farC t a b ∧ farC t a b ≤ 1 := cmp_bounds _ _
theorem farC_neg (t a b : List UInt8) : farC t a b = - farC t b a := cmp_neg _ _
theorem xorB_inj (t a b : List UInt8) (ha : t.length = a.length) (hb : t.length = b.length) (h : xorB t a = xorB t b) : a = b := by
  have h3 := xorB_three a t b ha.symm hb
  rw [xorB_comm a t, h] at h3
  have h4 := (xorB_zero (xorB t b) (xorB t b) rfl).2 rfl
  rw [h4, xorB_length t b hb, ha] at h3
  exact (xorB_zero a b (by omega)).1 h3.symm
theorem farC_zero (t a b : List UInt8) (ha : t.length = a.length) (hb : t.length = b.length) : farC t a b = 0 ↔ a = b := by
  unfold farC
  rw [cmp_zero]
  exact ⟨xorB_inj t a b ha hb, fun h => by rw [h]⟩
theorem farC_trans (t a b c : List UInt8) (h : farC t a b < 0) (k : farC t b c < 0) : farC t a c < 0 := cmp_trans _ _ _ h k
/-- One that has more bits in common is nearer. -/
theorem farC_prefix (t a b : List UInt8) (ha : t.length = a.length) (hb : t.length = b.length) (h : prefB (xorB t b) < prefB (xorB t a)) : farC t a b < 0 := by
  have la := xorB_length t a ha
  have lb := xorB_length t b hb
  have pa := prefB_le (xorB t a)
  unfold farC
  generalize hX : xorB t a = X at *
  generalize hY : xorB t b = Y at *
  have hq := prefB_at Y (by omega)
  have hx : bitB X (prefB Y) = false := prefB_low X _ h
  have e := pref_first X Y (by omega) (prefB Y) (by omega) (fun j hj => by rw [prefB_low X j (by omega), prefB_low Y j hj]) (Or.inr (by rw [hx, hq]; decide))
  rw [cmp_bits X Y (by omega), e, if_neg (by omega)]
  unfold bitN
  rw [hx, hq]
  decide

/-- An id. -/
abbrev Id20 := { l : List UInt8 // l.length = 20 }
instance id20_inhabited : Inhabited Id20 := ⟨⟨List.replicate 20 0, by simp⟩⟩
/-- The order in which ids are sorted by their distance to t. -/
def nearC (t : List UInt8) (x y : Id20) : Int := farC t x.1 y.1
theorem near_lt (t : List UInt8) (x y : Id20) : ltOf (nearC t) x y = decide (farC t x.1 y.1 < 0) := rfl
theorem near_swo (t : List UInt8) (ht : t.length = 20) : SWO (ltOf (nearC t)) where
  irrefl x := by
    rw [near_lt, (farC_zero t x.1 x.1 (by rw [ht, x.2]) (by rw [ht, x.2])).2 rfl]; decide
  trans x y z h1 h2 := by
    rw [near_lt, decide_eq_true_iff] at *
    exact farC_trans t _ _ _ h1 h2
  ntrans x y z h1 h2 := by
    rw [near_lt, decide_eq_false_iff_not] at *
    intro h
    have b1 := farC_neg t x.1 y.1
    have b2 := farC_neg t y.1 z.1
    rcases Int.lt_trichotomy (farC t x.1 y.1) 0 with h3 | h3 | h3
    · exact h1 h3
    · have e := (farC_zero t x.1 y.1 (by rw [ht, x.2]) (by rw [ht, y.2])).1 h3
      rw [e] at h; exact h2 h
    · have h4 : farC t y.1 x.1 < 0 := by omega
      exact h2 (farC_trans t _ _ _ h4 h)
theorem near_total (t : List UInt8) (ht : t.length = 20) (x y : Id20) (h1 : ltOf (nearC t) x y = false) (h2 : ltOf (nearC t) y x = false) : x = y := by
  rw [near_lt, decide_eq_false_iff_not] at *
  have b1 := farC_neg t x.1 y.1
  exact Subtype.ext ((farC_zero t x.1 y.1 (by rw [ht, x.2]) (by rw [ht, y.2])).1 (by omega))
/-- Ids sorted by their distance. -/
def nearS (t : List UInt8) (l : List Id20) : List Id20 := l.mergeSort fun x y => !ltOf (nearC t) y x
/-- Neighbours that are alike are one. -/
def oneEach : List Id20 → List Id20
  | [] => []
  | [x] => [x]
  | x :: y :: l => if x = y then oneEach (y :: l) else x :: oneEach (y :: l)
end Go.Proofs.Ytgdiajhegmdfgaa
