/-
  The words of a block as one sequence; sums of two texts, reckoned. Conditions: none.
-/
import Derived.Test.YtgdiajhegmdfgaaShaI
namespace Go.Proofs.Ytgdiajhegmdfgaa

/-- All words of a block. -/
def Wf (l : List UInt8) (n : Nat) : Nat :=
  if n < 16 then ldw l n else rotl 1 (Wf l (n - 3) ^^^ Wf l (n - 8) ^^^ Wf l (n - 14) ^^^ Wf l (n - 16))
termination_by n

theorem Wf_lo (l : List UInt8) (n : Nat) (h : n < 16) : Wf l n = ldw l n := by rw [Wf, if_pos h]
theorem Wf_hi (l : List UInt8) (n : Nat) (h : ¬ n < 16) : Wf l n = rotl 1 (Wf l (n - 3) ^^^ Wf l (n - 8) ^^^ Wf l (n - 14) ^^^ Wf l (n - 16)) := by rw [Wf, if_neg h]

theorem window (h : Nat → Nat) (l : List UInt8) : ∀ k m, (k ≤ 16 → m < 16) → (16 < k → k - 16 ≤ m ∧ m < k) → (eatV h l k).2 (m % 16) = Wf l m
  | 0, m, h1, _ => by
    have := h1 (by omega)
    rw [Wf_lo l m this, Nat.mod_eq_of_lt this]
    rfl
  | k + 1, m, h1, h2 => by
    show wsn (eatV h l k).2 k (m % 16) = _
    unfold wsn
    by_cases hk : k < 16
    · rw [if_pos hk]
      exact window h l k m (fun _ => h1 (by omega)) (fun _ => by omega)
    · rw [if_neg hk]
      unfold upd
      have hm : k + 1 - 16 ≤ m ∧ m < k + 1 := by
        by_cases h16 : k + 1 ≤ 16
        · omega
        · exact h2 (by omega)
      by_cases he : m = k
      · subst he
        rw [if_pos rfl, Wf_hi l m hk]
        unfold wnext
        rw [show (m + 13) % 16 = (m - 3) % 16 by omega, show (m + 8) % 16 = (m - 8) % 16 by omega, show (m + 2) % 16 = (m - 14) % 16 by omega, show m % 16 = (m - 16) % 16 by omega,
          window h l m (m - 3) (by omega) (by omega), window h l m (m - 8) (by omega) (by omega), window h l m (m - 14) (by omega) (by omega), window h l m (m - 16) (by omega) (by omega)]
      · rw [if_neg (by omega)]
        exact window h l k m (by omega) (by omega)

theorem xw_eq (h : Nat → Nat) (l : List UInt8) (k : Nat) : xw (eatV h l k).2 k = Wf l k := by
  unfold xw
  by_cases hk : k < 16
  · rw [if_pos hk]
    have := window h l k k (fun _ => hk) (by omega)
    rwa [Nat.mod_eq_of_lt hk] at this
  · rw [if_neg hk, Wf_hi l k hk]
    unfold wnext
    rw [show (k + 13) % 16 = (k - 3) % 16 by omega, show (k + 8) % 16 = (k - 8) % 16 by omega, show (k + 2) % 16 = (k - 14) % 16 by omega, show k % 16 = (k - 16) % 16 by omega,
      window h l k (k - 3) (by omega) (by omega), window h l k (k - 8) (by omega) (by omega), window h l k (k - 14) (by omega) (by omega), window h l k (k - 16) (by omega) (by omega)]

/-- The sum of a round, its word told. -/
def rs (a b c d e x i : Nat) : Nat := ((((rotl 5 a + mixF i b c d) % 4294967296 + e) % 4294967296 + x) % 4294967296 + mixK i) % 4294967296
theorem rsum_rs (v ws : Nat → Nat) (i : Nat) : rsum v ws i = rs (v 0) (v 1) (v 2) (v 3) (v 4) (xw ws i) i := by unfold rsum rs; rfl
theorem vnext_0 (v ws : Nat → Nat) (i : Nat) : vnext v ws i 0 = rsum v ws i := if_pos rfl
theorem vnext_1 (v ws : Nat → Nat) (i : Nat) : vnext v ws i 1 = v 0 := (if_neg (by decide)).trans (if_pos rfl)
theorem vnext_2 (v ws : Nat → Nat) (i : Nat) : vnext v ws i 2 = rotl 30 (v 1) := (if_neg (by decide)).trans ((if_neg (by decide)).trans (if_pos rfl))
theorem vnext_3 (v ws : Nat → Nat) (i : Nat) : vnext v ws i 3 = v 2 := (if_neg (by decide)).trans ((if_neg (by decide)).trans ((if_neg (by decide)).trans (if_pos rfl)))
theorem vnext_4 (v ws : Nat → Nat) (i : Nat) : vnext v ws i 4 = v 3 := (if_neg (by decide)).trans ((if_neg (by decide)).trans ((if_neg (by decide)).trans (if_neg (by decide))))
theorem eatV_step (h : Nat → Nat) (l : List UInt8) (k : Nat) : (eatV h l (k + 1)).1 = vnext (eatV h l k).1 (eatV h l k).2 k := by rw [eatV]
theorem eatV_succ (h : Nat → Nat) (l : List UInt8) (k : Nat) :
    (eatV h l (k + 1)).1 0 = rs ((eatV h l k).1 0) ((eatV h l k).1 1) ((eatV h l k).1 2) ((eatV h l k).1 3) ((eatV h l k).1 4) (Wf l k) k ∧ (eatV h l (k + 1)).1 1 = (eatV h l k).1 0 ∧
    (eatV h l (k + 1)).1 2 = rotl 30 ((eatV h l k).1 1) ∧ (eatV h l (k + 1)).1 3 = (eatV h l k).1 2 ∧ (eatV h l (k + 1)).1 4 = (eatV h l k).1 3 := by
  rw [eatV_step, ← xw_eq h l k]
  generalize (eatV h l k).1 = v
  generalize (eatV h l k).2 = ws
  exact ⟨(vnext_0 v ws k).trans (rsum_rs v ws k), vnext_1 v ws k, vnext_2 v ws k, vnext_3 v ws k, vnext_4 v ws k⟩

/-- A number, reckoned before it is used. -/
def force {α : Type} (n : Nat) (k : Nat → α) : α := Nat.rec (k 0) (fun m _ => k (m + 1)) n
theorem force_eq {α : Type} (n : Nat) (k : Nat → α) : force n k = k n := by cases n <;> rfl

def evalR : Nat → Nat → Nat → Nat → Nat → Nat → Nat → Nat → Nat → Nat → Nat → Nat → Nat → Nat → Nat → Nat → Nat → Nat → Nat → Nat → Nat → Nat → Nat → List Nat
  | 0, _, a, b, c, d, e, _, _, _, _, _, _, _, _, _, _, _, _, _, _, _, _ => [a, b, c, d, e]
  | n + 1, i, a, b, c, d, e, w0, w1, w2, w3, w4, w5, w6, w7, w8, w9, w10, w11, w12, w13, w14, w15 =>
    force (rotl 1 (w13 ^^^ w8 ^^^ w2 ^^^ w0)) fun x => force (rs a b c d e w0 i) fun t => force (rotl 30 b) fun b' => force (i + 1) fun i' =>
      evalR n i' t a b' c d w1 w2 w3 w4 w5 w6 w7 w8 w9 w10 w11 w12 w13 w14 w15 x

theorem evalR_eq (h : Nat → Nat) (l : List UInt8) : ∀ n i, evalR n i ((eatV h l i).1 0) ((eatV h l i).1 1) ((eatV h l i).1 2) ((eatV h l i).1 3) ((eatV h l i).1 4)
    (Wf l i) (Wf l (i + 1)) (Wf l (i + 2)) (Wf l (i + 3)) (Wf l (i + 4)) (Wf l (i + 5)) (Wf l (i + 6)) (Wf l (i + 7)) (Wf l (i + 8)) (Wf l (i + 9)) (Wf l (i + 10)) (Wf l (i + 11)) (Wf l (i + 12)) (Wf l (i + 13)) (Wf l (i + 14)) (Wf l (i + 15)) =
    [(eatV h l (i + n)).1 0, (eatV h l (i + n)).1 1, (eatV h l (i + n)).1 2, (eatV h l (i + n)).1 3, (eatV h l (i + n)).1 4]
  | 0, i => by simp only [evalR, Nat.add_zero]
  | n + 1, i => by
    obtain ⟨h0, h1, h2, h3, h4⟩ := eatV_succ h l i
    have hw : rotl 1 (Wf l (i + 13) ^^^ Wf l (i + 8) ^^^ Wf l (i + 2) ^^^ Wf l i) = Wf l (i + 16) := by
      rw [Wf_hi l (i + 16) (by omega), show i + 16 - 3 = i + 13 by omega, show i + 16 - 8 = i + 8 by omega, show i + 16 - 14 = i + 2 by omega, show i + 16 - 16 = i by omega]
    have ih := evalR_eq h l n (i + 1)
    rw [show i + 1 + n = i + (n + 1) by omega] at ih
    rw [← ih]
    simp only [evalR, force_eq]
    rw [hw, h0, h1, h2, h3, h4]

/-- A block, reckoned. -/
def evalB (h0 h1 h2 h3 h4 : Nat) (l : List UInt8) : List Nat :=
  force (ldw l 0) fun w0 => force (ldw l 1) fun w1 => force (ldw l 2) fun w2 => force (ldw l 3) fun w3 => force (ldw l 4) fun w4 => force (ldw l 5) fun w5 => force (ldw l 6) fun w6 => force (ldw l 7) fun w7 =>
  force (ldw l 8) fun w8 => force (ldw l 9) fun w9 => force (ldw l 10) fun w10 => force (ldw l 11) fun w11 => force (ldw l 12) fun w12 => force (ldw l 13) fun w13 => force (ldw l 14) fun w14 => force (ldw l 15) fun w15 =>
  List.zipWith (fun a b => (a + b) % 4294967296) [h0, h1, h2, h3, h4] (evalR 80 0 h0 h1 h2 h3 h4 w0 w1 w2 w3 w4 w5 w6 w7 w8 w9 w10 w11 w12 w13 w14 w15)

theorem evalB_eq (h : Nat → Nat) (l : List UInt8) : evalB (h 0) (h 1) (h 2) (h 3) (h 4) l = [eatH h l 0, eatH h l 1, eatH h l 2, eatH h l 3, eatH h l 4] := by
  have e := evalR_eq h l 80 0
  simp only [Nat.zero_add] at e
  unfold evalB
  simp only [force_eq]
  have w : ∀ n, n < 16 → ldw l n = Wf l n := fun n hn => (Wf_lo l n hn).symm
  rw [w 0 (by omega), w 1 (by omega), w 2 (by omega), w 3 (by omega), w 4 (by omega), w 5 (by omega), w 6 (by omega), w 7 (by omega), w 8 (by omega), w 9 (by omega), w 10 (by omega), w 11 (by omega), w 12 (by omega), w 13 (by omega), w 14 (by omega), w 15 (by omega)]
  have e2 : evalR 80 0 (h 0) (h 1) (h 2) (h 3) (h 4) (Wf l 0) (Wf l 1) (Wf l 2) (Wf l 3) (Wf l 4) (Wf l 5) (Wf l 6) (Wf l 7) (Wf l 8) (Wf l 9) (Wf l 10) (Wf l 11) (Wf l 12) (Wf l 13) (Wf l 14) (Wf l 15) = _ := e
  rw [e2]
  have ev : ∀ j, eatH h l j = (h j + (eatV h l 80).1 j) % 4294967296 := fun j => by unfold eatH; rfl
  rw [ev 0, ev 1, ev 2, ev 3, ev 4]
  generalize (eatV h l 80).1 = v
  rfl

theorem outB5 (x : Nat → Nat) : outB x 5 = putB (x 0) 4 ++ putB (x 1) 4 ++ putB (x 2) 4 ++ putB (x 3) 4 ++ putB (x 4) 4 := by
  simp only [outB, List.nil_append]
theorem outB_list (x : Nat → Nat) (r : List Nat) (h : r = [x 0, x 1, x 2, x 3, x 4]) : outB x 5 = putB (r.getD 0 0) 4 ++ putB (r.getD 1 0) 4 ++ putB (r.getD 2 0) 4 ++ putB (r.getD 3 0) 4 ++ putB (r.getD 4 0) 4 := by
  rw [outB5, h]
  rfl
theorem blocks_one (h : Nat → Nat) (L : List UInt8) (hL : L.length = 64) : blocks h L (L.length / 64) = eatH h L := by
  rw [hL]
  have e : blocks h L (64 / 64) = eatH h ((L.drop (64 * 0)).take 64) := rfl
  rw [e, Nat.mul_zero, List.drop_zero, List.take_of_length_le (by omega)]
theorem begin0_all : begin0 0 = 1732584193 ∧ begin0 1 = 4023233417 ∧ begin0 2 = 2562383102 ∧ begin0 3 = 271733878 ∧ begin0 4 = 3285377520 := by decide

/-- The sum of a text of one block, reckoned. -/
theorem sha_one (l : List UInt8) (hl : (l ++ padB l.length).length = 64) (r : List Nat) (hr : evalB 1732584193 4023233417 2562383102 271733878 3285377520 (l ++ padB l.length) = r) :
    shaB l = putB (r.getD 0 0) 4 ++ putB (r.getD 1 0) 4 ++ putB (r.getD 2 0) 4 ++ putB (r.getD 3 0) 4 ++ putB (r.getD 4 0) 4 := by
  obtain ⟨b0, b1, b2, b3, b4⟩ := begin0_all
  have h1 := evalB_eq begin0 (l ++ padB l.length)
  rw [b0, b1, b2, b3, b4, hr] at h1
  unfold shaB
  rw [blocks_one _ _ hl]
  exact outB_list _ r h1
end Go.Proofs.Ytgdiajhegmdfgaa
