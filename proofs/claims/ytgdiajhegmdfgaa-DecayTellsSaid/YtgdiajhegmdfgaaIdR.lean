/-
  Bits of ids, in plain Lean. Conditions: none.
-/
import Derived.Test.YtgdiajhegmdfgaaIdP
namespace Go.Proofs.Ytgdiajhegmdfgaa

theorem bits_ext (a b : List UInt8) (h : a.length = b.length) (hb : ∀ n, n < 8 * a.length → bitB a n = bitB b n) : a = b := by
  apply List.ext_getElem h
  intro i h1 h2
  apply UInt8.toNat_inj.1
  apply Nat.eq_of_testBit_eq
  intro m
  by_cases hm : m < 8
  · have := hb (8 * i + (7 - m)) (by omega)
    unfold bitB at this
    rw [show (8 * i + (7 - m)) / 8 = i by omega, show 7 - (8 * i + (7 - m)) % 8 = m by omega, List.getElem?_eq_getElem h1, List.getElem?_eq_getElem h2] at this
    exact this
  · have h8 : 2 ^ 8 ≤ 2 ^ m := Nat.pow_le_pow_right (by omega) (by omega)
    rw [Nat.testBit_lt_two_pow (Nat.lt_of_lt_of_le a[i].toNat_lt h8), Nat.testBit_lt_two_pow (Nat.lt_of_lt_of_le b[i].toNat_lt h8)]

/-- An id with a bit set so. -/
def withB (l : List UInt8) (i : Nat) (v : Bool) : List UInt8 :=
  if bitB l i = v then l else l.set (i / 8) (UInt8.ofNat (((l[i / 8]?).getD 0).toNat ^^^ 2 ^ (7 - i % 8)))
theorem withB_length (l : List UInt8) (i : Nat) (v : Bool) : (withB l i v).length = l.length := by
  unfold withB
  split
  · rfl
  · rw [List.length_set]
theorem flip_lt : ∀ (x : Fin 256) (m : Fin 8), x.val ^^^ 2 ^ m.val < 256 := by decide +kernel
theorem flip_bit (x m j : Nat) : (x ^^^ 2 ^ m).testBit j = (if j = m then !(x.testBit j) else x.testBit j) := by
  rw [Nat.testBit_xor, Nat.testBit_two_pow]
  by_cases h : j = m
  · subst h
    rw [if_pos rfl]
    simp
  · rw [if_neg h]
    simp [Ne.symm h]
theorem withB_bit (l : List UInt8) (i : Nat) (v : Bool) (hi : i < 8 * l.length) (j : Nat) : bitB (withB l i v) j = if j = i then v else bitB l j := by
  unfold withB
  by_cases h : bitB l i = v
  · rw [if_pos h]
    by_cases hj : j = i
    · rw [if_pos hj, hj, h]
    · rw [if_neg hj]
  · rw [if_neg h]
    have hlt : i / 8 < l.length := by omega
    have hx := (l[i / 8]'hlt).toNat_lt
    have hf := flip_lt ⟨(l[i / 8]'hlt).toNat, hx⟩ ⟨7 - i % 8, by omega⟩
    simp only at hf
    have hv : v = !(bitB l i) := by revert h; cases v <;> cases bitB l i <;> simp
    unfold bitB at *
    rw [List.getElem?_set]
    by_cases hj8 : i / 8 = j / 8
    · rw [if_pos hj8, ← hj8, if_pos hlt, List.getElem?_eq_getElem hlt]
      simp only [Option.getD_some, UInt8.toNat_ofNat']
      rw [Nat.mod_eq_of_lt hf, flip_bit]
      by_cases hj : j = i
      · subst hj
        rw [if_pos rfl, if_pos rfl, hv, List.getElem?_eq_getElem hlt]; rfl
      · rw [if_neg (by omega), if_neg hj]
    · rw [if_neg hj8]
      by_cases hj : j = i
      · subst hj; exact absurd rfl hj8
      · rw [if_neg hj]

/-- The distance, its first k bits done. -/
def xorTo (a b : List UInt8) : Nat → List UInt8
  | 0 => List.replicate a.length 0
  | k + 1 => if bitB a k = bitB b k then xorTo a b k else withB (xorTo a b k) k true
theorem xorTo_length (a b : List UInt8) : ∀ k, (xorTo a b k).length = a.length
  | 0 => by simp [xorTo]
  | k + 1 => by
    unfold xorTo
    split
    · exact xorTo_length a b k
    · rw [withB_length, xorTo_length a b k]
theorem zeros_bit (n j : Nat) : bitB (List.replicate n 0) j = false := by
  unfold bitB
  rw [List.getElem?_replicate]
  split <;> simp
theorem xorTo_bit (a b : List UInt8) : ∀ k, k ≤ 8 * a.length → ∀ j, bitB (xorTo a b k) j = if j < k then (bitB a j != bitB b j) else false
  | 0, _, j => by rw [if_neg (by omega)]; exact zeros_bit _ j
  | k + 1, hk, j => by
    have ih := xorTo_bit a b k (by omega) j
    unfold xorTo
    by_cases h : bitB a k = bitB b k
    · rw [if_pos h, ih]
      by_cases hj : j < k
      · rw [if_pos hj, if_pos (by omega)]
      · rw [if_neg hj]
        by_cases hjk : j = k
        · subst hjk; rw [if_pos (by omega), h]; simp
        · rw [if_neg (by omega)]
    · rw [if_neg h, withB_bit _ _ _ (by rw [xorTo_length]; omega)]
      by_cases hjk : j = k
      · subst hjk
        rw [if_pos rfl, if_pos (by omega)]
        revert h
        cases bitB a j <;> cases bitB b j <;> simp
      · rw [if_neg hjk, ih]
        by_cases hj : j < k
        · rw [if_pos hj, if_pos (by omega)]
        · rw [if_neg hj, if_neg (by omega)]
theorem xorTo_all (a b : List UInt8) (h : a.length = b.length) : xorTo a b (8 * a.length) = xorB a b := by
  apply bits_ext
  · rw [xorTo_length, xorB_length a b h]
  · intro n hn
    rw [xorTo_length] at hn
    rw [xorTo_bit a b _ (Nat.le_refl _), if_pos hn, bitB_xor a b h]

/-- The first bit that differs. -/
theorem pref_first (a b : List UInt8) (h : a.length = b.length) (n : Nat) (hn : n ≤ 8 * a.length) (hlow : ∀ j, j < n → bitB a j = bitB b j) (hat : n = 8 * a.length ∨ bitB a n ≠ bitB b n) : prefB (xorB a b) = n := by
  have hl := xorB_length a b h
  have hle := prefB_le (xorB a b)
  rw [hl] at hle
  rcases Nat.lt_trichotomy (prefB (xorB a b)) n with hlt | heq | hgt
  · have h1 := prefB_at (xorB a b) (by omega)
    rw [bitB_xor a b h, hlow _ hlt] at h1
    simp at h1
  · exact heq
  · have h1 := prefB_low (xorB a b) n hgt
    rw [bitB_xor a b h] at h1
    rcases hat with hat | hat
    · omega
    · revert h1 hat
      cases bitB a n <;> cases bitB b n <;> simp

theorem lt_of_bits {x y i : Nat} (hx : x.testBit i = false) (hy : y.testBit i = true) (h : ∀ j, i < j → x.testBit j = y.testBit j) : x < y := by
  have h1 : x / 2 ^ i / 2 = y / 2 ^ i / 2 := by
    apply Nat.eq_of_testBit_eq
    intro j
    rw [Nat.div_div_eq_div_mul, Nat.div_div_eq_div_mul, ← Nat.pow_succ, Nat.testBit_div_two_pow, Nat.testBit_div_two_pow]
    exact h _ (by omega)
  rw [Nat.testBit_eq_decide_div_mod_eq] at hx hy
  have hx' := of_decide_eq_false hx
  have hy' := of_decide_eq_true hy
  have hlt : x / 2 ^ i < y / 2 ^ i := by omega
  rcases Nat.lt_or_ge x y with h2 | h2
  · exact h2
  · have := Nat.div_le_div_right (c := 2 ^ i) h2
    omega
theorem byte_order (x y : UInt8) (hne : x ≠ y) : x.toNat < y.toNat ↔ x.toNat.testBit (7 - lz8 (x ^^^ y)) = false := by
  have hn0 : x ^^^ y ≠ 0 := fun e => hne ((u8_xor_zero x y).1 e)
  obtain ⟨h8, hat⟩ := lz8_lt (x ^^^ y) hn0
  have agree : ∀ j, 7 - lz8 (x ^^^ y) < j → x.toNat.testBit j = y.toNat.testBit j := fun j hj => by
    by_cases hj8 : j < 8
    · have h1 : (x ^^^ y).toNat.testBit (7 - (7 - j)) = false := lz8_low ⟨(x ^^^ y).toNat, (x ^^^ y).toNat_lt⟩ ⟨7 - j, by omega⟩ (by show 7 - j < lz8 (x ^^^ y); omega)
      rw [show 7 - (7 - j) = j by omega, UInt8.toNat_xor, Nat.testBit_xor] at h1
      revert h1
      cases x.toNat.testBit j <;> cases y.toNat.testBit j <;> simp
    · have hp : 2 ^ 8 ≤ 2 ^ j := Nat.pow_le_pow_right (by omega) (by omega)
      rw [Nat.testBit_lt_two_pow (Nat.lt_of_lt_of_le x.toNat_lt hp), Nat.testBit_lt_two_pow (Nat.lt_of_lt_of_le y.toNat_lt hp)]
  rw [UInt8.toNat_xor, Nat.testBit_xor] at hat
  cases hx : x.toNat.testBit (7 - lz8 (x ^^^ y)) with
  | false =>
    rw [hx] at hat
    exact ⟨fun _ => rfl, fun _ => lt_of_bits hx (by simpa using hat) agree⟩
  | true =>
    rw [hx] at hat
    have hy : y.toNat.testBit (7 - lz8 (x ^^^ y)) = false := by revert hat; cases y.toNat.testBit (7 - lz8 (x ^^^ y)) <;> simp
    have := lt_of_bits hy hx (fun j hj => (agree j hj).symm)
    exact ⟨fun h => by omega, fun h => by cases h⟩

def bitN (l : List UInt8) (n : Nat) : Int := if bitB l n then 1 else 0
theorem bitN_cons (x : UInt8) (l : List UInt8) (n : Nat) : bitN (x :: l) (8 + n) = bitN l n := by unfold bitN; rw [bitB_cons]
/-- The order, by the first bit that differs. -/
theorem cmp_bits : ∀ (a b : List UInt8), a.length = b.length → Lib.compareBytes a b = if prefB (xorB a b) = 8 * a.length then 0 else bitN a (prefB (xorB a b)) - bitN b (prefB (xorB a b))
  | [], [], _ => by simp [Lib.compareBytes, xorB, prefB]
  | [], _ :: _, h => by simp at h
  | _ :: _, [], h => by simp at h
  | x :: a, y :: b, h => by
    have hl : a.length = b.length := by simpa using h
    have ih := cmp_bits a b hl
    have hle := prefB_le (xorB a b)
    rw [xorB_length a b hl] at hle
    have hxb : xorB (x :: a) (y :: b) = (x ^^^ y) :: xorB a b := rfl
    by_cases hxy : x = y
    · subst hxy
      have hp : prefB (xorB (x :: a) (x :: b)) = 8 + prefB (xorB a b) := by
        rw [hxb, UInt8.xor_self]
        show (if (0 : UInt8) = 0 then 8 + prefB (xorB a b) else lz8 0) = _
        rw [if_pos rfl]
      rw [hp, bitN_cons, bitN_cons]
      unfold Lib.compareBytes
      rw [if_neg (UInt8.lt_irrefl x), if_neg (UInt8.lt_irrefl x), ih, List.length_cons]
      by_cases h0 : prefB (xorB a b) = 8 * a.length
      · rw [if_pos h0, if_pos (by omega)]
      · rw [if_neg h0, if_neg (by omega)]
    · have hne : x ^^^ y ≠ 0 := fun e => hxy ((u8_xor_zero x y).1 e)
      have h8 := lz8_lt (x ^^^ y) hne
      have hp : prefB (xorB (x :: a) (y :: b)) = lz8 (x ^^^ y) := by
        rw [hxb]
        show (if x ^^^ y = 0 then _ else lz8 (x ^^^ y)) = _
        rw [if_neg hne]
      have ho := byte_order x y hxy
      have hd : x.toNat.testBit (7 - lz8 (x ^^^ y)) ≠ y.toNat.testBit (7 - lz8 (x ^^^ y)) := by
        have h1 := h8.2
        rw [UInt8.toNat_xor, Nat.testBit_xor] at h1
        revert h1
        cases x.toNat.testBit (7 - lz8 (x ^^^ y)) <;> cases y.toNat.testBit (7 - lz8 (x ^^^ y)) <;> simp
      rw [hp, if_neg (by rw [List.length_cons]; omega)]
      unfold bitN
      rw [bitB_head x a _ h8.1, bitB_head y b _ h8.1]
      unfold Lib.compareBytes
      have hlt : x < y ↔ x.toNat < y.toNat := UInt8.lt_iff_toNat_lt
      by_cases hxl : x < y
      · have hbx := ho.1 (hlt.1 hxl)
        rw [if_pos hxl, hbx]
        rw [hbx] at hd
        have hby : y.toNat.testBit (7 - lz8 (x ^^^ y)) = true := by revert hd; cases y.toNat.testBit (7 - lz8 (x ^^^ y)) <;> simp
        rw [hby]; simp
      · have hbx : x.toNat.testBit (7 - lz8 (x ^^^ y)) = true := by
          cases hb : x.toNat.testBit (7 - lz8 (x ^^^ y)) with
          | true => rfl
          | false => exact absurd (hlt.2 (ho.2 hb)) hxl
        have hyx : y < x := by
          rw [UInt8.lt_iff_toNat_lt]
          have h1 : ¬ x.toNat < y.toNat := fun e => hxl (hlt.2 e)
          have h2 : x.toNat ≠ y.toNat := fun e => hxy (UInt8.toNat_inj.1 e)
          omega
        rw [hbx] at hd
        have hby : y.toNat.testBit (7 - lz8 (x ^^^ y)) = false := by revert hd; cases y.toNat.testBit (7 - lz8 (x ^^^ y)) <;> simp
        rw [if_neg hxl, if_pos hyx, hbx, hby]; simp

/-- The last k bits cleared. -/
def clrB (l : List UInt8) : Nat → List UInt8
  | 0 => l
  | k + 1 => withB (clrB l k) (159 - k) false
theorem clrB_length (l : List UInt8) : ∀ k, (clrB l k).length = l.length
  | 0 => rfl
  | k + 1 => by rw [clrB, withB_length, clrB_length l k]
theorem clrB_bit (l : List UInt8) (hl : l.length = 20) : ∀ k, k ≤ 160 → ∀ j, j < 160 → bitB (clrB l k) j = if 160 - k ≤ j then false else bitB l j
  | 0, _, j, hj => by rw [if_neg (by omega)]; rfl
  | k + 1, hk, j, hj => by
    rw [clrB, withB_bit _ _ _ (by rw [clrB_length, hl]; omega), clrB_bit l hl k (by omega) j hj]
    by_cases h : j = 159 - k
    · rw [if_pos h, if_pos (by omega)]
    · rw [if_neg h]
      by_cases h2 : 160 - k ≤ j
      · rw [if_pos h2, if_pos (by omega)]
      · rw [if_neg h2, if_neg (by omega)]
/-- The next one, k bits being ones from behind. -/
def nextB (l : List UInt8) (k : Nat) : List UInt8 := withB (clrB l k) (159 - k) true
theorem nextB_length (l : List UInt8) (k : Nat) : (nextB l k).length = l.length := by rw [nextB, withB_length, clrB_length]
theorem nextB_bit (l : List UInt8) (hl : l.length = 20) (k : Nat) (hk : k < 160) (j : Nat) (hj : j < 160) : bitB (nextB l k) j = if j = 159 - k then true else if 160 - k ≤ j then false else bitB l j := by
  rw [nextB, withB_bit _ _ _ (by rw [clrB_length, hl]; omega), clrB_bit l hl k (by omega) j hj]

theorem succ_bits : ∀ (x : Fin 256) (t : Fin 8), (∀ m : Fin 8, m.val < t.val → x.val.testBit m.val = true) → x.val.testBit t.val = false →
    x.val + 1 < 256 ∧ ∀ m : Fin 8, (x.val + 1).testBit m.val = if m.val = t.val then true else if m.val < t.val then false else x.val.testBit m.val := by decide +kernel
theorem all_ones : ∀ x : Fin 256, (∀ m : Fin 8, x.val.testBit m.val = true) → x.val = 255 := by decide +kernel

/-- The bytes with i zeros behind. -/
def tailB (l : List UInt8) (i : Nat) : List UInt8 := l.take (20 - i) ++ List.replicate i 0
theorem tailB_length (l : List UInt8) (hl : l.length = 20) (i : Nat) (hi : i ≤ 20) : (tailB l i).length = 20 := by simp [tailB, hl]; omega
theorem tailB_get (l : List UInt8) (hl : l.length = 20) (i : Nat) (hi : i ≤ 20) (j : Nat) (hj : j < 20) : (tailB l i)[j]? = if j < 20 - i then l[j]? else some 0 := by
  unfold tailB
  by_cases h : j < 20 - i
  · rw [if_pos h, List.getElem?_append_left (by simp [hl]; omega), List.getElem?_take, if_pos h]
  · rw [if_neg h, List.getElem?_append_right (by simp [hl]; omega), List.getElem?_replicate, if_pos (by simp [hl]; omega)]
theorem tailB_succ (l : List UInt8) (hl : l.length = 20) (i : Nat) (hi : i < 20) : (tailB l i).set (19 - i) 0 = tailB l (i + 1) := by
  apply List.ext_getElem?
  intro j
  rw [List.getElem?_set]
  by_cases hj : j < 20
  · rw [tailB_get l hl (i + 1) (by omega) j hj, tailB_get l hl i (by omega) j hj, tailB_length l hl i (by omega)]
    by_cases h : 19 - i = j
    · rw [if_pos h, if_pos (by omega), if_neg (by omega)]
    · rw [if_neg h]
      by_cases h2 : j < 20 - i
      · rw [if_pos h2, if_pos (by omega)]
      · rw [if_neg h2, if_neg (by omega)]
  · rw [if_neg (by omega), List.getElem?_eq_none (by rw [tailB_length l hl i (by omega)]; omega), List.getElem?_eq_none (by rw [tailB_length l hl (i + 1) (by omega)]; omega)]
theorem byte_ones (l : List UInt8) (hl : l.length = 20) (j : Nat) (hj : j < 20) (h : ∀ m, m < 8 → bitB l (8 * j + m) = true) : l[j]? = some 255 := by
  have hlt : j < l.length := by omega
  rw [List.getElem?_eq_getElem hlt]
  congr 1
  apply UInt8.toNat_inj.1
  refine all_ones ⟨(l[j]).toNat, (l[j]).toNat_lt⟩ fun m => ?_
  have := h (7 - m.val) (by omega)
  unfold bitB at this
  rwa [show (8 * j + (7 - m.val)) / 8 = j by omega, show 7 - (8 * j + (7 - m.val)) % 8 = m.val by omega, List.getElem?_eq_getElem hlt] at this
/-- The byte that is raised. -/
theorem next_set (l : List UInt8) (hl : l.length = 20) (k : Nat) (hk : k < 160) (h1 : ∀ j, j < k → bitB l (159 - j) = true) (h0 : bitB l (159 - k) = false) (x : UInt8) (hx : l[19 - k / 8]? = some x) :
    x.toNat + 1 < 256 ∧ (tailB l (k / 8)).set (19 - k / 8) (UInt8.ofNat (x.toNat + 1)) = nextB l k := by
  have hb : ∀ m, m < 8 → bitB l (8 * (19 - k / 8) + (7 - m)) = x.toNat.testBit m := fun m hm => by
    unfold bitB
    rw [show (8 * (19 - k / 8) + (7 - m)) / 8 = 19 - k / 8 by omega, show 7 - (8 * (19 - k / 8) + (7 - m)) % 8 = m by omega, hx]
    rfl
  obtain ⟨hlt, hs⟩ := succ_bits ⟨x.toNat, x.toNat_lt⟩ ⟨k % 8, by omega⟩ (fun m hm => by
    have h2 := hb m.val m.2
    have h3 := h1 (8 * (k / 8) + m.val) (by simp only at hm; omega)
    rw [show 8 * (19 - k / 8) + (7 - m.val) = 159 - (8 * (k / 8) + m.val) by omega, h3] at h2
    exact h2.symm) (by
    have h2 := hb (k % 8) (by omega)
    rw [show 8 * (19 - k / 8) + (7 - k % 8) = 159 - k by omega, h0] at h2
    exact h2.symm)
  simp only at hlt hs
  refine ⟨hlt, ?_⟩
  have hk8 : k / 8 < 20 := by omega
  apply bits_ext
  · rw [List.length_set, tailB_length l hl _ (by omega), nextB_length, hl]
  · intro n hn
    rw [List.length_set, tailB_length l hl _ (by omega)] at hn
    rw [nextB_bit l hl k hk n (by omega)]
    unfold bitB
    rw [List.getElem?_set]
    by_cases hnb : 19 - k / 8 = n / 8
    · rw [if_pos hnb, tailB_length l hl _ (by omega), if_pos (by omega)]
      simp only [Option.getD_some, UInt8.toNat_ofNat']
      rw [Nat.mod_eq_of_lt hlt]
      have h2 := hs ⟨7 - n % 8, by omega⟩
      simp only at h2
      rw [h2]
      by_cases ha : n = 159 - k
      · rw [if_pos (by omega), if_pos ha]
      · rw [if_neg (by omega), if_neg ha]
        by_cases hc : 160 - k ≤ n
        · rw [if_pos (by omega), if_pos hc]
        · rw [if_neg (by omega), if_neg hc, ← hnb, hx]; rfl
    · rw [if_neg hnb, tailB_get l hl _ (by omega) _ (by omega), if_neg (show ¬ n = 159 - k by omega)]
      by_cases hc : n / 8 < 20 - k / 8
      · rw [if_pos hc, if_neg (show ¬ 160 - k ≤ n by omega)]
      · rw [if_neg hc, if_pos (show 160 - k ≤ n by omega)]
        simp
/-- Either all bits are ones, or so many are, from behind. -/
theorem next_cases (l : List UInt8) : (∀ j, j < 160 → bitB l (159 - j) = true) ∨ ∃ k, k < 160 ∧ (∀ j, j < k → bitB l (159 - j) = true) ∧ bitB l (159 - k) = false := by
  have key : ∀ n, n ≤ 160 → (∀ j, j < n → bitB l (159 - j) = true) ∨ ∃ k, k < n ∧ (∀ j, j < k → bitB l (159 - j) = true) ∧ bitB l (159 - k) = false := by
    intro n
    induction n with
    | zero => intro _; exact .inl fun j hj => by omega
    | succ n ih =>
      intro hn
      rcases ih (by omega) with h | ⟨k, hk, h⟩
      · cases hb : bitB l (159 - n) with
        | true =>
          refine .inl fun j hj => ?_
          by_cases hjn : j = n
          · rw [hjn]; exact hb
          · exact h j (by omega)
        | false => exact .inr ⟨n, by omega, h, hb⟩
      · exact .inr ⟨k, by omega, h⟩
  exact key 160 (Nat.le_refl _)
end Go.Proofs.Ytgdiajhegmdfgaa
