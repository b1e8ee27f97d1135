/-
  Ids as bytes: distance, prefix, order, in plain Lean. Conditions: none.
-/
import Derived.Lib.BitFns
import Derived.Lib.Bytealg
namespace Go.Proofs.Ytgdiajhegmdfgaa

/-- The distance of two ids. -/
def xorB (a b : List UInt8) : List UInt8 := List.zipWith (· ^^^ ·) a b
theorem xorB_length (a b : List UInt8) (h : a.length = b.length) : (xorB a b).length = a.length := by simp [xorB, h]
theorem u8_xor_zero (x y : UInt8) : x ^^^ y = 0 ↔ x = y := by
  constructor
  · intro h
    have h1 : x ^^^ y ^^^ y = 0 ^^^ y := by rw [h]
    rwa [UInt8.xor_assoc, UInt8.xor_self, UInt8.xor_zero, UInt8.zero_xor] at h1
  · rintro rfl
    exact UInt8.xor_self
theorem xorB_zero : ∀ (a b : List UInt8), a.length = b.length → (xorB a b = List.replicate a.length 0 ↔ a = b)
  | [], [], _ => by simp [xorB]
  | [], _ :: _, h => by simp at h
  | _ :: _, [], h => by simp at h
  | x :: a, y :: b, h => by
    have ih := xorB_zero a b (by simpa using h)
    show (x ^^^ y) :: xorB a b = List.replicate (a.length + 1) 0 ↔ _
    rw [List.replicate_succ, List.cons.injEq, List.cons.injEq, u8_xor_zero, ih]
theorem xorB_comm : ∀ (a b : List UInt8), xorB a b = xorB b a
  | [], [] => rfl
  | [], _ :: _ => rfl
  | _ :: _, [] => rfl
  | x :: a, y :: b => by
    show (x ^^^ y) :: xorB a b = (y ^^^ x) :: xorB b a
    rw [xorB_comm a b, UInt8.xor_comm]
theorem xorB_three : ∀ (a b c : List UInt8), a.length = b.length → b.length = c.length → xorB (xorB a b) (xorB b c) = xorB a c
  | [], [], [], _, _ => rfl
  | x :: a, y :: b, z :: c, h, k => by
    show ((x ^^^ y) ^^^ (y ^^^ z)) :: xorB (xorB a b) (xorB b c) = (x ^^^ z) :: xorB a c
    rw [xorB_three a b c (by simpa using h) (by simpa using k)]
    congr 1
    rw [UInt8.xor_assoc, ← UInt8.xor_assoc y, UInt8.xor_self, UInt8.zero_xor]
  | [], _ :: _, _, h, _ => by simp at h
  | _ :: _, [], _, h, _ => by simp at h
  | _, [], _ :: _, _, h => by simp at h
  | _, _ :: _, [], _, h => by simp at h

/-- The zeros that a byte begins with. -/
def lz8 (x : UInt8) : Nat := 8 - Lib.bitLen x.toNat
/-- The zeros that bytes begin with. -/
def prefB : List UInt8 → Nat
  | [] => 0
  | x :: l => if x = 0 then 8 + prefB l else lz8 x
/-- A bit. -/
def bitB (l : List UInt8) (n : Nat) : Bool := ((l[n / 8]?).getD 0).toNat.testBit (7 - n % 8)

theorem lz8_low : ∀ x : Fin 256, ∀ m : Fin 8, m.val < 8 - Lib.bitLen x.val → x.val.testBit (7 - m.val) = false := by decide +kernel
theorem lz8_at : ∀ x : Fin 256, x.val ≠ 0 → 8 - Lib.bitLen x.val < 8 ∧ x.val.testBit (7 - (8 - Lib.bitLen x.val)) = true := by decide +kernel

theorem bitB_cons (x : UInt8) (l : List UInt8) (n : Nat) : bitB (x :: l) (8 + n) = bitB l n := by
  unfold bitB
  rw [show (8 + n) / 8 = n / 8 + 1 by omega, show (8 + n) % 8 = n % 8 by omega, List.getElem?_cons_succ]
theorem bitB_head (x : UInt8) (l : List UInt8) (n : Nat) (h : n < 8) : bitB (x :: l) n = x.toNat.testBit (7 - n) := by
  unfold bitB
  rw [show n / 8 = 0 by omega, show n % 8 = n by omega]
  rfl
theorem lz8_lt (x : UInt8) (h : x ≠ 0) : lz8 x < 8 ∧ x.toNat.testBit (7 - lz8 x) = true :=
  lz8_at ⟨x.toNat, x.toNat_lt⟩ (fun e => h (UInt8.toNat_inj.1 e))
theorem prefB_le : ∀ l : List UInt8, prefB l ≤ 8 * l.length
  | [] => by simp [prefB]
  | x :: l => by
    have ih := prefB_le l
    unfold prefB
    rw [List.length_cons]
    split
    · omega
    · rename_i h
      have := (lz8_lt x h).1
      omega
theorem prefB_low : ∀ (l : List UInt8) (m : Nat), m < prefB l → bitB l m = false
  | [], m, h => by simp [prefB] at h
  | x :: l, m, h => by
    unfold prefB at h
    split at h
    · rename_i hx
      by_cases hm : m < 8
      · rw [bitB_head x l m hm, hx]
        simp
      · obtain ⟨n, rfl⟩ : ∃ n, m = 8 + n := ⟨m - 8, by omega⟩
        rw [bitB_cons]
        exact prefB_low l n (by omega)
    · rename_i hx
      have h8 := (lz8_lt x hx).1
      rw [bitB_head x l m (by omega)]
      exact lz8_low ⟨x.toNat, x.toNat_lt⟩ ⟨m, by omega⟩ h
theorem prefB_at : ∀ (l : List UInt8), prefB l < 8 * l.length → bitB l (prefB l) = true
  | [], h => by simp [prefB] at h
  | x :: l, h => by
    rw [List.length_cons] at h
    unfold prefB at h ⊢
    split at h
    · rename_i hx
      rw [if_pos hx, bitB_cons]
      exact prefB_at l (by omega)
    · rename_i hx
      have h8 := lz8_lt x hx
      rw [if_neg hx, bitB_head x l _ h8.1]
      exact h8.2
theorem bitB_xor (a b : List UInt8) (h : a.length = b.length) (n : Nat) : bitB (xorB a b) n = (bitB a n != bitB b n) := by
  unfold bitB xorB
  rw [List.getElem?_zipWith]
  by_cases hn : n / 8 < a.length
  · rw [List.getElem?_eq_getElem hn, List.getElem?_eq_getElem (h ▸ hn)]
    simp only [Option.getD_some, UInt8.toNat_xor, Nat.testBit_xor]
  · rw [List.getElem?_eq_none (by omega), List.getElem?_eq_none (by omega)]
    simp

theorem no_least (a b c : List UInt8) (h : a.length = b.length) (k : b.length = c.length) : ¬ (prefB (xorB a b) < prefB (xorB b c) ∧ prefB (xorB a b) < prefB (xorB a c)) := by
  rintro ⟨h1, h2⟩
  have hl := prefB_le (xorB b c)
  have e1 := xorB_length a b h
  have e2 := xorB_length b c k
  have p := prefB_at (xorB a b) (by omega)
  have q := prefB_low (xorB b c) _ h1
  have r := prefB_low (xorB a c) _ h2
  rw [bitB_xor a b h] at p
  rw [bitB_xor b c k] at q
  rw [bitB_xor a c (h.trans k)] at r
  revert p q r
  cases bitB a (prefB (xorB a b)) <;> cases bitB b (prefB (xorB a b)) <;> cases bitB c (prefB (xorB a b)) <;> simp
/-- Of three prefixes the two least are the same. -/
theorem two_least (a b c : List UInt8) (h : a.length = b.length) (k : b.length = c.length) :
    (prefB (xorB a b) = prefB (xorB b c) ∧ prefB (xorB a b) ≤ prefB (xorB a c)) ∨ (prefB (xorB b c) = prefB (xorB a c) ∧ prefB (xorB b c) ≤ prefB (xorB a b)) ∨ (prefB (xorB a b) = prefB (xorB a c) ∧ prefB (xorB a b) ≤ prefB (xorB b c)) := by
  have n1 := no_least a b c h k
  have n2 := no_least b c a k (by omega)
  have n3 := no_least a c b (by omega) (by omega)
  rw [xorB_comm c a, xorB_comm b a] at n2
  rw [xorB_comm c b] at n3
  omega

theorem cmp_neg : ∀ a b : List UInt8, Lib.compareBytes a b = - Lib.compareBytes b a
  | [], [] => rfl
  | [], _ :: _ => rfl
  | _ :: _, [] => rfl
  | x :: a, y :: b => by
    unfold Lib.compareBytes
    by_cases h1 : x < y
    · rw [if_pos h1, if_neg (UInt8.lt_asymm h1), if_pos h1]
    · by_cases h2 : y < x
      · rw [if_neg h1, if_pos h2, if_pos h2]; rfl
      · rw [if_neg h1, if_neg h2, if_neg h2, if_neg h1]
        exact cmp_neg a b
theorem cmp_bounds : ∀ a b : List UInt8, -1 ≤ Lib.compareBytes a b ∧ Lib.compareBytes a b ≤ 1
  | [], [] => by simp [Lib.compareBytes]
  | [], _ :: _ => by simp [Lib.compareBytes]
  | _ :: _, [] => by simp [Lib.compareBytes]
  | x :: a, y :: b => by
    unfold Lib.compareBytes
    split
    · omega
    · split
      · omega
      · exact cmp_bounds a b
/-- The prefix, from the k-th byte on. -/
theorem prefB_drop : ∀ (l : List UInt8) (k : Nat), (∀ j, j < k → l[j]? = some 0) → prefB l = 8 * k + prefB (l.drop k)
  | l, 0, _ => by simp
  | [], k + 1, h => by have := h 0 (by omega); simp at this
  | x :: l, k + 1, h => by
    have h0 := h 0 (by omega)
    simp at h0
    subst h0
    have ih := prefB_drop l k (fun j hj => by have := h (j + 1) (by omega); simpa using this)
    show (if (0 : UInt8) = 0 then 8 + prefB l else lz8 0) = _
    rw [if_pos rfl, ih, List.drop_succ_cons]
    omega
end Go.Proofs.Ytgdiajhegmdfgaa
