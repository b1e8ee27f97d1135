/-
  Ids as texts, read and written, in plain Lean. Conditions: none.
-/
import Derived.Test.YtgdiajhegmdfgaaIdB
namespace Go.Proofs.Ytgdiajhegmdfgaa

/-- A digit's value. -/
def valB (c : UInt8) : Option Nat := if 48 ≤ c.toNat ∧ c.toNat ≤ 57 then some (c.toNat - 48) else if 97 ≤ c.toNat ∧ c.toNat ≤ 102 then some (c.toNat - 87) else none
theorem valB_lt {c : UInt8} {n : Nat} (h : valB c = some n) : n < 16 := by
  unfold valB at h
  split at h
  · cases h; omega
  · split at h
    · cases h; omega
    · cases h
theorem valB_hex : ∀ n : Fin 16, valB (hexd n.val) = some n.val := by decide +kernel
theorem hexd_inj : ∀ n m : Fin 16, hexd n.val = hexd m.val → n = m := by decide +kernel
theorem hex_valB {c : UInt8} {n : Nat} (h : valB c = some n) : hexd n = c := by
  have hc := c.toNat_lt
  unfold valB at h
  unfold hexd
  apply UInt8.toNat_inj.1
  rw [UInt8.toNat_ofNat']
  split at h
  · cases h; split <;> omega
  · split at h
    · cases h; split <;> omega
    · cases h

/-- Pairs of digits read. -/
def pairsB : List UInt8 → Option (List UInt8)
  | [] => some []
  | [_] => none
  | a :: b :: l => match valB a, valB b, pairsB l with
    | some h, some o, some r => some (UInt8.ofNat (16 * h + o) :: r)
    | _, _, _ => none
/-- A text read. -/
def parseB (l : List UInt8) : Option (List UInt8) := if l.length = 40 then pairsB l else none

theorem pairs_length : ∀ (l m : List UInt8), pairsB l = some m → l.length = 2 * m.length
  | [], m, h => by cases h; rfl
  | [_], m, h => by cases h
  | a :: b :: l, m, h => by
    unfold pairsB at h
    split at h
    · rename_i r _ _ hr
      cases h
      have := pairs_length l _ hr
      simp only [List.length_cons]
      omega
    · cases h
theorem pairs_text : ∀ l : List UInt8, pairsB (textB l) = some l
  | [] => rfl
  | x :: l => by
    show pairsB (hexd (x.toNat / 16) :: hexd (x.toNat % 16) :: textB l) = _
    have hx := x.toNat_lt
    have h1 := valB_hex ⟨x.toNat / 16, by omega⟩
    have h2 := valB_hex ⟨x.toNat % 16, by omega⟩
    unfold pairsB
    simp only at h1 h2
    rw [h1, h2, pairs_text l]
    have e : UInt8.ofNat (16 * (x.toNat / 16) + x.toNat % 16) = x := by
      apply UInt8.toNat_inj.1
      rw [UInt8.toNat_ofNat']
      omega
    simp only [e]
theorem text_pairs : ∀ (l m : List UInt8), pairsB l = some m → textB m = l
  | [], m, h => by cases h; rfl
  | [_], m, h => by cases h
  | a :: b :: l, m, h => by
    unfold pairsB at h
    split at h
    · rename_i p o r h1 h2 hr
      cases h
      have ih := text_pairs l _ hr
      have l1 := valB_lt h1
      have l2 := valB_lt h2
      have e : (UInt8.ofNat (16 * p + o)).toNat = 16 * p + o := by rw [UInt8.toNat_ofNat']; omega
      show hexd ((UInt8.ofNat (16 * p + o)).toNat / 16) :: hexd ((UInt8.ofNat (16 * p + o)).toNat % 16) :: textB r = _
      rw [e, ih, show (16 * p + o) / 16 = p by omega, show (16 * p + o) % 16 = o by omega, hex_valB h1, hex_valB h2]
    · cases h
theorem pairs_snoc : ∀ (l m : List UInt8) (a b : UInt8) (h o : Nat), pairsB l = some m → valB a = some h → valB b = some o → pairsB (l ++ [a, b]) = some (m ++ [UInt8.ofNat (16 * h + o)])
  | [], m, a, b, h, o, hp, ha, hb => by
    cases hp
    show (match valB a, valB b, pairsB [] with
      | some h, some o, some r => some (UInt8.ofNat (16 * h + o) :: r)
      | _, _, _ => none) = _
    rw [ha, hb]
    rfl
  | [_], m, a, b, h, o, hp, _, _ => by cases hp
  | x :: y :: l, m, a, b, h, o, hp, ha, hb => by
    unfold pairsB at hp
    split at hp
    · rename_i p q r h1 h2 hr
      cases hp
      have ih := pairs_snoc l r a b h o hr ha hb
      show (match valB x, valB y, pairsB (l ++ [a, b]) with
        | some h, some o, some r => some (UInt8.ofNat (16 * h + o) :: r)
        | _, _, _ => none) = _
      rw [h1, h2, ih]
      rfl
    · cases hp
theorem pairs_none : ∀ (k : Nat) (l : List UInt8) (a b : UInt8), l[2 * k]? = some a → l[2 * k + 1]? = some b → (valB a = none ∨ valB b = none) → pairsB l = none
  | 0, x :: y :: l, a, b, ha, hb, h => by
    simp only [Nat.mul_zero, List.getElem?_cons_zero, Option.some.injEq] at ha
    simp only [Nat.mul_zero, Nat.zero_add, List.getElem?_cons_succ, List.getElem?_cons_zero, Option.some.injEq] at hb
    subst ha; subst hb
    unfold pairsB
    rcases h with h | h
    · rw [h]
    · rw [h]
      cases valB x <;> rfl
  | 0, [], a, b, ha, _, _ => by simp at ha
  | 0, [_], a, b, _, hb, _ => by simp at hb
  | k + 1, [], a, b, ha, _, _ => by simp at ha
  | k + 1, [_], a, b, ha, _, _ => by simp at ha
  | k + 1, x :: y :: l, a, b, ha, hb, h => by
    have e1 : 2 * (k + 1) = 2 * k + 1 + 1 := by omega
    rw [e1, List.getElem?_cons_succ, List.getElem?_cons_succ] at ha
    rw [e1, List.getElem?_cons_succ, List.getElem?_cons_succ] at hb
    have ih := pairs_none k l a b ha hb h
    unfold pairsB
    rw [ih]
    cases valB x <;> cases valB y <;> rfl

/-- What Parse hands back. -/
def parseA (l : List UInt8) : List UInt8 := (parseB l).getD (List.replicate 20 0)
def parseE (l : List UInt8) : Int := if (parseB l).isSome then 0 else 10
theorem parseA_length (l : List UInt8) : (parseA l).length = 20 := by
  unfold parseA parseB
  split
  · rename_i h
    cases hp : pairsB l with
    | none => rfl
    | some m => have := pairs_length l m hp; simp only [Option.getD_some]; omega
  · rfl
theorem parse_text (l : List UInt8) (h : l.length = 20) : parseB (textB l) = some l := by
  unfold parseB
  rw [textB_length, h, if_pos rfl, pairs_text]
theorem text_parse (l : List UInt8) (h : parseE l = 0) : textB (parseA l) = l := by
  unfold parseE at h
  unfold parseA
  cases hp : parseB l with
  | none => rw [hp] at h; simp at h
  | some m =>
    unfold parseB at hp
    split at hp
    · exact text_pairs l m hp
    · cases hp
end Go.Proofs.Ytgdiajhegmdfgaa
