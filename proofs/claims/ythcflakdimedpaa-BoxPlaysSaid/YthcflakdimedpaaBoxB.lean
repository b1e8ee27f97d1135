/-
  What Pour of two boxes of ints does, and the chapter's example. Conditions: both are boxes that New made.
-/
import Derived.Test.YthcflakdimedpaaBox
namespace Go.Proofs.Ythcflakdimedpaa
open Go.RowKit Go.Conc

theorem IsBox.drewN {w : World} {g c cap : Nat} {l : List Int} (h : IsBox w g c cap l) (n : Nat) : IsBox (w.drewN n) g c cap l := ⟨h.box, h.chan⟩
theorem Only.drewN {S : Nat → Prop} {a b : World} (h : Only S a b) (n : Nat) : Only S a (b.drewN n) := ⟨h.os, h.tape, h.output, h.size, h.block⟩
theorem Only.alloc {S : Nat → Prop} {a b : World} (h : Only S a b) (o : Obj) : Only S a (b.alloc o) := h.trans (Only.of_below ((Below.refl _ _).alloc (Nat.le_refl _) o))

/-- How many are poured. -/
def pours (most : Int) (l l2 : List Int) (cap2 : Nat) : Nat := (min most (min (l.length : Int) ((cap2 : Int) - (l2.length : Int)))).toNat

set_option maxHeartbeats 1000000 in
theorem Pour_N (N g c cap : Nat) (l : List Int) (g2 c2 cap2 : Nat) (l2 : List Int) (most : Int) (w : World) (HK : Hid (N = (min most (min (l.length : Int) ((cap2 : Int) - (l2.length : Int)))).toNat)) (h : IsBox w g c cap l) (h2 : IsBox w g2 c2 cap2 l2) (d1 : g2 ≠ c) (d2 : c2 ≠ c) (d3 : g ≠ c2)
    (hl2 : l2.length ≤ cap2) (hc2 : cap2 ≤ 65536) (hl : l.length ≤ 65536) :
    Calls Try.prog 19 #[.pointer (some ⟨g, 0, none⟩), .pointer (some ⟨g2, 0, none⟩), .int .i64 most] w fun e w' =>
      e = .returned (.int .i64 ((N : Nat) : Int)) ∧ IsBox w' g c cap (l.drop N) ∧ IsBox w' g2 c2 cap2 (l2 ++ l.take N) ∧ Only (fun k => k = c ∨ k = c2) w w' := by
  have H := Lib.hid h
  have H2 := Lib.hid h2
  clear h h2
  go_enter Try.func19, Try.ntmps19
  go_wp2
  go_loopw [7] (fun n wr => ∃ k : Nat, n = .int .i64 k ∧ k ≤ N ∧ Hid (IsBox wr g c cap (l.drop k)) ∧ Hid (IsBox wr g2 c2 cap2 (l2 ++ l.take k)) ∧ Only (fun k => k = c ∨ k = c2) w wr) (fun n _ => N - (intOf n).toNat)
  case atStart => exact ⟨0, rfl, by omega, Lib.hid (by simpa using H.out), Lib.hid (by simpa using H2.out), Only.refl _ w⟩
  case round =>
    obtain ⟨k, rfl, hk, HB, HB2, ho⟩ := hrel
    have hkl : k ≤ l.length := by have := HK.out; omega
    have hlk : (l2 ++ l.take k).length = l2.length + k := by rw [List.length_append, List.length_take]; omega
    have HL := Lib.hid hlk
    clear hlk
    by_cases hm : (k : Int) < most
    · by_cases hr : l2.length + k < cap2
      · have hr' : (0 : Int) < (cap2 : Int) - ((l2.length + k : Nat) : Int) := by omega
        by_cases hf : k < l.length
        · obtain ⟨x, hxk⟩ : ∃ x, l[k]? = some x := ⟨l[k], List.getElem?_eq_getElem hf⟩
          have hd : l.drop k = x :: l.drop (k + 1) := by
            rw [List.drop_eq_getElem_cons hf]
            rw [List.getElem?_eq_getElem hf] at hxk
            rw [Option.some.inj hxk]
          have HX := Lib.hid hxk
          have HD := Lib.hid hd
          clear hxk hd
          go_wp2_with fail
          refine (Room_any g2 c2 cap2 _ _ HB2.out (by rw [HL.out]; omega) hc2).mono ?_; rintro e w1 ⟨rfl, nq, rfl⟩
          rw [HL.out]
          go_wp2_with fail
          refine (Take_some g c cap (l.drop (k + 1)) x _ (HD.out ▸ HB.out.drewN nq)).mono ?_; rintro e w1 ⟨rfl, hb1, ho1⟩
          have HB1 := Lib.hid hb1
          have HB21 := Lib.hid ((HB2.out.drewN nq).far ho1 d1 d2)
          clear hb1
          go_wp2_with fail
          refine (Put_room g2 c2 cap2 _ x _ HB21.out (by rw [HL.out]; omega)).mono ?_; rintro e w2 ⟨rfl, hb2, ho2⟩
          have HB22 := Lib.hid hb2
          have HB12 := Lib.hid (HB1.out.far ho2 d3 (Ne.symm d2))
          clear hb2
          go_wp2_with fail
          go_roundw
          case rel =>
            refine ⟨k + 1, by go_num, by have := HK.out; omega, HB12, Lib.hid ?_, ?_⟩
            · have := HB22.out
              rwa [List.append_assoc, show l.take k ++ [x] = l.take (k + 1) by rw [List.take_add_one, HX.out]; rfl] at this
            · exact ((ho.drewN nq).trans (Only.of_grown ho1 fun k hk _ => .inl (Option.some.inj hk).symm)).trans (Only.of_grown ho2 fun k hk _ => .inr (Option.some.inj hk).symm)
          case measure =>
            have := HK.out
            simp [intOf]; omega
        · have hd : l.drop k = [] := List.drop_of_length_le (by omega)
          have HD := Lib.hid hd
          clear hd
          go_wp2_with fail
          refine (Room_any g2 c2 cap2 _ _ HB2.out (by rw [HL.out]; omega) hc2).mono ?_; rintro e w1 ⟨rfl, nq, rfl⟩
          rw [HL.out]
          go_wp2_with fail
          refine (Take_none g c cap _ (HD.out ▸ HB.out.drewN nq)).mono ?_; rintro e w1 ⟨rfl, rfl⟩
          go_wp2_with fail
          go_ret
          have hkN : k = N := by have := HK.out; omega
          subst hkN
          exact ⟨rfl, HB.out.drewN nq, HB2.out.drewN nq, ho.drewN nq⟩
      · have hr' : (cap2 : Int) - ((l2.length + k : Nat) : Int) ≤ 0 := by omega
        go_wp2_with fail
        refine (Room_any g2 c2 cap2 _ _ HB2.out (by rw [HL.out]; have := HK.out; omega) hc2).mono ?_; rintro e w1 ⟨rfl, nq, rfl⟩
        rw [HL.out]
        go_wp2_with fail
        go_ret
        have hkN : k = N := by have := HK.out; omega
        subst hkN
        exact ⟨rfl, HB.out.drewN nq, HB2.out.drewN nq, ho.drewN nq⟩
    · go_wp2
      go_ret
      have hkN : k = N := by have := HK.out; omega
      subst hkN
      exact ⟨rfl, HB.out, HB2.out, ho⟩

theorem Pour_any (g c cap : Nat) (l : List Int) (g2 c2 cap2 : Nat) (l2 : List Int) (most : Int) (w : World) (h : IsBox w g c cap l) (h2 : IsBox w g2 c2 cap2 l2) (d1 : g2 ≠ c) (d2 : c2 ≠ c) (d3 : g ≠ c2)
    (hl2 : l2.length ≤ cap2) (hc2 : cap2 ≤ 65536) (hl : l.length ≤ 65536) :
    Calls Try.prog 19 #[.pointer (some ⟨g, 0, none⟩), .pointer (some ⟨g2, 0, none⟩), .int .i64 most] w fun e w' =>
      e = .returned (.int .i64 ((pours most l l2 cap2 : Nat) : Int)) ∧ IsBox w' g c cap (l.drop (pours most l l2 cap2)) ∧ IsBox w' g2 c2 cap2 (l2 ++ l.take (pours most l l2 cap2)) ∧ Only (fun k => k = c ∨ k = c2) w w' :=
  Pour_N _ g c cap l g2 c2 cap2 l2 most w (Lib.hid rfl) h h2 d1 d2 d3 hl2 hc2 hl

set_option maxHeartbeats 1000000 in
theorem lives42 (w : World) : Calls Try.prog 13 #[] w fun e w' => e = .returned (.bool true) ∧ Below w.heap.size w w' := by
  go_enter Try.func13, Try.ntmps13
  go_wp2_with fail
  refine (box_New_good 2 (by omega) (by omega) _).mono ?_; rintro e w1 ⟨g, c, rfl, hb, ho, hg, hc⟩
  have HB := Lib.hid hb
  have hlt := hb.lt
  clear hb
  go_wp2_with fail
  have hrow : Row (w1.alloc (.cells #[.int .i64 1, .int .i64 2, .int .i64 3] 3)) ⟨w1.heap.size, 0, none⟩ (ints [1, 2, 3]) := Row.of_block (heap_alloc_new w1 _)
  have HB1 := Lib.hid (HB.out.keep (w' := w1.alloc (.cells #[.int .i64 1, .int .i64 2, .int .i64 3] 3)) (Below.heap_alloc w1 _ _ hlt.1) (Below.heap_alloc w1 _ _ hlt.2))
  refine (Fill_any g c 2 [] (some ⟨w1.heap.size, 0, none⟩) 3 [1, 2, 3] 3 _ HB1.out (by simp) ⟨fun h => (by cases h), fun ad had => (Option.some.inj had) ▸ hrow⟩ rfl (by omega)).mono ?_
  rintro e w2 ⟨rfl, hb2, ho2⟩
  simp only [List.nil_append, List.length_nil, Nat.sub_zero, List.take_succ_cons, List.take_zero] at hb2
  have hfits : fits [] 2 [1, 2, 3] = 2 := by decide
  rw [hfits]
  have HB2 := Lib.hid hb2
  clear hb2 hrow
  go_wp2_with fail
  refine (Take_some g c 2 [2] 1 _ HB2.out).mono ?_; rintro e w3 ⟨rfl, hb3, ho3⟩
  have HB3 := Lib.hid hb3
  clear hb3
  go_wp2_with fail
  refine (Len_any g c 2 [2] _ HB3.out).mono ?_; rintro e w4 ⟨rfl, rfl⟩
  go_wp2_with fail
  refine (Room_any g c 2 [2] _ HB3.out (by simp) (by omega)).mono ?_; rintro e w4 ⟨rfl, nq, rfl⟩
  go_wp2_with fail
  go_ret
  refine ⟨rfl, ?_⟩
  have h1 : Only (fun k => k = c) w1 (w3.drewN nq) := (((Only.refl _ w1).alloc _).trans ((Only.of_grown ho2 fun k hk _ => (Option.some.inj hk).symm).trans (Only.of_grown ho3 fun k hk _ => (Option.some.inj hk).symm))).drewN nq
  exact ho.trans (h1.below ho.size fun k hk e => by omega)
end Go.Proofs.Ythcflakdimedpaa
