/-
  The document's answer for bits of ids (signpostref03.Bit, With) in the walk. Conditions: the id is twenty bytes.
-/
import Derived.Test.YtgdiajhegmdfgaaIdU
namespace Go.Proofs.Ytgdiajhegmdfgaa
open Go.RowKit

theorem wpList_load_agg_g {P : Program} {w : World} {ops : Array Oper} {rest : List Oper} {o : Oper} {a : Act} {Q : Exit → Act → World → Prop} (hw : Region.wanted o (yielded ops a.tmps) = true) (ty : TypeId) (x : Operand) (ho : o.op = .load ty x)
    (ad : Addr) (hx : a.eval x = .pointer (some ad)) (cs : List Value) (hr : Row w ad cs) (ht : IsAgg P ty cs.length)
    (h : wpList P ops Q rest (a.put o.dst (.agg cs.toArray)) w) : wpList P ops Q (o :: rest) a w :=
  wpList_step fun K hK => by rw [if_pos hw]; exact wp_load_agg ty x ho ad hx cs hr ht (hK _ _ h)

theorem and_one : ∀ q : Fin 256, bits .and .i64 (q.val : Int) 1 = ((q.val % 2 : Nat) : Int) := by decide +kernel

set_option maxRecDepth 100000 in
set_option maxHeartbeats 1000000 in
theorem ref_Bit (l : List UInt8) (hl : l.length = 20) (i : Int) (hi0 : -9223372036854775808 ≤ i) (hi1 : i ≤ 9223372036854775807) (w : World) :
    Calls Try.prog 72 #[.agg (bytesV l).toArray, .int .i64 i] w fun e w' => e = .returned (.int .i64 (bitZ l i)) ∧ Below w.heap.size w w' := by
  have sa := bytes_size hl
  have i1 : BB 35 (w.alloc (.cells (bytesV l).toArray 35)) w.heap.size l := heap_alloc_new _ _
  have i5 : Hid (Below w.heap.size w (w.alloc (.cells (bytesV l).toArray 35))) := Lib.hid ((Below.refl _ _).alloc (Nat.le_refl _) _)
  by_cases hin : 0 ≤ i ∧ i < 160
  · obtain ⟨n, rfl⟩ := Int.eq_ofNat_of_zero_le hin.1
    have hn : n < 160 := by omega
    rw [bitZ_in l n hn]
    obtain ⟨x, hx⟩ : ∃ x, l[n / 8]? = some x := ⟨l[n / 8]'(by omega), List.getElem?_eq_getElem _⟩
    obtain ⟨m, hm⟩ : ∃ m, 7 - n % 8 = m := ⟨_, rfl⟩
    obtain ⟨r, hr⟩ : ∃ r, n % 8 = r := ⟨_, rfl⟩
    obtain ⟨j, hj⟩ : ∃ j, n / 8 = j := ⟨_, rfl⟩
    have hm8 : m < 8 := by omega
    have t0 : (n : Int) / 8 = (j : Int) := by omega
    have e1 : (n : Int) % 8 = (r : Int) := by omega
    have e2 : (7 : Int) - (r : Int) = (m : Int) := by omega
    have t5 : (j : Int) < 20 := by omega
    have m1 : (m : Int) ≤ 7 := by omega
    have n1 : (n : Int) < 160 := by omega
    rw [bitN_at l n x hx, hm]
    have c1 := i1.cell hx
    rw [hj] at c1
    have hx8 := x.toNat_lt
    obtain ⟨q, hq⟩ : ∃ q, x.toNat / 2 ^ m = q := ⟨_, rfl⟩
    have hq8 : q < 256 := by rw [← hq]; exact Nat.lt_of_le_of_lt (Nat.div_le_self _ _) hx8
    have e3 : (x.toNat : Int) / 2 ^ m = (q : Int) := by rw [← hq]; simp
    have e4 := and_one ⟨q, hq8⟩
    simp only at e4
    have hb : (if x.toNat.testBit m = true then (1 : Int) else 0) = ((q % 2 : Nat) : Int) := by
      rw [Nat.testBit_eq_decide_div_mod_eq, hq]
      by_cases h : q % 2 = 1
      · rw [h]; rfl
      · rw [show q % 2 = 0 by omega]; rfl
    rw [hb]
    clear hb hq hx i1 hr hj hm
    generalize x.toNat = xn at *
    generalize hq2 : q % 2 = q2 at *
    have hq2b : (q2 : Int) < 2 := by omega
    clear hq2
    go_enter Try.func72, Try.ntmps72
    go_wp2_with fail
    go_ret
    exact ⟨rfl, i5.out⟩
  · have ho : i < 0 ∨ 160 ≤ i := by omega
    rw [bitZ_out l i ho]
    clear i1 hin
    rcases ho with ho | ho
    · go_enter Try.func72, Try.ntmps72
      go_wp2_with fail
      go_ret
      exact ⟨rfl, i5.out⟩
    · have h0 : 0 ≤ i := by omega
      go_enter Try.func72, Try.ntmps72
      go_wp2_with fail
      go_ret
      exact ⟨rfl, i5.out⟩

set_option maxRecDepth 100000 in
set_option maxHeartbeats 8000000 in
theorem ref_With (l : List UInt8) (hl : l.length = 20) (i bit : Int) (hi0 : -9223372036854775808 ≤ i) (hi1 : i ≤ 9223372036854775807) (w : World) :
    Calls Try.prog 73 #[.agg (bytesV l).toArray, .int .i64 i, .int .i64 bit] w fun e w' => e = .returned (.agg (bytesV (withZ l i bit)).toArray) ∧ Below w.heap.size w w' := by
  have sa := bytes_size hl
  have i1 : Hid (BB 35 ((w.alloc (.cells (bytesV l).toArray 35)).alloc (.cells #[.int .u8 0, .int .u8 0, .int .u8 0, .int .u8 0, .int .u8 0, .int .u8 0, .int .u8 0, .int .u8 0, .int .u8 0, .int .u8 0, .int .u8 0, .int .u8 0, .int .u8 0, .int .u8 0, .int .u8 0, .int .u8 0, .int .u8 0, .int .u8 0, .int .u8 0, .int .u8 0] 35)) w.heap.size l) := Lib.hid (BB.alloc (l := l) (heap_alloc_new _ _) _)
  have i2 : Hid (BB 35 ((w.alloc (.cells (bytesV l).toArray 35)).alloc (.cells #[.int .u8 0, .int .u8 0, .int .u8 0, .int .u8 0, .int .u8 0, .int .u8 0, .int .u8 0, .int .u8 0, .int .u8 0, .int .u8 0, .int .u8 0, .int .u8 0, .int .u8 0, .int .u8 0, .int .u8 0, .int .u8 0, .int .u8 0, .int .u8 0, .int .u8 0, .int .u8 0] 35)) (w.heap.size + 1) (List.replicate 20 0)) := Lib.hid (heap_alloc2_new _ _ _)
  have i5 : Hid (Below w.heap.size w ((w.alloc (.cells (bytesV l).toArray 35)).alloc (.cells #[.int .u8 0, .int .u8 0, .int .u8 0, .int .u8 0, .int .u8 0, .int .u8 0, .int .u8 0, .int .u8 0, .int .u8 0, .int .u8 0, .int .u8 0, .int .u8 0, .int .u8 0, .int .u8 0, .int .u8 0, .int .u8 0, .int .u8 0, .int .u8 0, .int .u8 0, .int .u8 0] 35))) := Lib.hid (((Below.refl _ _).alloc (Nat.le_refl _) _).alloc (by simp) _)
  have hrl := withZ_length l i bit
  rw [hl] at hrl
  obtain ⟨R, hR⟩ : ∃ R, withZ l i bit = R := ⟨_, rfl⟩
  rw [hR] at hrl ⊢
  have HRL := Lib.hid hrl
  have haL : Hid (IsAgg Try.prog 35 (bytesV l).length) := Lib.hid (by rw [bytes_len hl]; exact aggR3)
  have haR : Hid (IsAgg Try.prog 35 (bytesV R).length) := Lib.hid (by rw [bytes_len hrl]; exact aggR3)
  have HSZ : Hid ((Try.prog.info? 35).map (·.size) = some (bytesV R).toArray.size) := Lib.hid (by rw [bytes_size hrl]; kernel_rfl)
  clear hrl
  by_cases hin : 0 ≤ i ∧ i < 160
  · obtain ⟨n, rfl⟩ := Int.eq_ofNat_of_zero_le hin.1
    have hn : n < 160 := by omega
    rw [withZ_in l n bit hn] at hR
    have HBIT := Lib.hid (fun w => ref_Bit l hl (n : Int) hi0 hi1 w)
    rw [bitZ_in l n hn] at HBIT
    obtain ⟨x, hx⟩ : ∃ x, l[n / 8]? = some x := ⟨l[n / 8]'(by omega), List.getElem?_eq_getElem _⟩
    obtain ⟨m, hm⟩ : ∃ m, 7 - n % 8 = m := ⟨_, rfl⟩
    obtain ⟨r, hr⟩ : ∃ r, n % 8 = r := ⟨_, rfl⟩
    obtain ⟨j, hj⟩ : ∃ j, n / 8 = j := ⟨_, rfl⟩
    have hm8 : m < 8 := by omega
    have t0 : (n : Int) / 8 = (j : Int) := by omega
    have e1 : (n : Int) % 8 = (r : Int) := by omega
    have e2 : (7 : Int) - (r : Int) = (m : Int) := by omega
    have t5 : (j : Int) < 20 := by omega
    have m1 : (m : Int) ≤ 7 := by omega
    have n1 : (n : Int) < 160 := by omega
    have hws := withB_set l n x hx
    have hbn := bitN_at l n x hx
    rw [hm] at hws hbn
    rw [hj] at hws
    have hx8 := x.toNat_lt
    have hf := flip_lt ⟨x.toNat, hx8⟩ ⟨m, hm8⟩
    simp only at hf
    obtain ⟨bv, hbv⟩ : ∃ bv, x.toNat.testBit m = bv := ⟨_, rfl⟩
    rw [hbv] at hws hbn
    have hbB : bitB l n = bv := by unfold bitB; rw [hx, hm]; exact hbv
    have hn0 : ¬ (n : Int) < 0 := by omega
    have hn2 : ¬ (160 : Int) ≤ (n : Int) := by omega
    rw [hbn] at HBIT
    have hp := pow_lt8 ⟨m, hm8⟩
    simp only at hp
    have b1 := u8_xor_nat x.toNat (2 ^ m) hx8 hp
    obtain ⟨z, hz0⟩ : ∃ z : UInt8, UInt8.ofNat (x.toNat ^^^ 2 ^ m) = z := ⟨_, rfl⟩
    have hzn : z.toNat = x.toNat ^^^ 2 ^ m := by rw [← hz0, UInt8.toNat_ofNat', Nat.mod_eq_of_lt hf]
    rw [← hzn] at b1
    have p2 : (2 : Int) ^ m = ((2 ^ m : Nat) : Int) := by simp
    rw [hj] at hx
    have hRs : bv = decide (bit ≠ 0) → R = l := fun h => by rw [← hR]; unfold withB; rw [if_pos (hbB.trans h)]
    have hRd : bv ≠ decide (bit ≠ 0) → R = l.set j z := fun h => by rw [← hR]; exact hws _ z (by rw [if_neg h, hzn])
    clear hR hws hbn hf hm hj hr hbv hbB hz0 hzn
    obtain ⟨M, hM⟩ : ∃ M, 2 ^ m = M := ⟨_, rfl⟩
    rw [hM] at hp b1 p2
    have p1 : (2 : Int) ^ m % 256 = (M : Int) := by rw [p2]; omega
    clear hM
    by_cases hb0 : bit = 0
    · have hd : decide (bit ≠ 0) = false := by simp [hb0]
      rw [hd] at hRs hRd
      subst hb0
      cases bv with
      | false =>
        have hRl := hRs rfl
        clear hRs hRd hd
        rw [if_neg (by decide)] at HBIT
        subst hRl
        go_enter Try.func73, Try.ntmps73
        go_wp2_with (refine wpList_load_agg_g (o := ⟨some 17, _, _, _, _, some _⟩) (by rfl) _ (.tmp 3) rfl _ rfl (bytesV R) i1.out.row haL.out ?_)
        generalize ((w.alloc (.cells (bytesV R).toArray 35)).alloc (.cells #[.int .u8 0, .int .u8 0, .int .u8 0, .int .u8 0, .int .u8 0, .int .u8 0, .int .u8 0, .int .u8 0, .int .u8 0, .int .u8 0, .int .u8 0, .int .u8 0, .int .u8 0, .int .u8 0, .int .u8 0, .int .u8 0, .int .u8 0, .int .u8 0, .int .u8 0, .int .u8 0] 35)) = W2 at *
        refine (HBIT.out _).mono ?_; rintro e w3 ⟨rfl, hb3⟩
        have k1 := Lib.hid (i1.out.below hb3)
        have k2 := Lib.hid (i2.out.below hb3)
        have k5 := Lib.hid (i5.out.trans (hb3.mono i5.out.size))
        clear hb3 i1 i2 i5
        go_wp2_with (refine wpList_load_agg (o := ⟨some 23, _, _, _, _, none⟩) rfl _ (.tmp 3) rfl _ rfl (bytesV R) k1.out.row haR.out ?_
                     refine wpList_store_row (o := ⟨none, _, _, _, _, _⟩) rfl _ (.tmp 6) (.tmp 23) rfl (w.heap.size + 1) rfl (bytesV R) rfl _ _ k2.out 20 (by kernel_rfl) (bytes_len HRL.out) (bytes_size (by simp)) (bytesV_one _) ?_)
        have hw2 := BB.setRow k2.out R
        exact bodyPost_ret (results_cell_row Try.results73 _ _ (w.heap.size + 1) _ _ _ _ rfl hw2 Try.underlying35 rfl HSZ.out) rfl ⟨rfl, k5.out.trans (Only.below (S := (· = w.heap.size + 1)) (Only.setRow _ _ _) k5.out.size fun k hk => by omega)⟩
      | true =>
        have hzR := hRd (by decide)
        clear hRs hRd hd
        rw [if_pos rfl] at HBIT
        go_enter Try.func73, Try.ntmps73
        go_wp2_with (refine wpList_load_agg_g (o := ⟨some 17, _, _, _, _, some _⟩) (by rfl) _ (.tmp 3) rfl _ rfl (bytesV l) i1.out.row haL.out ?_)
        generalize ((w.alloc (.cells (bytesV l).toArray 35)).alloc (.cells #[.int .u8 0, .int .u8 0, .int .u8 0, .int .u8 0, .int .u8 0, .int .u8 0, .int .u8 0, .int .u8 0, .int .u8 0, .int .u8 0, .int .u8 0, .int .u8 0, .int .u8 0, .int .u8 0, .int .u8 0, .int .u8 0, .int .u8 0, .int .u8 0, .int .u8 0, .int .u8 0] 35)) = W2 at *
        refine (HBIT.out _).mono ?_; rintro e w3 ⟨rfl, hb3⟩
        have k1 := Lib.hid (i1.out.below hb3)
        have k2 := Lib.hid (i2.out.below hb3)
        have k5 := Lib.hid (i5.out.trans (hb3.mono i5.out.size))
        clear hb3 i1 i2 i5
        have c1 := k1.out.cell hx
        have hz := k1.out.free j
        have q1 : Hid (BB 35 (w3.setCell ⟨w.heap.size, j, none⟩ (.int .u8 (z.toNat : Int))) w.heap.size R) := Lib.hid (by rw [hzR]; exact BB.set_ k1.out j z)
        have on : Only (· = w.heap.size) w3 (w3.setCell ⟨w.heap.size, j, none⟩ (.int .u8 (z.toNat : Int))) := Only.set_ _ _ _ _
        have q2 := Lib.hid (BB.far (S := (· = w.heap.size)) k2.out on (by omega))
        have q5 := Lib.hid (k5.out.trans (Only.below on k5.out.size fun k hk he => by omega))
        clear on hx hzR
        generalize x.toNat = xn at *
        go_wp2_with (refine wpList_load_agg (o := ⟨some 37, _, _, _, _, none⟩) rfl _ (.tmp 3) rfl _ rfl (bytesV R) q1.out.row haR.out ?_
                     refine wpList_store_row (o := ⟨none, _, _, _, _, _⟩) rfl _ (.tmp 6) (.tmp 37) rfl (w.heap.size + 1) rfl (bytesV R) rfl _ _ q2.out 20 (by kernel_rfl) (bytes_len HRL.out) (bytes_size (by simp)) (bytesV_one _) ?_)
        have hw2 := BB.setRow q2.out R
        exact bodyPost_ret (results_cell_row Try.results73 _ _ (w.heap.size + 1) _ _ _ _ rfl hw2 Try.underlying35 rfl HSZ.out) rfl ⟨rfl, q5.out.trans (Only.below (S := (· = w.heap.size + 1)) (Only.setRow _ _ _) q5.out.size fun k hk => by omega)⟩
    · have hd : decide (bit ≠ 0) = true := by simp [hb0]
      rw [hd] at hRs hRd
      cases bv with
      | true =>
        have hRl := hRs rfl
        clear hRs hRd hd
        rw [if_pos rfl] at HBIT
        subst hRl
        go_enter Try.func73, Try.ntmps73
        go_wp2_with (refine wpList_load_agg_g (o := ⟨some 17, _, _, _, _, some _⟩) (by rfl) _ (.tmp 3) rfl _ rfl (bytesV R) i1.out.row haL.out ?_)
        generalize ((w.alloc (.cells (bytesV R).toArray 35)).alloc (.cells #[.int .u8 0, .int .u8 0, .int .u8 0, .int .u8 0, .int .u8 0, .int .u8 0, .int .u8 0, .int .u8 0, .int .u8 0, .int .u8 0, .int .u8 0, .int .u8 0, .int .u8 0, .int .u8 0, .int .u8 0, .int .u8 0, .int .u8 0, .int .u8 0, .int .u8 0, .int .u8 0] 35)) = W2 at *
        refine (HBIT.out _).mono ?_; rintro e w3 ⟨rfl, hb3⟩
        have k1 := Lib.hid (i1.out.below hb3)
        have k2 := Lib.hid (i2.out.below hb3)
        have k5 := Lib.hid (i5.out.trans (hb3.mono i5.out.size))
        clear hb3 i1 i2 i5
        go_wp2_with (refine wpList_load_agg (o := ⟨some 23, _, _, _, _, none⟩) rfl _ (.tmp 3) rfl _ rfl (bytesV R) k1.out.row haR.out ?_
                     refine wpList_store_row (o := ⟨none, _, _, _, _, _⟩) rfl _ (.tmp 6) (.tmp 23) rfl (w.heap.size + 1) rfl (bytesV R) rfl _ _ k2.out 20 (by kernel_rfl) (bytes_len HRL.out) (bytes_size (by simp)) (bytesV_one _) ?_)
        have hw2 := BB.setRow k2.out R
        exact bodyPost_ret (results_cell_row Try.results73 _ _ (w.heap.size + 1) _ _ _ _ rfl hw2 Try.underlying35 rfl HSZ.out) rfl ⟨rfl, k5.out.trans (Only.below (S := (· = w.heap.size + 1)) (Only.setRow _ _ _) k5.out.size fun k hk => by omega)⟩
      | false =>
        have hzR := hRd (by decide)
        clear hRs hRd hd
        rw [if_neg (by decide)] at HBIT
        go_enter Try.func73, Try.ntmps73
        go_wp2_with (refine wpList_load_agg_g (o := ⟨some 17, _, _, _, _, some _⟩) (by rfl) _ (.tmp 3) rfl _ rfl (bytesV l) i1.out.row haL.out ?_)
        generalize ((w.alloc (.cells (bytesV l).toArray 35)).alloc (.cells #[.int .u8 0, .int .u8 0, .int .u8 0, .int .u8 0, .int .u8 0, .int .u8 0, .int .u8 0, .int .u8 0, .int .u8 0, .int .u8 0, .int .u8 0, .int .u8 0, .int .u8 0, .int .u8 0, .int .u8 0, .int .u8 0, .int .u8 0, .int .u8 0, .int .u8 0, .int .u8 0] 35)) = W2 at *
        refine (HBIT.out _).mono ?_; rintro e w3 ⟨rfl, hb3⟩
        have k1 := Lib.hid (i1.out.below hb3)
        have k2 := Lib.hid (i2.out.below hb3)
        have k5 := Lib.hid (i5.out.trans (hb3.mono i5.out.size))
        clear hb3 i1 i2 i5
        have c1 := k1.out.cell hx
        have hz := k1.out.free j
        have q1 : Hid (BB 35 (w3.setCell ⟨w.heap.size, j, none⟩ (.int .u8 (z.toNat : Int))) w.heap.size R) := Lib.hid (by rw [hzR]; exact BB.set_ k1.out j z)
        have on : Only (· = w.heap.size) w3 (w3.setCell ⟨w.heap.size, j, none⟩ (.int .u8 (z.toNat : Int))) := Only.set_ _ _ _ _
        have q2 := Lib.hid (BB.far (S := (· = w.heap.size)) k2.out on (by omega))
        have q5 := Lib.hid (k5.out.trans (Only.below on k5.out.size fun k hk he => by omega))
        clear on hx hzR
        generalize x.toNat = xn at *
        go_wp2_with (refine wpList_load_agg (o := ⟨some 37, _, _, _, _, none⟩) rfl _ (.tmp 3) rfl _ rfl (bytesV R) q1.out.row haR.out ?_
                     refine wpList_store_row (o := ⟨none, _, _, _, _, _⟩) rfl _ (.tmp 6) (.tmp 37) rfl (w.heap.size + 1) rfl (bytesV R) rfl _ _ q2.out 20 (by kernel_rfl) (bytes_len HRL.out) (bytes_size (by simp)) (bytesV_one _) ?_)
        have hw2 := BB.setRow q2.out R
        exact bodyPost_ret (results_cell_row Try.results73 _ _ (w.heap.size + 1) _ _ _ _ rfl hw2 Try.underlying35 rfl HSZ.out) rfl ⟨rfl, q5.out.trans (Only.below (S := (· = w.heap.size + 1)) (Only.setRow _ _ _) q5.out.size fun k hk => by omega)⟩
  · have ho : i < 0 ∨ 160 ≤ i := by omega
    rw [withZ_out l i bit ho] at hR
    subst hR
    clear hin
    obtain ⟨W2, hW2⟩ : ∃ W2, ((w.alloc (.cells (bytesV l).toArray 35)).alloc (.cells #[.int .u8 0, .int .u8 0, .int .u8 0, .int .u8 0, .int .u8 0, .int .u8 0, .int .u8 0, .int .u8 0, .int .u8 0, .int .u8 0, .int .u8 0, .int .u8 0, .int .u8 0, .int .u8 0, .int .u8 0, .int .u8 0, .int .u8 0, .int .u8 0, .int .u8 0, .int .u8 0] 35)) = W2 := ⟨_, rfl⟩
    rw [hW2] at i1 i2 i5
    rcases ho with ho | ho
    · by_cases hb0 : bit = 0
      · subst hb0
        go_enter Try.func73, Try.ntmps73
        go_wp2_with (refine wpList_load_agg (o := ⟨some 23, _, _, _, _, none⟩) rfl _ (.tmp 3) rfl _ rfl (bytesV l) i1.out.row haR.out ?_
                     refine wpList_store_row (o := ⟨none, _, _, _, _, _⟩) rfl _ (.tmp 6) (.tmp 23) rfl (w.heap.size + 1) rfl (bytesV l) rfl _ _ i2.out 20 (by kernel_rfl) (bytes_len HRL.out) (bytes_size (by simp)) (bytesV_one _) ?_)
        have hw2 := BB.setRow i2.out l
        exact bodyPost_ret (results_cell_row Try.results73 _ _ (w.heap.size + 1) _ _ _ _ rfl hw2 Try.underlying35 rfl HSZ.out) rfl ⟨rfl, i5.out.trans (Only.below (S := (· = w.heap.size + 1)) (Only.setRow _ _ _) i5.out.size fun k hk => by omega)⟩
      · go_enter Try.func73, Try.ntmps73
        go_wp2_with (refine wpList_load_agg (o := ⟨some 23, _, _, _, _, none⟩) rfl _ (.tmp 3) rfl _ rfl (bytesV l) i1.out.row haR.out ?_
                     refine wpList_store_row (o := ⟨none, _, _, _, _, _⟩) rfl _ (.tmp 6) (.tmp 23) rfl (w.heap.size + 1) rfl (bytesV l) rfl _ _ i2.out 20 (by kernel_rfl) (bytes_len HRL.out) (bytes_size (by simp)) (bytesV_one _) ?_)
        have hw2 := BB.setRow i2.out l
        exact bodyPost_ret (results_cell_row Try.results73 _ _ (w.heap.size + 1) _ _ _ _ rfl hw2 Try.underlying35 rfl HSZ.out) rfl ⟨rfl, i5.out.trans (Only.below (S := (· = w.heap.size + 1)) (Only.setRow _ _ _) i5.out.size fun k hk => by omega)⟩
    · have h0 : 0 ≤ i := by omega
      by_cases hb0 : bit = 0
      · subst hb0
        go_enter Try.func73, Try.ntmps73
        go_wp2_with (refine wpList_load_agg (o := ⟨some 23, _, _, _, _, none⟩) rfl _ (.tmp 3) rfl _ rfl (bytesV l) i1.out.row haR.out ?_
                     refine wpList_store_row (o := ⟨none, _, _, _, _, _⟩) rfl _ (.tmp 6) (.tmp 23) rfl (w.heap.size + 1) rfl (bytesV l) rfl _ _ i2.out 20 (by kernel_rfl) (bytes_len HRL.out) (bytes_size (by simp)) (bytesV_one _) ?_)
        have hw2 := BB.setRow i2.out l
        exact bodyPost_ret (results_cell_row Try.results73 _ _ (w.heap.size + 1) _ _ _ _ rfl hw2 Try.underlying35 rfl HSZ.out) rfl ⟨rfl, i5.out.trans (Only.below (S := (· = w.heap.size + 1)) (Only.setRow _ _ _) i5.out.size fun k hk => by omega)⟩
      · go_enter Try.func73, Try.ntmps73
        go_wp2_with (refine wpList_load_agg (o := ⟨some 23, _, _, _, _, none⟩) rfl _ (.tmp 3) rfl _ rfl (bytesV l) i1.out.row haR.out ?_
                     refine wpList_store_row (o := ⟨none, _, _, _, _, _⟩) rfl _ (.tmp 6) (.tmp 23) rfl (w.heap.size + 1) rfl (bytesV l) rfl _ _ i2.out 20 (by kernel_rfl) (bytes_len HRL.out) (bytes_size (by simp)) (bytesV_one _) ?_)
        have hw2 := BB.setRow i2.out l
        exact bodyPost_ret (results_cell_row Try.results73 _ _ (w.heap.size + 1) _ _ _ _ rfl hw2 Try.underlying35 rfl HSZ.out) rfl ⟨rfl, i5.out.trans (Only.below (S := (· = w.heap.size + 1)) (Only.setRow _ _ _) i5.out.size fun k hk => by omega)⟩
end Go.Proofs.Ytgdiajhegmdfgaa
