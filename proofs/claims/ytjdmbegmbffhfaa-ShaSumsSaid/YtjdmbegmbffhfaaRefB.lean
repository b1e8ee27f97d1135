/-
  The document's answer for sums (signpostref02.Pad, words) in the walk. Conditions: the bytes stand in the slice's cells.
-/
import Derived.Test.YtjdmbegmbffhfaaRefA
import Derived.Test.YtjdmbegmbffhfaaSliceB
namespace Go.Proofs.Ytjdmbegmbffhfaa
open Go.RowKit

set_option maxRecDepth 100000 in
set_option maxHeartbeats 1000000 in
theorem ref_Pad (n : Nat) (hn : n ≤ 18446744073709551615) (w : World) :
    Calls Try.prog 23 #[.int .u64 (n : Int)] w fun e w' => ∃ v', e = .returned v' ∧ SLb w' w.heap.size v' (padB n) ∧ Below w.heap.size w w' := by
  obtain ⟨i0, hi0, hz0, hz1, hz2⟩ := info_parts infoByte
  obtain ⟨z, hz⟩ : ∃ z, (119 - n % 64) % 64 = z := ⟨_, rfl⟩
  have hz64 : z < 64 := by omega
  have e8 : IntKind.u64.wrap ((n : Int) * 8) = ((n * 8 % 18446744073709551616 : Nat) : Int) := by rw [IntKind.wrap_u64]; omega
  obtain ⟨N, hN⟩ : ∃ N, n * 8 % 18446744073709551616 = N := ⟨_, rfl⟩
  have hN2 : N ≤ 18446744073709551615 := by omega
  rw [hN] at e8
  have HZ : Hid ((119 - n % 64) % 64 = z) := Lib.hid hz
  unfold padB
  rw [hz, hN]
  clear hz hN
  have HS0 : Hid (SL (w.alloc (.cells #[.int .u8 128] 5)) w.heap.size 5 1 (.slice (some ⟨w.heap.size, 0, none⟩) 1 1) 1 (bytesV [128])) :=
    SL.mk_ (n := 1) (cur := #[.int .u8 128]) (Nat.le_refl _) (heap_alloc_new w _) (Nat.le_refl _) (by decide) (by decide)
  have HB0 : Hid (Below w.heap.size w (w.alloc (.cells #[.int .u8 128] 5))) := Lib.hid ((Below.refl _ _).alloc (Nat.le_refl _) _)
  go_enter Try.func23, Try.ntmps23
  go_wp2_with fail
  go_loopw [3] (fun v wr => ∃ k A' c', v = .slice A' (1 + k) c' ∧ k ≤ z ∧ Hid (SL wr w.heap.size 5 1 v (1 + k) (bytesV (128 :: List.replicate k 0))) ∧ Below w.heap.size w wr) (fun v _ => 1 + z - slen v)
  case atStart => exact ⟨0, _, _, rfl, by omega, HS0, HB0.out⟩
  case round =>
    obtain ⟨k, A', c', rfl, hk, HSV, hb⟩ := hrel
    have hsm : IntKind.u64.wrap ((n : Int) + (1 + (k : Int))) = (((n + (1 + k)) % 18446744073709551616 : Nat) : Int) := by rw [IntKind.wrap_u64]; omega
    by_cases hlt : k < z
    · have hne : ((((n + (1 + k)) % 18446744073709551616 : Nat) : Int) % 64) ≠ 56 := by have := HZ.out; omega
      generalize (n + (1 + k)) % 18446744073709551616 = s at *
      have HSA := Lib.hid (SL.alloc HSV.out (.cells #[.int .u8 0] 5))
      have hwr := hb.size
      go_wp2_with (at_builtin; refine wpList_append_SL rfl (.tmp 12) (.tmp 13) 30 30 rfl w.heap.size 5 i0 _ 1 1 Try.underlying30 hi0 hz0 hz1 hz2 rfl (by omega) _ (1 + k) _ rfl HSA.out _ 1 [.int .u8 0] rfl (src_of_row Try.underlying30 rfl (fun h => by cases h) (fun ad had => by obtain rfl := Option.some.inj had; exact Row.of_block (heap_alloc_new wr _)) (by simp [Value.oneCell'])) (by simp only [maxLen]; omega) (by omega) (by simp; omega) ?_; intro v2 w2 hsl2 hgr2 hob2)
      obtain ⟨A2, c2, rfl, hc3, hc4, _, _⟩ := SL.shape hsl2
      have hb2 : Below w.heap.size w w2 := (hb.alloc hwr _).trans (Below.grown (Below.refl _ _) hgr2 (by simp; omega) (fun g hg => (SL.block_lt HSA.out hg).2))
      have hsl3 : SL w2 w.heap.size 5 1 (.slice A2 (1 + (k + 1)) c2) (1 + (k + 1)) (bytesV (128 :: List.replicate (k + 1) 0)) := by
        have e : bytesV (128 :: List.replicate (k + 1) 0) = bytesV (128 :: List.replicate k 0) ++ [.int .u8 0] := by
          rw [List.replicate_succ', ← List.cons_append, bytesV_append]; rfl
        rw [e]
        exact hsl2
      have HS3 := Lib.hid hsl3
      clear hsl2 hsl3 hgr2 hob2 HSA
      go_wp2_with fail
      go_roundw
      case rel => exact ⟨k + 1, A2, c2, rfl, by omega, HS3, hb2⟩
      case measure => simp [slen]; omega
    · obtain rfl : k = z := by omega
      have heq : ((((n + (1 + k)) % 18446744073709551616 : Nat) : Int) % 64) = 56 := by have := HZ.out; omega
      generalize (n + (1 + k)) % 18446744073709551616 = s at *
      have hlen : (128 :: List.replicate k 0 : List UInt8).length = 1 + k := by simp [Nat.add_comm]
      have hby : Bytes wr A' (128 :: List.replicate k 0) := by
        have h := HSV.out
        rw [← hlen] at h
        obtain ⟨A3, c3, he, _, _, hby⟩ := SLb.bytes h
        injection he with h1 _ _
        rw [h1]; exact hby
      have HBy := Lib.hid hby
      clear hby
      go_wp2_with fail
      refine (ref_Put _ _ _ (1 + k) N 8 _ HBy.out (by simp [Nat.add_comm]) (by omega) hN2 (by omega) (by omega)).mono ?_; rintro e w2 ⟨v', rfl, hsl, hb2⟩
      go_wp2_with fail
      go_ret
      exact ⟨v', rfl, SL.mono hsl hb.size, hb.trans (hb2.mono hb.size)⟩

theorem infoWord : (Try.prog.info? 42).map (fun i => (i.zero, i.size, i.bytes)) = some (some (.int .u32 0), 1, 4) := by kernel_rfl
theorem wcells_snoc (k : Nat) (f : Nat → Nat) : (wcells (k + 1) f).toList = (wcells k f).toList ++ [w32 (f k)] := by
  simp [wcells, List.range_succ]
theorem Wf_lt (l : List UInt8) (n : Nat) : Wf l n < 4294967296 := by
  induction n using Nat.strongRecOn with
  | _ n ih =>
    by_cases h : n < 16
    · rw [Wf_lo l n h]; exact ldw_lt l n
    · rw [Wf_hi l n h]
      exact rotl_lt 1 _ (xor_lt32 (xor_lt32 (xor_lt32 (ih _ (by omega)) (ih _ (by omega))) (ih _ (by omega))) (ih _ (by omega)))

set_option maxRecDepth 100000 in
set_option maxHeartbeats 1600000 in
theorem ref_words (A : Option Addr) (cap : Nat) (l : List UInt8) (w : World) (h : Bytes w A l) (hlen : l.length = 64) (hcap : 64 ≤ cap) (hl : cap ≤ maxLen) :
    Calls Try.prog 90 #[.slice A 64 cap] w fun e w' => ∃ v, e = .returned v ∧ SL w' w.heap.size 42 1 v 80 (wcells 80 (Wf l)).toList ∧ Below w.heap.size w w' := by
  obtain ⟨i0, hi0, hz0, hz1, hz2⟩ := info_parts infoWord
  have HB := Lib.hid h
  have gt : ∀ (w' : World) (_ : Bytes w' A l) (k : Nat) (_ : k < 16), Calls Try.prog 105 #[.slice A 64 cap, .int .i64 (4 * (k : Int)), .int .i64 4] w' fun e w2 =>
      e = .returned (.tuple #[.int .u64 (Wf l k : Int), .bool true]) ∧ ∃ n, w2 = w'.drewN n := fun w' h k hk => by
    have := ref_Get A cap l 64 (4 * k) 4 w' h hlen.symm hcap hl (by omega) (by omega) (by omega)
    rw [Int.natCast_mul] at this
    rw [Wf_lo l k hk]
    exact this
  have GT := Lib.hid gt
  have WL : Hid (∀ k, Wf l k < 4294967296) := Lib.hid (Wf_lt l)
  clear gt h
  go_enter Try.func90, Try.ntmps90
  go_wp2_with fail
  go_loopw [3, 4] (fun v i wr => ∃ k : Nat, i = .int .i64 k ∧ k ≤ 16 ∧ ∃ A' c', v = .slice A' k c' ∧ Hid (SL wr w.heap.size 42 1 v k (wcells k (Wf l)).toList) ∧ Hid (Below w.heap.size w wr)) (fun _ i _ => 16 - (intOf i).toNat)
  case atStart => exact ⟨0, rfl, by omega, none, 0, rfl, Lib.hid (SL.nil_ _ _ _ _), Lib.hid (Below.refl _ _)⟩
  case round =>
    obtain ⟨k, rfl, hk, A', c', rfl, HSV, HO⟩ := hrel
    by_cases hlt : k < 16
    · have HG := Lib.hid (GT.out wr (HB.out.below (HO.out)) k hlt)
      have hx := WL.out k
      obtain ⟨x, hxx⟩ : ∃ x, Wf l k = x := ⟨_, rfl⟩
      have HX := Lib.hid hxx
      rw [hxx] at HG hx
      clear hxx
      have e1 : IntKind.u32.wrap (x : Int) = (x : Int) := by rw [IntKind.wrap_u32]; omega
      go_wp2_with fail
      refine HG.out.mono ?_; rintro e w2 ⟨rfl, n, rfl⟩
      have hwr := HO.out.size
      have HSA : Hid (SL ((wr.drewN n).alloc (.cells #[.int .u32 (x : Int)] 42)) w.heap.size 42 1 (.slice A' k c') k (wcells k (Wf l)).toList) := Lib.hid (SL.alloc (w := wr.drewN n) HSV.out _)
      go_wp2_with (at_builtin; refine wpList_append_SL rfl (.tmp 19) (.tmp 22) 120 120 rfl w.heap.size 42 i0 _ 1 4 Try.underlying120 hi0 hz0 hz1 hz2 rfl (by omega) _ k _ rfl HSA.out _ 1 [.int .u32 (x : Int)] rfl (src_of_row Try.underlying120 rfl (fun h => by cases h) (fun ad had => by obtain rfl := Option.some.inj had; exact Row.of_block (heap_alloc_new (wr.drewN n) _)) (by simp [Value.oneCell'])) (by simp only [maxLen]; omega) (by omega) (by simp; omega) ?_; intro v2 w2 hsl2 hgr2 hob2)
      obtain ⟨A2, c2, rfl, hc3, hc4, _, _⟩ := SL.shape hsl2
      have hb2 : Below w.heap.size w w2 := (Below.alloc (below_drewN HO.out n) hwr _).trans (Below.grown (Below.refl _ _) hgr2 (by simp; omega) (fun g hg => (SL.block_lt HSA.out hg).2))
      have hsl3 : SL w2 w.heap.size 42 1 (.slice A2 (k + 1) c2) (k + 1) (wcells (k + 1) (Wf l)).toList := by
        rw [wcells_snoc, HX.out]
        exact hsl2
      have HS3 := Lib.hid hsl3
      have HB2 := Lib.hid hb2
      clear hsl2 hsl3 hgr2 hob2 HSA hb2
      go_wp2_with fail
      go_roundw
      case rel => exact ⟨k + 1, by go_num, by omega, A2, c2, rfl, HS3, HB2⟩
      case measure => simp [intOf]; omega
    · have hge : (16 : Int) ≤ (k : Int) := by omega
      obtain ⟨k0, rfl⟩ : ∃ k0 : Nat, k0 = k := ⟨_, rfl⟩
      have h16 : Hid (k0 = 16) := Lib.hid (by omega)
      obtain ⟨wo, rfl⟩ : ∃ wo : World, wo = wr := ⟨_, rfl⟩
      go_wp2_with fail
      clear hge hlt hk
      go_loopw [3, 7] (fun v i wr => ∃ k : Nat, i = .int .i64 k ∧ 16 ≤ k ∧ k ≤ 80 ∧ ∃ A' c', v = .slice A' k c' ∧ Hid (SL wr w.heap.size 42 1 v k (wcells k (Wf l)).toList) ∧ Hid (Below w.heap.size w wr)) (fun _ i _ => 80 - (intOf i).toNat)
      case atStart => exact ⟨16, rfl, by omega, by omega, A', _, by rw [h16.out], by rw [h16.out] at HSV ⊢; exact HSV, HO⟩
      case round =>
        clear HSV HO
        obtain ⟨k, rfl, hk1, hk, A', c', rfl, HSV, HO⟩ := hrel
        by_cases hlt : k < 80
        · obtain ⟨A9, c9, he, _, _, hnil, hs'⟩ := SL.shape HSV.out
          simp only [Value.slice.injEq, true_and] at he
          obtain ⟨rfl, rfl⟩ := he
          obtain ⟨ad, rfl⟩ : ∃ ad, A' = some ad := by
            cases A' with
            | some ad => exact ⟨ad, rfl⟩
            | none => have := (hnil rfl).1; omega
          obtain ⟨ab, ao, rfl⟩ : ∃ ab ao, ad = ⟨ab, ao, none⟩ := by
            have := (hs' ad rfl).2.2
            exact ⟨ad.block, ad.off, by cases ad; simp_all⟩
          have hrow := (hs' _ rfl).2.1
          have cell : ∀ j, j < k → wr.cell? ⟨ab, ao + j, none⟩ = some (.int .u32 (Wf l j : Int)) := fun j hj => by
            have := hrow j (w32 (Wf l j)) (by rw [Array.getElem?_toList]; exact wcells_at k (Wf l) j hj)
            rwa [add_mk] at this
          obtain ⟨j3, h3⟩ : ∃ j, k - 3 = j := ⟨_, rfl⟩
          obtain ⟨j8, h8⟩ : ∃ j, k - 8 = j := ⟨_, rfl⟩
          obtain ⟨j14, h14⟩ : ∃ j, k - 14 = j := ⟨_, rfl⟩
          obtain ⟨j16, h16⟩ : ∃ j, k - 16 = j := ⟨_, rfl⟩
          have e3 : (k : Int) - 3 = (j3 : Int) := by omega
          have e8 : (k : Int) - 8 = (j8 : Int) := by omega
          have e14 : (k : Int) - 14 = (j14 : Int) := by omega
          have e16 : (k : Int) - 16 = (j16 : Int) := by omega
          have l3 : (j3 : Int) < (k : Int) := by omega
          have l8 : (j8 : Int) < (k : Int) := by omega
          have l14 : (j14 : Int) < (k : Int) := by omega
          have l16 : (j16 : Int) < (k : Int) := by omega
          have w3 : IntKind.i64.wrap (j3 : Int) = (j3 : Int) := by rw [IntKind.wrap_i64]; omega
          have w8 : IntKind.i64.wrap (j8 : Int) = (j8 : Int) := by rw [IntKind.wrap_i64]; omega
          have w14 : IntKind.i64.wrap (j14 : Int) = (j14 : Int) := by rw [IntKind.wrap_i64]; omega
          have w16 : IntKind.i64.wrap (j16 : Int) = (j16 : Int) := by rw [IntKind.wrap_i64]; omega
          have c0 := cell j3 (by omega)
          have c1 := cell j8 (by omega)
          have c2 := cell j14 (by omega)
          have c3 := cell j16 (by omega)
          have rc : ∀ j, j < k → (wcells k (Wf l)).toList[j]? = some (.int .u32 (Wf l j : Int)) := fun j hj => by rw [Array.getElem?_toList]; exact wcells_at k (Wf l) j hj
          have r0 := Lib.hid (rc j3 (by omega))
          have r1 := Lib.hid (rc j8 (by omega))
          have r2 := Lib.hid (rc j14 (by omega))
          have r3 := Lib.hid (rc j16 (by omega))
          clear rc
          have hW := Wf_hi l k (by omega)
          rw [h3, h8, h14, h16] at hW
          have b0 := WL.out j3
          have b1 := WL.out j8
          have b2 := WL.out j14
          have b3 := WL.out j16
          generalize Wf l j3 = a0 at *
          generalize Wf l j8 = a1 at *
          generalize Wf l j14 = a2 at *
          generalize Wf l j16 = a3 at *
          have x0 := u32_xor_nat a0 a1 b0 b1
          have x1 := u32_xor_nat (a0 ^^^ a1) a2 (xor_lt32 b0 b1) b2
          have x2 := u32_xor_nat (a0 ^^^ a1 ^^^ a2) a3 (xor_lt32 (xor_lt32 b0 b1) b2) b3
          have hx := xor_lt32 (xor_lt32 (xor_lt32 b0 b1) b2) b3
          have r := fun w => (ref_turned_1 _ hx w).mono fun e w' (h : _ ∧ _) => (⟨h.1, h.2.symm⟩ : e = _ ∧ w' = w)
          generalize hw : a0 ^^^ a1 ^^^ a2 ^^^ a3 = x at *
          obtain ⟨y, hy⟩ : ∃ y, rotl 1 x = y := ⟨_, rfl⟩
          rw [hy] at r hW
          have HW := Lib.hid hW
          have hwr := HO.out.size
          have HSA : Hid (SL (wr.drew.alloc (.cells #[.int .u32 (y : Int)] 42)) w.heap.size 42 1 (.slice (some ⟨ab, ao, none⟩) k c') k (wcells k (Wf l)).toList) := Lib.hid (SL.alloc (w := wr.drew) HSV.out _)
          have HAL : Hid (∀ p : Addr, p.block = ab → (wr.alloc (.cells #[.int .u32 (y : Int)] 42)).cell? p = wr.cell? p) := Lib.hid fun p hp => World.cell?_of_block (by rw [hp]; exact Below.heap_alloc wr _ ab (by have := block_lt_of_cell c0; simpa using this))
          clear hw hy hW hrow hs' hnil cell h3 h8 h14 h16
          go_wp2_with fail
          go_region_held3 (fun w' => w'.cell? ⟨ab, ao + j3, none⟩ = some (.int .u32 (a0 : Int)) ∧ w'.cell? ⟨ab, ao + j8, none⟩ = some (.int .u32 (a1 : Int)) ∧ w'.cell? ⟨ab, ao + j14, none⟩ = some (.int .u32 (a2 : Int)) ∧ w'.cell? ⟨ab, ao + j16, none⟩ = some (.int .u32 (a3 : Int)))
            (first
              | exact ⟨c0, c1, c2, c3⟩
              | exact ⟨(HAL.out _ rfl).trans c0, (HAL.out _ rfl).trans c1, (HAL.out _ rfl).trans c2, (HAL.out _ rfl).trans c3⟩
              | exact ⟨by have := hkp _ _ rfl j3 _ r0.out; rwa [add_mk] at this, by have := hkp _ _ rfl j8 _ r1.out; rwa [add_mk] at this, by have := hkp _ _ rfl j14 _ r2.out; rwa [add_mk] at this, by have := hkp _ _ rfl j16 _ r3.out; rwa [add_mk] at this⟩)
            (first
              | (go_at_call 92; refine (r _).mono ?_; rintro e w' ⟨rfl, rfl⟩)
              | (refine step_append_SL2 (by rfl) (.tmp 28) (.tmp 53) 120 120 (by rfl) w.heap.size 42 i0 _ 1 4 Try.underlying120 hi0 hz0 hz1 hz2 rfl (by omega) _ k _ (by rfl) HSA.out _ 1 [.int .u32 (y : Int)] (by rfl) (src_of_row Try.underlying120 rfl (fun h => by cases h) (fun ad had => by obtain rfl := Option.some.inj had; exact Row.of_block (heap_alloc_new wr.drew _)) (by simp [Value.oneCell'])) (by simp only [maxLen]; omega) (by omega) (by simp; omega) ?_; intro v2 w2 hsl2 hgr2 hob2 hkp))
          obtain ⟨A2, c2, rfl, hc3, hc4, _, _⟩ := SL.shape hsl2
          have hb2 : Below w.heap.size w w2 := (Below.alloc (below_drewN HO.out 1) hwr _).trans (Below.grown (Below.refl _ _) hgr2 (by simp; omega) (fun g hg => (SL.block_lt HSA.out hg).2))
          have hsl3 : SL w2 w.heap.size 42 1 (.slice A2 (k + 1) c2) (k + 1) (wcells (k + 1) (Wf l)).toList := by
            rw [wcells_snoc, HW.out]
            exact hsl2
          have HS3 := Lib.hid hsl3
          have HB2 := Lib.hid hb2
          clear hsl2 hsl3 hgr2 hob2 HSA hb2
          go_wp2_with fail
          go_roundw
          case rel => exact ⟨k + 1, by go_num, by omega, by omega, A2, c2, rfl, HS3, HB2⟩
          case measure => simp [intOf]; omega
        · have hge : (80 : Int) ≤ (k : Int) := by omega
          go_wp2_with fail
          go_ret
          obtain rfl : k = 80 := by omega
          exact ⟨_, rfl, HSV.out, HO.out⟩
end Go.Proofs.Ytjdmbegmbffhfaa
