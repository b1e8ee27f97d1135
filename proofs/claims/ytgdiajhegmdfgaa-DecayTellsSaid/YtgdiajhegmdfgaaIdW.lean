/-
  The document's answer for prefix and order (signpostref03.Prefix, Cmp) in the walk. Conditions: the ids are twenty bytes.
-/
import Derived.Test.YtgdiajhegmdfgaaIdV
import Derived.Test.YtgdiajhegmdfgaaQuietL
namespace Go.Proofs.Ytgdiajhegmdfgaa
open Go.RowKit

/-- The worlds of the walk: two ids held. -/
structure PairC (w0 : World) (a b : List UInt8) (w : World) : Prop where
  a : BB 35 w w0.heap.size a
  b : BB 35 w (w0.heap.size + 1) b
  bel : Below w0.heap.size w0 w
theorem PairC.below {w0 w w' : World} {a b : List UInt8} (h : PairC w0 a b w) (hb : Below w.heap.size w w') : PairC w0 a b w' := ⟨h.a.below hb, h.b.below hb, h.bel.trans (hb.mono h.bel.size)⟩
theorem PairC.drew {w0 w : World} {a b : List UInt8} (h : PairC w0 a b w) : PairC w0 a b w.drew := ⟨h.a, h.b, below_drewN h.bel 1⟩
theorem PairC.start (w : World) (a b : List UInt8) : PairC w a b ((w.alloc (.cells (bytesV a).toArray 35)).alloc (.cells (bytesV b).toArray 35)) := ⟨BB.alloc (l := a) (heap_alloc_new _ _) _, heap_alloc2_new _ _ _, ((Below.refl _ _).alloc (Nat.le_refl _) _).alloc (by simp) _⟩
theorem bitN_eq (a b : List UInt8) (n : Nat) : bitN a n = bitN b n ↔ bitB a n = bitB b n := by
  unfold bitN
  cases bitB a n <;> cases bitB b n <;> simp

set_option maxRecDepth 100000 in
set_option maxHeartbeats 4000000 in
theorem ref_Prefix (a b : List UInt8) (ha : a.length = 20) (hb : b.length = 20) (w : World) :
    Calls Try.prog 71 #[.agg (bytesV a).toArray, .agg (bytesV b).toArray] w fun e w' => e = .returned (.int .i64 (prefB (xorB a b) : Int)) ∧ Below w.heap.size w w' := by
  have sa := bytes_size ha
  have sb := bytes_size hb
  have haA : Hid (IsAgg Try.prog 35 (bytesV a).length) := Lib.hid (by rw [bytes_len ha]; exact aggR3)
  have haB : Hid (IsAgg Try.prog 35 (bytesV b).length) := Lib.hid (by rw [bytes_len hb]; exact aggR3)
  have hs := PairC.start w a b
  have HS := Lib.hid hs
  have HF := Lib.hid (pref_first a b (by omega))
  have HLA := Lib.hid ha
  have HLB := Lib.hid hb
  clear hs
  obtain ⟨p, hp⟩ : ∃ p, prefB (xorB a b) = p := ⟨_, rfl⟩
  rw [hp]
  rw [hp] at HF
  clear hp
  go_enter Try.func71, Try.ntmps71
  go_wp2_with fail
  generalize ((w.alloc (.cells (bytesV a).toArray 35)).alloc (.cells (bytesV b).toArray 35)) = W2 at *
  go_loopw [5] (fun v wr => ∃ k : Nat, v = .int .i64 k ∧ k ≤ 160 ∧ Hid (∀ j, j < k → bitB a j = bitB b j) ∧ Hid (PairC w a b wr)) (fun v _ => 160 - (intOf v).toNat)
  case atStart => exact ⟨0, rfl, by omega, Lib.hid (fun j hj => by omega), HS⟩
  case round =>
    clear HS
    obtain ⟨k, rfl, hk, HZ, HC⟩ := hrel
    by_cases hlt : k < 160
    · have hk5 : (k : Int) < 160 := by omega
      have HG : Hid (∀ (l : List UInt8), l.length = 20 → ∀ w, Calls Try.prog 72 #[.agg (bytesV l).toArray, .int .i64 (k : Int)] w fun e w' => e = .returned (.int .i64 (bitN l k)) ∧ Below w.heap.size w w') := Lib.hid fun l hl w => by
        have h := ref_Bit l hl (k : Int) (by omega) (by omega) w
        rwa [bitZ_in l k hlt] at h
      have hiff := bitN_eq a b k
      by_cases hbit : bitB a k = bitB b k
      · have heq := hiff.2 hbit
        have HBT := Lib.hid hbit
        clear hiff hbit
        go_wp2_with fail
        refine wp_region_QL (PairC w a b) (by kernel_rfl) (by kernel_rfl) HC.out.drew ?_
        repeat (first
          | (refine QL.load (by rfl) _ _ rfl _ rfl (bytesV a) (fun w h => h.a.row) haA.out ?_)
          | (refine QL.load (by rfl) _ _ rfl _ rfl (bytesV b) (fun w h => h.b.row) haB.out ?_)
          | (refine QL.step (fun K hK => ?_); go_simp
             first
               | (refine hK _ ?_; clear hK K)
               | (apply Exists.intro
                  refine ⟨fun w hw => ?_, hK _ ?_⟩
                  first
                    | with_reducible rfl
                    | (go_at_call 72; refine (HG.out _ (by first | exact HLA.out | exact HLB.out) _).mono ?_; rintro e w' ⟨rfl, hbx⟩; exact ⟨rfl, PairC.below hw hbx⟩)
                  clear hK K)))
        refine QL.nil ?_
        intro w2 hC2
        have HC2 := Lib.hid hC2
        clear hC2
        go_wp2_with fail
        go_roundw
        case rel => exact ⟨k + 1, by go_num, by omega, Lib.hid (fun j hj => by by_cases h : j = k; exact h ▸ HBT.out; exact HZ.out j (by omega)), HC2⟩
        case measure => simp [intOf]; omega
      · have hne : (bitN a k == bitN b k) = false := beq_false_of_ne fun h => hbit (hiff.1 h)
        have hpk : p = k := HF.out k (by have := HLA.out; omega) HZ.out (.inr hbit)
        have HPK := Lib.hid hpk
        clear hiff hbit hpk
        go_wp2_with fail
        refine wp_region_QL (PairC w a b) (by kernel_rfl) (by kernel_rfl) HC.out.drew ?_
        repeat (first
          | (refine QL.load (by rfl) _ _ rfl _ rfl (bytesV a) (fun w h => h.a.row) haA.out ?_)
          | (refine QL.load (by rfl) _ _ rfl _ rfl (bytesV b) (fun w h => h.b.row) haB.out ?_)
          | (refine QL.step (fun K hK => ?_); go_simp
             first
               | (refine hK _ ?_; clear hK K)
               | (apply Exists.intro
                  refine ⟨fun w hw => ?_, hK _ ?_⟩
                  first
                    | with_reducible rfl
                    | (go_at_call 72; refine (HG.out _ (by first | exact HLA.out | exact HLB.out) _).mono ?_; rintro e w' ⟨rfl, hbx⟩; exact ⟨rfl, PairC.below hw hbx⟩)
                  clear hK K)))
        refine QL.nil ?_
        intro w2 hC2
        have HC2 := Lib.hid hC2
        clear hC2
        go_wp2_with fail
        go_ret
        exact ⟨by rw [HPK.out]; first | done | rfl, HC2.out.bel⟩
    · obtain rfl : k = 160 := by omega
      have hpk : p = 160 := HF.out 160 (by have := HLA.out; omega) HZ.out (.inl (by have := HLA.out; omega))
      have HPK := Lib.hid hpk
      have hge : decide (((160 : Nat) : Int) < 160) = false := rfl
      clear hpk
      go_wp2_with fail
      have HG : Hid (∀ (l : List UInt8), l.length = 20 → ∀ w : World, True) := Lib.hid fun _ _ _ => trivial
      refine wp_region_QL (PairC w a b) (by kernel_rfl) (by kernel_rfl) HC.out.drew ?_
      repeat (first
        | (refine QL.load (by rfl) _ _ rfl _ rfl (bytesV a) (fun w h => h.a.row) haA.out ?_)
        | (refine QL.load (by rfl) _ _ rfl _ rfl (bytesV b) (fun w h => h.b.row) haB.out ?_)
        | (refine QL.step (fun K hK => ?_); go_simp
           first
             | (refine hK _ ?_; clear hK K)
             | (apply Exists.intro
                refine ⟨fun w hw => ?_, hK _ ?_⟩
                first
                  | with_reducible rfl
                  -- (go_at_call 72; refine (HG.out _ (by first | exact HLA.out | exact HLB.out) _).mono ?_; rintro e w' ⟨rfl, hbx⟩; exact ⟨rfl, PairC.below hw hbx⟩)
                clear hK K)))
      refine QL.nil ?_
      intro w2 hC2
      have HC2 := Lib.hid hC2
      clear hC2
      go_wp2_with fail
      go_ret
      exact ⟨by rw [HPK.out]; first | done | rfl, HC2.out.bel⟩

set_option maxRecDepth 100000 in
set_option maxHeartbeats 4000000 in
theorem ref_Cmp (a b : List UInt8) (ha : a.length = 20) (hb : b.length = 20) (w : World) :
    Calls Try.prog 46 #[.agg (bytesV a).toArray, .agg (bytesV b).toArray] w fun e w' => e = .returned (.int .i64 (Lib.compareBytes a b)) ∧ Below w.heap.size w w' := by
  have sa := bytes_size ha
  have sb := bytes_size hb
  have haA : Hid (IsAgg Try.prog 35 (bytesV a).length) := Lib.hid (by rw [bytes_len ha]; exact aggR3)
  have haB : Hid (IsAgg Try.prog 35 (bytesV b).length) := Lib.hid (by rw [bytes_len hb]; exact aggR3)
  have hs := PairC.start w a b
  have HS := Lib.hid hs
  have hcb := cmp_bits a b (by omega)
  rw [ha] at hcb
  have hple := prefB_le (xorB a b)
  rw [xorB_length a b (by omega), ha] at hple
  have HP := Lib.hid (fun w => ref_Prefix a b ha hb w)
  obtain ⟨c, hc⟩ : ∃ c, Lib.compareBytes a b = c := ⟨_, rfl⟩
  rw [hc] at hcb ⊢
  have HLA := Lib.hid ha
  have HLB := Lib.hid hb
  generalize prefB (xorB a b) = p at *
  clear hs hc
  by_cases hp : p = 160
  · subst hp
    rw [if_pos rfl] at hcb
    subst hcb
    go_enter Try.func46, Try.ntmps46
    go_wp2_with (first
      | refine wpList_load_agg (o := ⟨some 6, _, _, _, _, none⟩) rfl _ (.tmp 2) rfl _ rfl (bytesV a) HS.out.a.row haA.out ?_
      | refine wpList_load_agg (o := ⟨some 7, _, _, _, _, none⟩) rfl _ (.tmp 3) rfl _ rfl (bytesV b) HS.out.b.row haB.out ?_)
    refine (HP.out _).mono ?_; rintro e w3 ⟨rfl, hb3⟩
    have HC := Lib.hid (HS.out.below hb3)
    clear hb3 HS
    go_wp2_with fail
    go_ret
    exact ⟨rfl, HC.out.bel⟩
  · have hlt : p < 160 := by omega
    rw [if_neg (by omega)] at hcb
    have hpne : (p : Int) ≠ 160 := by omega
    have HG : Hid (∀ (l : List UInt8), l.length = 20 → ∀ w, Calls Try.prog 72 #[.agg (bytesV l).toArray, .int .i64 (p : Int)] w fun e w' => e = .returned (.int .i64 (bitN l p)) ∧ Below w.heap.size w w') := Lib.hid fun l hl w => by
      have h := ref_Bit l hl (p : Int) (by omega) (by omega) w
      rwa [bitZ_in l p hlt] at h
    have u0 : 0 ≤ bitN a p ∧ bitN a p ≤ 1 := by unfold bitN; split <;> omega
    have v0 : 0 ≤ bitN b p ∧ bitN b p ≤ 1 := by unfold bitN; split <;> omega
    have hw1 : IntKind.i64.wrap (bitN a p - bitN b p) = c := by rw [IntKind.wrap_i64, hcb]; omega
    have HCB := Lib.hid hcb
    clear hcb u0 v0
    go_enter Try.func46, Try.ntmps46
    go_wp2_with (first
      | refine wpList_load_agg (o := ⟨some 6, _, _, _, _, none⟩) rfl _ (.tmp 2) rfl _ rfl (bytesV a) HS.out.a.row haA.out ?_
      | refine wpList_load_agg (o := ⟨some 7, _, _, _, _, none⟩) rfl _ (.tmp 3) rfl _ rfl (bytesV b) HS.out.b.row haB.out ?_)
    refine (HP.out _).mono ?_; rintro e w3 ⟨rfl, hb3⟩
    have HC := Lib.hid (HS.out.below hb3)
    clear hb3 HS
    go_wp2_with fail
    refine wp_region_QL (PairC w a b) (by kernel_rfl) (by kernel_rfl) HC.out.drew ?_
    repeat (first
      | (refine QL.load (by rfl) _ _ rfl _ rfl (bytesV a) (fun w h => h.a.row) haA.out ?_)
      | (refine QL.load (by rfl) _ _ rfl _ rfl (bytesV b) (fun w h => h.b.row) haB.out ?_)
      | (refine QL.step (fun K hK => ?_); go_simp
         first
           | (refine hK _ ?_; clear hK K)
           | (apply Exists.intro
              refine ⟨fun w hw => ?_, hK _ ?_⟩
              first
                | with_reducible rfl
                | (go_at_call 72; refine (HG.out _ (by first | exact HLA.out | exact HLB.out) _).mono ?_; rintro e w' ⟨rfl, hbx⟩; exact ⟨rfl, PairC.below hw hbx⟩)
              clear hK K)))
    refine QL.nil ?_
    intro w2 hC2
    have HC2 := Lib.hid hC2
    clear hC2
    go_wp2_with fail
    go_ret
    exact ⟨rfl, HC2.out.bel⟩
end Go.Proofs.Ytgdiajhegmdfgaa
