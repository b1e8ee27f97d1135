/-
  The walk of IdentBits. Conditions: the ids are twenty bytes; the numbers fit.
-/
import Derived.Test.YtjdmbegmbffhfaaIdW
import Derived.Test.YtjdmbegmbffhfaaIdX
import Derived.Test.YtjdmbegmbffhfaaIdY
import Derived.Test.YtjdmbegmbffhfaaIdC
import Derived.Test.YtjdmbegmbffhfaaQuietL
import Derived.BigQuiet
namespace Go.Proofs.Ytjdmbegmbffhfaa
open Go.RowKit

/-- The worlds of the walk. -/
structure BitsC (w0 : World) (s1 s2 : Nat) (a b R : List UInt8) (w : World) : Prop where
  a : BB 32 w w0.heap.size a
  b : BB 32 w (w0.heap.size + 1) b
  n : BB 32 w s1 R
  m : BB 57 w s2 R
  bel : Below w0.heap.size w0 w
theorem BitsC.below {w0 w w' : World} {s1 s2 : Nat} {a b R : List UInt8} (h : BitsC w0 s1 s2 a b R w) (hb : Below w.heap.size w w') : BitsC w0 s1 s2 a b R w' :=
  ⟨h.a.below hb, h.b.below hb, h.n.below hb, h.m.below hb, h.bel.trans (hb.mono h.bel.size)⟩
theorem BitsC.drew {w0 w : World} {s1 s2 : Nat} {a b R : List UInt8} (h : BitsC w0 s1 s2 a b R w) : BitsC w0 s1 s2 a b R w.drew := ⟨h.a, h.b, h.n, h.m, below_drewN h.bel 1⟩

theorem neq_R3 (w : World) (xs : List UInt8) (hx : xs.length = 20) : (binOp .neq 57 (.agg (bytesV xs).toArray) (.agg (bytesV xs).toArray)).run Try.prog w = .ok (.bool false) w := by
  have h := (info_parts infoByte).elim fun _ hi => neq_bytes w 20 Try.underlying57 Try.underlying5 plainByte cellsByte hi.1 xs xs hx hx
  simpa using h
theorem eql_R3 (w : World) (xs : List UInt8) (hx : xs.length = 20) : (binOp .eql 57 (.agg (bytesV xs).toArray) (.agg (bytesV xs).toArray)).run Try.prog w = .ok (.bool true) w := by
  have h := (info_parts infoByte).elim fun _ hi => eql_bytes w 20 Try.underlying57 Try.underlying5 plainByte cellsByte hi.1 xs xs hx hx
  simpa using h

set_option maxRecDepth 100000 in
set_option maxHeartbeats 8000000 in
theorem Bits_walk1 (a b R : List UInt8) (ok : Bool) (i bit : Int) (ha : a.length = 20) (hb : b.length = 20) (hR : R.length = 20) (hi0 : -9223372036854775808 ≤ i) (hi1 : i ≤ 9223372036854775807)
    (hN : ∀ w, Calls Try.prog 37 #[.agg (bytesV a).toArray] w fun e w' => e = .returned (.tuple #[.agg (bytesV R).toArray, .bool ok]) ∧ Below w.heap.size w w')
    (hM : ∀ w, Calls Try.prog 38 #[.agg (bytesV a).toArray] w fun e w' => e = .returned (.tuple #[.agg (bytesV R).toArray, .bool ok]) ∧ Below w.heap.size w w')
    (w : World) :
    Calls Try.prog 9 #[.agg (bytesV a).toArray, .agg (bytesV b).toArray, .int .i64 i, .int .i64 bit] w fun e w' => e = .returned (.bool true) ∧ Below w.heap.size w w' := by
  have sa := bytes_size ha
  have sb := bytes_size hb
  have haA : Hid (IsAgg Try.prog 32 (bytesV a).length) := Lib.hid (by rw [bytes_len ha]; exact aggID)
  have haB : Hid (IsAgg Try.prog 32 (bytesV b).length) := Lib.hid (by rw [bytes_len hb]; exact aggID)
  have haN : Hid (IsAgg Try.prog 32 (bytesV R).length) := Lib.hid (by rw [bytes_len hR]; exact aggID)
  have haM : Hid (IsAgg Try.prog 57 (bytesV R).length) := Lib.hid (by rw [bytes_len hR]; exact aggR3)
  have i1 : Hid (BB 32 ((w.alloc (.cells (bytesV a).toArray 32)).alloc (.cells (bytesV b).toArray 32)) w.heap.size a) := Lib.hid (BB.alloc (l := a) (heap_alloc_new _ _) _)
  have i2 : Hid (BB 32 ((w.alloc (.cells (bytesV a).toArray 32)).alloc (.cells (bytesV b).toArray 32)) (w.heap.size + 1) b) := Lib.hid (heap_alloc2_new _ _ _)
  have i5 : Hid (Below w.heap.size w ((w.alloc (.cells (bytesV a).toArray 32)).alloc (.cells (bytesV b).toArray 32))) := Lib.hid (((Below.refl _ _).alloc (Nat.le_refl _) _).alloc (by simp) _)
  have HN := Lib.hid hN
  have HM := Lib.hid hM
  have hxl : (xorB a b).length = 20 := by rw [xorB_length a b (by omega), ha]
  have hwl : (withZ a i bit).length = 20 := by rw [withZ_length, ha]
  have HIB := Lib.hid (fun w => ident_Bit a ha i hi0 hi1 w)
  have HRB := Lib.hid (fun w => ref_Bit a ha i hi0 hi1 w)
  have HIW := Lib.hid (fun w => ident_With a ha i bit hi0 hi1 w)
  have HRW := Lib.hid (fun w => ref_With a ha i bit hi0 hi1 w)
  have HIX := Lib.hid (fun w => ident_Xor a b ha hb w)
  have HRX := Lib.hid (fun w => ref_Xor a b ha hb w)
  have HIC := Lib.hid (fun w => ident_Cmp a b ha hb w)
  have HRC := Lib.hid (fun w => ref_Cmp a b ha hb w)
  have HIP := Lib.hid (fun w => ident_Prefix a b ha hb w)
  have HRP := Lib.hid (fun w => ref_Prefix a b ha hb w)
  have HLV := Lib.hid (fun w => lives03 w)
  have HRL := Lib.hid hR
  have q1 := fun w => neq_R3 w R hR
  have q2 := fun w => neq_R3 w (withZ a i bit) hwl
  have q3 := fun w => eql_R3 w (xorB a b) hxl
  generalize bitZ a i = vb at *
  generalize withZ a i bit = vw at *
  generalize prefB (xorB a b) = vp at *
  generalize xorB a b = vx at *
  generalize Lib.compareBytes a b = vc at *
  clear hN hM hR hxl hwl
  go_enter Try.func9, Try.ntmps9
  go_wp2_with (refine wpList_load_agg (o := ⟨some 14, _, _, _, _, none⟩) rfl _ (.tmp 4) rfl _ rfl (bytesV a) i1.out.row haA.out ?_)
  generalize ((w.alloc (.cells (bytesV a).toArray 32)).alloc (.cells (bytesV b).toArray 32)) = W2 at *
  refine (HN.out _).mono ?_; rintro e w3 ⟨rfl, hb3⟩
  have k1 := Lib.hid ((i1.out.below hb3).alloc (.cells (bytesV R).toArray 32))
  have k2 := Lib.hid ((i2.out.below hb3).alloc (.cells (bytesV R).toArray 32))
  have k3 : Hid (BB 32 (w3.alloc (.cells (bytesV R).toArray 32)) w3.heap.size R) := Lib.hid (heap_alloc_new _ _)
  have b3 := i5.out.trans (hb3.mono i5.out.size)
  have k5 := Lib.hid (b3.alloc b3.size (.cells (bytesV R).toArray 32))
  clear hb3 i1 i2 i5 b3
  go_wp2_with (first
    | refine wpList_store_new (o := ⟨none, _, _, _, _, _⟩) rfl _ (.tmp 9) (.tmp 16) rfl _ _ rfl (bytesV R) rfl 20 (by kernel_rfl) (bytes_len HRL.out) rfl (bytesV_one _) ?_
    | refine wpList_load_agg (o := ⟨some 19, _, _, _, _, none⟩) rfl _ (.tmp 4) rfl _ rfl (bytesV a) k1.out.row haA.out ?_)
  generalize (w3.alloc (.cells (bytesV R).toArray 32)) = W4 at *
  generalize w3.heap.size = s1 at *
  refine (HM.out _).mono ?_; rintro e w5 ⟨rfl, hb5⟩
  have HC : Hid (BitsC w s1 w5.heap.size a b R (w5.alloc (.cells (bytesV R).toArray 57))) := Lib.hid ⟨(k1.out.below hb5).alloc _, (k2.out.below hb5).alloc _, (k3.out.below hb5).alloc _, heap_alloc_new _ _, (k5.out.trans (hb5.mono k5.out.size)).alloc (k5.out.trans (hb5.mono k5.out.size)).size _⟩
  clear hb5 k1 k2 k3 k5
  go_wp2_with (refine wpList_store_new (o := ⟨none, _, _, _, _, _⟩) rfl _ (.tmp 11) (.tmp 21) rfl _ _ rfl (bytesV R) rfl 20 (by kernel_rfl) (bytes_len HRL.out) rfl (bytesV_one _) ?_)
  generalize (w5.alloc (.cells (bytesV R).toArray 57)) = W6 at *
  generalize w5.heap.size = s2 at *
  refine wp_region_QL (BitsC w s1 s2 a b R) (by kernel_rfl) (by kernel_rfl) HC.out.drew ?_
  repeat (first
    | (refine QL.load (by rfl) _ _ rfl _ rfl (bytesV a) (fun w h => BitsC.a h |>.row) haA.out ?_)
    | (refine QL.load (by rfl) _ _ rfl _ rfl (bytesV R) (fun w h => BitsC.n h |>.row) haN.out ?_)
    | (refine QL.load (by rfl) _ _ rfl _ rfl (bytesV R) (fun w h => BitsC.m h |>.row) haM.out ?_)
    | (refine QL.step (fun K hK => ?_); go_simp
       first
         | (refine hK _ ?_; clear hK K)
         | (apply Exists.intro
            refine ⟨fun w hw => ?_, hK _ ?_⟩
            first
              | with_reducible rfl
              | (go_at_call 39; refine (HIB.out _).mono ?_; rintro e w' ⟨rfl, hbx⟩; exact ⟨rfl, BitsC.below hw hbx⟩)
              | (go_at_call 40; refine (HRB.out _).mono ?_; rintro e w' ⟨rfl, hbx⟩; exact ⟨rfl, BitsC.below hw hbx⟩)
              | (go_at_call 41; refine (HIW.out _).mono ?_; rintro e w' ⟨rfl, hbx⟩; exact ⟨rfl, BitsC.below hw hbx⟩)
              | (go_at_call 42; refine (HRW.out _).mono ?_; rintro e w' ⟨rfl, hbx⟩; exact ⟨rfl, BitsC.below hw hbx⟩)
            clear hK K)))
  refine QL.nil ?_
  intro w7 hC7
  have HC7 := Lib.hid hC7
  clear hC7 HC
  go_wp2_with fail
  refine wp_region_QL (BitsC w s1 s2 a b R) (by kernel_rfl) (by kernel_rfl) HC7.out.drew ?_
  repeat (first
    | (refine QL.load (by rfl) _ _ rfl _ rfl (bytesV a) (fun w h => BitsC.a h |>.row) haA.out ?_)
    | (refine QL.load (by rfl) _ _ rfl _ rfl (bytesV b) (fun w h => BitsC.b h |>.row) haB.out ?_)
    | (refine QL.step (fun K hK => ?_); go_simp
       first
         | (refine hK _ ?_; clear hK K)
         | (apply Exists.intro
            refine ⟨fun w hw => ?_, hK _ ?_⟩
            first
              | with_reducible rfl
              | (go_at_call 29; refine (HIX.out _).mono ?_; rintro e w' ⟨rfl, hbx⟩; exact ⟨rfl, BitsC.below hw hbx⟩)
              | (go_at_call 43; refine (HRX.out _).mono ?_; rintro e w' ⟨rfl, hbx⟩; exact ⟨rfl, BitsC.below hw hbx⟩)
              | (go_at_call 30; refine (HIC.out _).mono ?_; rintro e w' ⟨rfl, hbx⟩; exact ⟨rfl, BitsC.below hw hbx⟩)
              | (go_at_call 44; refine (HRC.out _).mono ?_; rintro e w' ⟨rfl, hbx⟩; exact ⟨rfl, BitsC.below hw hbx⟩)
              | (go_at_call 28; refine (HIP.out _).mono ?_; rintro e w' ⟨rfl, hbx⟩; exact ⟨rfl, BitsC.below hw hbx⟩)
              | (go_at_call 45; refine (HRP.out _).mono ?_; rintro e w' ⟨rfl, hbx⟩; exact ⟨rfl, BitsC.below hw hbx⟩)
              | (go_at_call 31; refine (HLV.out _).mono ?_; rintro e w' ⟨rfl, hbx⟩; exact ⟨rfl, BitsC.below hw hbx⟩)
            clear hK K)))
  refine QL.nil ?_
  intro w8 hC8
  have HC8 := Lib.hid hC8
  clear hC8 HC7
  go_wp2_with fail
  go_ret
  exact ⟨rfl, HC8.out.bel⟩

theorem Bits_walk (a b : List UInt8) (i bit : Int) (ha : a.length = 20) (hb : b.length = 20) (hi0 : -9223372036854775808 ≤ i) (hi1 : i ≤ 9223372036854775807) (w : World) :
    Calls Try.prog 9 #[.agg (bytesV a).toArray, .agg (bytesV b).toArray, .int .i64 i, .int .i64 bit] w fun e w' => e = .returned (.bool true) ∧ Below w.heap.size w w' := by
  rcases next_cases a with h | ⟨k, hk, h, h0⟩
  · exact Bits_walk1 a b (List.replicate 20 0) false i bit ha hb (by simp) hi0 hi1 (ident_Next_none a ha h) (ref_Next_none a ha h) w
  · exact Bits_walk1 a b (nextB a k) true i bit ha hb (by rw [nextB_length, ha]) hi0 hi1 (ident_Next_some a ha k hk h h0) (ref_Next_some a ha k hk h h0) w
end Go.Proofs.Ytjdmbegmbffhfaa
