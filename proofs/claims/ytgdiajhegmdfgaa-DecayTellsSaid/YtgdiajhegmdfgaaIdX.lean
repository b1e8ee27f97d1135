/-
  The document's answer for distance and the next id (signpostref03.Xor, Next) in the walk. Conditions: the ids are twenty bytes.
-/
import Derived.Test.YtgdiajhegmdfgaaIdV
import Derived.Test.YtgdiajhegmdfgaaQuietL
namespace Go.Proofs.Ytgdiajhegmdfgaa
open Go.RowKit

theorem bitN_eqx (a b : List UInt8) (n : Nat) : bitN a n = bitN b n ↔ bitB a n = bitB b n := by
  unfold bitN
  cases bitB a n <;> cases bitB b n <;> simp
/-- The worlds of Xor's walk. -/
structure XorC (w0 : World) (a b o : List UInt8) (w : World) : Prop where
  a : BB 35 w w0.heap.size a
  b : BB 35 w (w0.heap.size + 1) b
  z : BB 35 w (w0.heap.size + 1 + 1) (List.replicate 20 0)
  o : BB 35 w (w0.heap.size + 1 + 1 + 1) o
  bel : Below w0.heap.size w0 w
theorem XorC.below {w0 w w' : World} {a b o : List UInt8} (h : XorC w0 a b o w) (hb : Below w.heap.size w w') : XorC w0 a b o w' := ⟨h.a.below hb, h.b.below hb, h.z.below hb, h.o.below hb, h.bel.trans (hb.mono h.bel.size)⟩
theorem XorC.drew {w0 w : World} {a b o : List UInt8} (h : XorC w0 a b o w) : XorC w0 a b o w.drew := ⟨h.a, h.b, h.z, h.o, below_drewN h.bel 1⟩
theorem XorC.start (w : World) (a b : List UInt8) : XorC w a b (List.replicate 20 0) ((((w.alloc (.cells (bytesV a).toArray 35)).alloc (.cells (bytesV b).toArray 35)).alloc (.cells #[.int .u8 0, .int .u8 0, .int .u8 0, .int .u8 0, .int .u8 0, .int .u8 0, .int .u8 0, .int .u8 0, .int .u8 0, .int .u8 0, .int .u8 0, .int .u8 0, .int .u8 0, .int .u8 0, .int .u8 0, .int .u8 0, .int .u8 0, .int .u8 0, .int .u8 0, .int .u8 0] 35)).alloc (.cells #[.int .u8 0, .int .u8 0, .int .u8 0, .int .u8 0, .int .u8 0, .int .u8 0, .int .u8 0, .int .u8 0, .int .u8 0, .int .u8 0, .int .u8 0, .int .u8 0, .int .u8 0, .int .u8 0, .int .u8 0, .int .u8 0, .int .u8 0, .int .u8 0, .int .u8 0, .int .u8 0] 35)) := by
  have h3 : BB 35 (((w.alloc (.cells (bytesV a).toArray 35)).alloc (.cells (bytesV b).toArray 35)).alloc (.cells #[.int .u8 0, .int .u8 0, .int .u8 0, .int .u8 0, .int .u8 0, .int .u8 0, .int .u8 0, .int .u8 0, .int .u8 0, .int .u8 0, .int .u8 0, .int .u8 0, .int .u8 0, .int .u8 0, .int .u8 0, .int .u8 0, .int .u8 0, .int .u8 0, .int .u8 0, .int .u8 0] 35)) (w.heap.size + 1 + 1) (List.replicate 20 0) := by
    have := heap_alloc_new ((w.alloc (.cells (bytesV a).toArray 35)).alloc (.cells (bytesV b).toArray 35)) (.cells #[.int .u8 0, .int .u8 0, .int .u8 0, .int .u8 0, .int .u8 0, .int .u8 0, .int .u8 0, .int .u8 0, .int .u8 0, .int .u8 0, .int .u8 0, .int .u8 0, .int .u8 0, .int .u8 0, .int .u8 0, .int .u8 0, .int .u8 0, .int .u8 0, .int .u8 0, .int .u8 0] 35)
    rw [World.size_alloc, World.size_alloc] at this
    exact this
  have h4 : BB 35 ((((w.alloc (.cells (bytesV a).toArray 35)).alloc (.cells (bytesV b).toArray 35)).alloc (.cells #[.int .u8 0, .int .u8 0, .int .u8 0, .int .u8 0, .int .u8 0, .int .u8 0, .int .u8 0, .int .u8 0, .int .u8 0, .int .u8 0, .int .u8 0, .int .u8 0, .int .u8 0, .int .u8 0, .int .u8 0, .int .u8 0, .int .u8 0, .int .u8 0, .int .u8 0, .int .u8 0] 35)).alloc (.cells #[.int .u8 0, .int .u8 0, .int .u8 0, .int .u8 0, .int .u8 0, .int .u8 0, .int .u8 0, .int .u8 0, .int .u8 0, .int .u8 0, .int .u8 0, .int .u8 0, .int .u8 0, .int .u8 0, .int .u8 0, .int .u8 0, .int .u8 0, .int .u8 0, .int .u8 0, .int .u8 0] 35)) (w.heap.size + 1 + 1 + 1) (List.replicate 20 0) := by
    have := heap_alloc_new (((w.alloc (.cells (bytesV a).toArray 35)).alloc (.cells (bytesV b).toArray 35)).alloc (.cells #[.int .u8 0, .int .u8 0, .int .u8 0, .int .u8 0, .int .u8 0, .int .u8 0, .int .u8 0, .int .u8 0, .int .u8 0, .int .u8 0, .int .u8 0, .int .u8 0, .int .u8 0, .int .u8 0, .int .u8 0, .int .u8 0, .int .u8 0, .int .u8 0, .int .u8 0, .int .u8 0] 35)) (.cells #[.int .u8 0, .int .u8 0, .int .u8 0, .int .u8 0, .int .u8 0, .int .u8 0, .int .u8 0, .int .u8 0, .int .u8 0, .int .u8 0, .int .u8 0, .int .u8 0, .int .u8 0, .int .u8 0, .int .u8 0, .int .u8 0, .int .u8 0, .int .u8 0, .int .u8 0, .int .u8 0] 35)
    rw [World.size_alloc, World.size_alloc, World.size_alloc] at this
    exact this
  exact ⟨BB.alloc (BB.alloc (BB.alloc (l := a) (heap_alloc_new _ _) _) _) _, BB.alloc (BB.alloc (l := b) (heap_alloc2_new _ _ _) _) _, BB.alloc h3 _, h4,
    ((((Below.refl _ _).alloc (Nat.le_refl _) _).alloc (by simp) _).alloc (by simp; omega) _).alloc (by simp; omega) _⟩
theorem XorC.set_ {w0 w : World} {a b o : List UInt8} (h : XorC w0 a b o w) (o' : List UInt8) : XorC w0 a b o' (w.setRow (w0.heap.size + 1 + 1 + 1) (bytesV o').toArray) :=
  have on := Only.setRow w (w0.heap.size + 1 + 1 + 1) (bytesV o').toArray
  ⟨h.a.far (S := (· = w0.heap.size + 1 + 1 + 1)) on (by omega), h.b.far (S := (· = w0.heap.size + 1 + 1 + 1)) on (by omega), h.z.far (S := (· = w0.heap.size + 1 + 1 + 1)) on (by omega), h.o.setRow o', h.bel.trans (Only.below on h.bel.size fun k hk he => by omega)⟩

set_option maxRecDepth 100000 in
set_option maxHeartbeats 8000000 in
theorem ref_Xor (a b : List UInt8) (ha : a.length = 20) (hb : b.length = 20) (w : World) :
    Calls Try.prog 48 #[.agg (bytesV a).toArray, .agg (bytesV b).toArray] w fun e w' => e = .returned (.agg (bytesV (xorB a b)).toArray) ∧ Below w.heap.size w w' := by
  have sa := bytes_size ha
  have sb := bytes_size hb
  have haA : Hid (IsAgg Try.prog 35 (bytesV a).length) := Lib.hid (by rw [bytes_len ha]; exact aggR3)
  have haB : Hid (IsAgg Try.prog 35 (bytesV b).length) := Lib.hid (by rw [bytes_len hb]; exact aggR3)
  have HS := Lib.hid (XorC.start w a b)
  have hall := xorTo_all a b (by omega)
  rw [ha] at hall
  obtain ⟨X, hX⟩ : ∃ X, xorB a b = X := ⟨_, rfl⟩
  rw [hX] at hall ⊢
  have HALL := Lib.hid hall
  have h0 : xorTo a b 0 = List.replicate 20 0 := by rw [xorTo, ha]
  have H0 := Lib.hid h0
  have HLA := Lib.hid ha
  have HLB := Lib.hid hb
  clear hX hall h0
  go_enter Try.func48, Try.ntmps48
  go_wp2_with fail
  generalize ((((w.alloc (.cells (bytesV a).toArray 35)).alloc (.cells (bytesV b).toArray 35)).alloc (.cells #[.int .u8 0, .int .u8 0, .int .u8 0, .int .u8 0, .int .u8 0, .int .u8 0, .int .u8 0, .int .u8 0, .int .u8 0, .int .u8 0, .int .u8 0, .int .u8 0, .int .u8 0, .int .u8 0, .int .u8 0, .int .u8 0, .int .u8 0, .int .u8 0, .int .u8 0, .int .u8 0] 35)).alloc (.cells #[.int .u8 0, .int .u8 0, .int .u8 0, .int .u8 0, .int .u8 0, .int .u8 0, .int .u8 0, .int .u8 0, .int .u8 0, .int .u8 0, .int .u8 0, .int .u8 0, .int .u8 0, .int .u8 0, .int .u8 0, .int .u8 0, .int .u8 0, .int .u8 0, .int .u8 0, .int .u8 0] 35)) = W2 at *
  go_loopw [6] (fun v wr => ∃ k : Nat, v = .int .i64 k ∧ k ≤ 160 ∧ Hid (XorC w a b (xorTo a b k) wr)) (fun v _ => 160 - (intOf v).toNat)
  case atStart => exact ⟨0, rfl, by omega, by rw [H0.out]; exact HS⟩
  case round =>
    clear HS
    obtain ⟨k, rfl, hk, HC⟩ := hrel
    by_cases hlt : k < 160
    · have hk5 : (k : Int) < 160 := by omega
      have HG : Hid (∀ (l : List UInt8), l.length = 20 → ∀ w, Calls Try.prog 72 #[.agg (bytesV l).toArray, .int .i64 (k : Int)] w fun e w' => e = .returned (.int .i64 (bitN l k)) ∧ Below w.heap.size w w') := Lib.hid fun l hl w => by
        have h := ref_Bit l hl (k : Int) (by omega) (by omega) w
        rwa [bitZ_in l k hlt] at h
      have hol : (xorTo a b k).length = 20 := by rw [xorTo_length]; exact HLA.out
      have HW := Lib.hid (fun w => ref_With (xorTo a b k) hol (k : Int) 1 (by omega) (by omega) w)
      have haO : Hid (IsAgg Try.prog 35 (bytesV (xorTo a b k)).length) := Lib.hid (by rw [bytes_len hol]; exact aggR3)
      have hiff := bitN_eqx a b k
      have hnx : xorTo a b (k + 1) = if bitB a k = bitB b k then xorTo a b k else withZ (xorTo a b k) (k : Int) 1 := by
        rw [xorTo, withZ_in _ k 1 hlt]; rfl
      by_cases hbit : bitB a k = bitB b k
      · have heq := hiff.2 hbit
        rw [if_pos hbit] at hnx
        have HNX := Lib.hid hnx
        clear hiff hbit hnx HW
        go_wp2_with fail
        refine wp_region_QL (XorC w a b (xorTo a b k)) (by kernel_rfl) (by kernel_rfl) HC.out.drew ?_
        repeat (first
          | (refine QL.load (by rfl) _ _ rfl _ rfl (bytesV a) (fun w h => XorC.a h |>.row) haA.out ?_)
          | (refine QL.load (by rfl) _ _ rfl _ rfl (bytesV b) (fun w h => XorC.b h |>.row) haB.out ?_)
          | (refine QL.step (fun K hK => ?_); go_simp
             first
               | (refine hK _ ?_; clear hK K)
               | (apply Exists.intro
                  refine ⟨fun w hw => ?_, hK _ ?_⟩
                  first
                    | with_reducible rfl
                    | (go_at_call 72; refine (HG.out _ (by first | exact HLA.out | exact HLB.out) _).mono ?_; rintro e w' ⟨rfl, hbx⟩; exact ⟨rfl, XorC.below hw hbx⟩)
                  clear hK K)))
        refine QL.nil ?_
        intro w2 hC2
        have HC2 := Lib.hid hC2
        clear hC2
        go_wp2_with fail
        go_roundw
        case rel => exact ⟨k + 1, by go_num, by omega, by rw [HNX.out]; exact HC2⟩
        case measure => simp [intOf]; omega
      · have hne : (bitN a k != bitN b k) = true := bne_iff_ne.2 fun h => hbit (hiff.1 h)
        rw [if_neg hbit] at hnx
        have hrl : (withZ (xorTo a b k) (k : Int) 1).length = 20 := by rw [withZ_length, hol]
        generalize hR : withZ (xorTo a b k) (k : Int) 1 = R at *
        have HNX := Lib.hid hnx
        have HRL := Lib.hid hrl
        clear hiff hbit hnx hR hrl
        go_wp2_with fail
        refine wp_region_QL (XorC w a b (xorTo a b k)) (by kernel_rfl) (by kernel_rfl) HC.out.drew ?_
        repeat (first
          | (refine QL.load (by rfl) _ _ rfl _ rfl (bytesV a) (fun w h => XorC.a h |>.row) haA.out ?_)
          | (refine QL.load (by rfl) _ _ rfl _ rfl (bytesV b) (fun w h => XorC.b h |>.row) haB.out ?_)
          | (refine QL.step (fun K hK => ?_); go_simp
             first
               | (refine hK _ ?_; clear hK K)
               | (apply Exists.intro
                  refine ⟨fun w hw => ?_, hK _ ?_⟩
                  first
                    | with_reducible rfl
                    | (go_at_call 72; refine (HG.out _ (by first | exact HLA.out | exact HLB.out) _).mono ?_; rintro e w' ⟨rfl, hbx⟩; exact ⟨rfl, XorC.below hw hbx⟩)
                  clear hK K)))
        refine QL.nil ?_
        intro w2 hC2
        have HC2 := Lib.hid hC2
        clear hC2
        go_wp2_with (refine wpList_load_agg (o := ⟨some 18, _, _, _, _, none⟩) rfl _ (.tmp 5) rfl _ rfl (bytesV (xorTo a b k)) HC2.out.o.row haO.out ?_)
        refine (HW.out _).mono ?_; rintro e w3 ⟨rfl, hb3⟩
        have HC3 := Lib.hid (HC2.out.below hb3)
        clear hb3
        go_wp2_with (refine wpList_store_row (o := ⟨none, _, _, _, _, _⟩) rfl _ (.tmp 5) (.tmp 20) rfl (w.heap.size + 1 + 1 + 1) rfl (bytesV R) rfl _ _ HC3.out.o 20 (by kernel_rfl) (bytes_len HRL.out) (bytes_size hol) (bytesV_one _) ?_)
        go_roundw
        case rel => exact ⟨k + 1, by go_num, by omega, by rw [HNX.out]; exact Lib.hid (HC3.out.set_ R)⟩
        case measure => simp [intOf]; omega
    · have hk160 : k = 160 := by omega
      have hge : ¬ (k : Int) < 160 := by omega
      rw [hk160, show 160 = 8 * 20 from rfl, HALL.out] at HC
      have hxl : X.length = 20 := by rw [← HALL.out, xorTo_length]; exact HLA.out
      have HXL := Lib.hid hxl
      have haX : Hid (IsAgg Try.prog 35 (bytesV X).length) := Lib.hid (by rw [bytes_len hxl]; exact aggR3)
      have HSZ : Hid ((Try.prog.info? 35).map (·.size) = some (bytesV X).toArray.size) := Lib.hid (by rw [bytes_size hxl]; kernel_rfl)
      clear hk160 hxl
      go_wp2_with (refine wpList_load_agg (o := ⟨some 21, _, _, _, _, none⟩) rfl _ (.tmp 5) rfl _ rfl (bytesV X) HC.out.o.row haX.out ?_
                   refine wpList_store_row (o := ⟨none, _, _, _, _, _⟩) rfl _ (.tmp 4) (.tmp 21) rfl (w.heap.size + 1 + 1) rfl (bytesV X) rfl _ _ HC.out.z 20 (by kernel_rfl) (bytes_len HXL.out) (bytes_size (by simp)) (bytesV_one _) ?_)
      have hw2 := BB.setRow HC.out.z X
      exact bodyPost_ret (results_cell_row Try.results48 _ _ (w.heap.size + 1 + 1) _ _ _ _ rfl hw2 Try.underlying35 rfl HSZ.out) rfl ⟨rfl, HC.out.bel.trans (Only.below (S := (· = w.heap.size + 1 + 1)) (Only.setRow _ _ _) HC.out.bel.size fun k hk => by omega)⟩
end Go.Proofs.Ytgdiajhegmdfgaa
