/-
  ident.Xor and ident.Cmp once more, the draws told; metric.Cmp; the order that metric.by hands on. Conditions: the ids are twenty bytes.
-/
import Derived.Test.YtgdiajhegmdfgaaIdA
import Derived.Test.YtgdiajhegmdfgaaQuietL
import Derived.Test.YtgdiajhegmdfgaaMetP
import Derived.Shelf.SlSortCmp.WholeK
import Derived.BigQuiet
namespace Go.Proofs.Ytgdiajhegmdfgaa
open Go.RowKit

/-- Memory has grown, some draws are done. -/
structure Grew (w w' : World) : Prop where
  bel : Below w.heap.size w w'
  drn : w.drawn ≤ w'.drawn
theorem Grew.trans {a b c : World} (h : Grew a b) (k : Grew b c) : Grew a c := ⟨h.bel.trans (k.bel.mono h.bel.size), Nat.le_trans h.drn k.drn⟩
theorem Grew.refl (w : World) : Grew w w := ⟨Below.refl _ _, Nat.le_refl _⟩
theorem Grew.alloc {a w : World} (h : Grew a w) (o : Obj) : Grew a (w.alloc o) := ⟨h.bel.alloc h.bel.size _, h.drn⟩
theorem Grew.grow {w w' : World} (h : Grew w w') : ∃ q os, w' = Go.Sort.grow (w.drewN q) os := by
  refine ⟨w'.drawn - w.drawn, w'.heap.extract w.heap.size w'.heap.size, ?_⟩
  obtain ⟨⟨h1, h2, h3, h4, h5⟩, h6⟩ := h
  have hh : w'.heap = w.heap ++ w'.heap.extract w.heap.size w'.heap.size := by
    apply Array.ext_getElem?
    intro i
    rw [Array.getElem?_append]
    by_cases hi : i < w.heap.size
    · rw [if_pos hi, h5 i hi]
    · rw [if_neg hi, Array.getElem?_extract]
      by_cases hj : i < w'.heap.size
      · rw [if_pos (by omega), show w.heap.size + (i - w.heap.size) = i by omega]
      · rw [if_neg (by omega), Array.getElem?_eq_none (by omega)]
  have hd : w'.drawn = w.drawn + (w'.drawn - w.drawn) := by omega
  cases w'
  cases w
  simp only at h1 h2 h3 hh hd
  subst h1 h2 h3
  show World.mk _ _ _ _ _ = World.mk _ _ _ _ _
  congr 1

set_option maxRecDepth 100000 in
set_option maxHeartbeats 1000000 in
theorem ident_XorG (a b : List UInt8) (ha : a.length = 20) (hb : b.length = 20) (w : World) :
    Calls Try.prog 47 #[.agg (bytesV a).toArray, .agg (bytesV b).toArray] w fun e w' => e = .returned (.agg (bytesV (xorB a b)).toArray) ∧ Grew w w' := by
  have sa := bytes_size ha
  have sb := bytes_size hb
  have la := Lib.hid (bytes_len ha)
  have lb := Lib.hid (bytes_len hb)
  have i1 : Hid (BB 34 (((w.alloc (.cells (bytesV a).toArray 34)).alloc (.cells (bytesV b).toArray 34)).alloc (.cells #[.int .u8 0, .int .u8 0, .int .u8 0, .int .u8 0, .int .u8 0, .int .u8 0, .int .u8 0, .int .u8 0, .int .u8 0, .int .u8 0, .int .u8 0, .int .u8 0, .int .u8 0, .int .u8 0, .int .u8 0, .int .u8 0, .int .u8 0, .int .u8 0, .int .u8 0, .int .u8 0] 34)) w.heap.size (mixAt a b 0)) := Lib.hid ((BB.alloc (BB.alloc (l := a) (heap_alloc_new _ _) _) _))
  have i2 : Hid (BB 34 (((w.alloc (.cells (bytesV a).toArray 34)).alloc (.cells (bytesV b).toArray 34)).alloc (.cells #[.int .u8 0, .int .u8 0, .int .u8 0, .int .u8 0, .int .u8 0, .int .u8 0, .int .u8 0, .int .u8 0, .int .u8 0, .int .u8 0, .int .u8 0, .int .u8 0, .int .u8 0, .int .u8 0, .int .u8 0, .int .u8 0, .int .u8 0, .int .u8 0, .int .u8 0, .int .u8 0] 34)) (w.heap.size + 1) b) := Lib.hid (BB.alloc (heap_alloc2_new _ _ _) _)
  have i3 : Hid (BB 34 (((w.alloc (.cells (bytesV a).toArray 34)).alloc (.cells (bytesV b).toArray 34)).alloc (.cells #[.int .u8 0, .int .u8 0, .int .u8 0, .int .u8 0, .int .u8 0, .int .u8 0, .int .u8 0, .int .u8 0, .int .u8 0, .int .u8 0, .int .u8 0, .int .u8 0, .int .u8 0, .int .u8 0, .int .u8 0, .int .u8 0, .int .u8 0, .int .u8 0, .int .u8 0, .int .u8 0] 34)) (w.heap.size + 1 + 1) (List.replicate 20 0)) := Lib.hid (by
    have := heap_alloc_new ((w.alloc (.cells (bytesV a).toArray 34)).alloc (.cells (bytesV b).toArray 34)) (.cells #[.int .u8 0, .int .u8 0, .int .u8 0, .int .u8 0, .int .u8 0, .int .u8 0, .int .u8 0, .int .u8 0, .int .u8 0, .int .u8 0, .int .u8 0, .int .u8 0, .int .u8 0, .int .u8 0, .int .u8 0, .int .u8 0, .int .u8 0, .int .u8 0, .int .u8 0, .int .u8 0] 34)
    rw [World.size_alloc, World.size_alloc] at this
    exact this)
  have i5 : Hid (Below w.heap.size w (((w.alloc (.cells (bytesV a).toArray 34)).alloc (.cells (bytesV b).toArray 34)).alloc (.cells #[.int .u8 0, .int .u8 0, .int .u8 0, .int .u8 0, .int .u8 0, .int .u8 0, .int .u8 0, .int .u8 0, .int .u8 0, .int .u8 0, .int .u8 0, .int .u8 0, .int .u8 0, .int .u8 0, .int .u8 0, .int .u8 0, .int .u8 0, .int .u8 0, .int .u8 0, .int .u8 0] 34))) := Lib.hid ((((Below.refl _ _).alloc (Nat.le_refl _) _).alloc (by simp) _).alloc (by simp; omega) _)
  have i6 : Hid (w.drawn ≤ (((w.alloc (.cells (bytesV a).toArray 34)).alloc (.cells (bytesV b).toArray 34)).alloc (.cells #[.int .u8 0, .int .u8 0, .int .u8 0, .int .u8 0, .int .u8 0, .int .u8 0, .int .u8 0, .int .u8 0, .int .u8 0, .int .u8 0, .int .u8 0, .int .u8 0, .int .u8 0, .int .u8 0, .int .u8 0, .int .u8 0, .int .u8 0, .int .u8 0, .int .u8 0, .int .u8 0] 34)).drawn) := Lib.hid (Nat.le_refl _)
  obtain ⟨X, hX⟩ : ∃ X, xorB a b = X := ⟨_, rfl⟩
  rw [hX]
  have HXD := Lib.hid hX
  clear hX
  go_enter Try.func47, Try.ntmps47
  go_wp2_with fail
  generalize (((w.alloc (.cells (bytesV a).toArray 34)).alloc (.cells (bytesV b).toArray 34)).alloc (.cells #[.int .u8 0, .int .u8 0, .int .u8 0, .int .u8 0, .int .u8 0, .int .u8 0, .int .u8 0, .int .u8 0, .int .u8 0, .int .u8 0, .int .u8 0, .int .u8 0, .int .u8 0, .int .u8 0, .int .u8 0, .int .u8 0, .int .u8 0, .int .u8 0, .int .u8 0, .int .u8 0] 34)) = W3 at *
  go_loopw [6] (fun i wr => ∃ k : Nat, i = .int .i64 k ∧ k ≤ 20 ∧ Hid (BB 34 wr w.heap.size (mixAt a b k)) ∧ Hid (BB 34 wr (w.heap.size + 1) b) ∧ Hid (BB 34 wr (w.heap.size + 1 + 1) (List.replicate 20 0)) ∧ Hid (Below w.heap.size w wr) ∧ Hid (w.drawn ≤ wr.drawn)) (fun i _ => 20 - (intOf i).toNat)
  case atStart => exact ⟨0, rfl, by omega, i1, i2, i3, i5, i6⟩
  case round =>
    clear i1 i2 i3 i5 i6
    obtain ⟨k, rfl, hk, j1, j2, j3, j5, j6⟩ := hrel
    by_cases hlt : k < 20
    · obtain ⟨x, hx⟩ : ∃ x, a[k]? = some x := ⟨a[k]'(by omega), List.getElem?_eq_getElem _⟩
      obtain ⟨y, hy⟩ : ∃ y, b[k]? = some y := ⟨b[k]'(by omega), List.getElem?_eq_getElem _⟩
      have c1 := j1.out.cell (k := k) (x := x) (by rw [mixAt_get a b (by omega), if_neg (by omega)]; exact hx)
      have c2 := j2.out.cell hy
      have hz := j1.out.free k
      have hk5 : (k : Int) < 20 := by omega
      have hxy : (xorB a b).getD k 0 = x ^^^ y := by
        unfold xorB
        rw [List.getD_eq_getElem?_getD, List.getElem?_zipWith, hx, hy]
        rfl
      have hm : mixAt a b (k + 1) = (mixAt a b k).set k (x ^^^ y) := by rw [mixAt, hxy]
      have e1 : bits .xor .u8 (x.toNat : Int) (y.toNat : Int) = ((x ^^^ y).toNat : Int) := by
        rw [u8_xor_nat _ _ x.toNat_lt y.toNat_lt, UInt8.toNat_xor]
      have HM := Lib.hid hm
      obtain ⟨z, hz2⟩ : ∃ z, x ^^^ y = z := ⟨_, rfl⟩
      rw [hz2] at e1 HM
      clear hx hy hxy hm hz2
      go_wp2_with fail
      go_still_tail 8, (by kernel_rfl)
      change wpList _ _ _ _ _ wr.drew
      go_wp2_with fail
      go_roundw
      case rel =>
        refine ⟨k + 1, by go_num, by omega, Lib.hid ?_, Lib.hid ?_, Lib.hid ?_, Lib.hid ?_, Lib.hid (Nat.le_succ_of_le j6.out)⟩
        · rw [HM.out]; exact BB.set_ (w := wr) j1.out k z
        · exact BB.far (S := (· = w.heap.size)) j2.out ((Only.set_ wr w.heap.size k (.int .u8 (z.toNat : Int))).drewN 1) (by omega)
        · exact BB.far (S := (· = w.heap.size)) j3.out ((Only.set_ wr w.heap.size k (.int .u8 (z.toNat : Int))).drewN 1) (by omega)
        · exact below_drewN (Below.setCell (p := ⟨w.heap.size, k, none⟩) j5.out (Nat.le_refl _) (.int .u8 (z.toNat : Int))) 1
      case measure => simp [intOf]; omega
    · have hk20 : k = 20 := by omega
      subst hk20
      have hma : mixAt a b 20 = X := by rw [← HXD.out, ← ha]; exact mixAt_all a b (by omega)
      have hxl : X.length = 20 := by rw [← HXD.out, xorB_length a b (by omega), ha]
      rw [hma] at j1
      have haI : IsAgg Try.prog 34 (bytesV X).length := by rw [bytes_len hxl]; exact aggID
      go_wp2_with (refine wpList_load_agg (o := ⟨some 18, _, _, _, _, _⟩) rfl _ (.tmp 2) rfl _ rfl (bytesV X) j1.out.row haI ?_
                   refine wpList_store_row (o := ⟨none, _, _, _, _, _⟩) rfl _ (.tmp 4) (.tmp 18) rfl (w.heap.size + 1 + 1) rfl (bytesV X) rfl _ _ j3.out 20 (by kernel_rfl) (bytes_len hxl) (bytes_size (by simp)) (bytesV_one _) ?_)
      have hw2 := BB.setRow j3.out X
      have hsz2 : (Try.prog.info? 34).map (·.size) = some (bytesV X).toArray.size := by rw [bytes_size hxl]; kernel_rfl
      exact bodyPost_ret (results_cell_row Try.results47 _ _ (w.heap.size + 1 + 1) _ _ _ _ rfl hw2 Try.underlying34 rfl hsz2) rfl ⟨rfl, ⟨j5.out.trans (Only.below (S := (· = w.heap.size + 1 + 1)) (Only.setRow _ _ _) j5.out.size fun k hk => by omega), j6.out⟩⟩

set_option maxRecDepth 100000 in
set_option maxHeartbeats 1000000 in
theorem ident_CmpG (a b : List UInt8) (ha : a.length = 20) (hb : b.length = 20) (w : World) :
    Calls Try.prog 43 #[.agg (bytesV a).toArray, .agg (bytesV b).toArray] w fun e w' => e = .returned (.int .i64 (Lib.compareBytes a b)) ∧ Grew w w' := by
  have sa := bytes_size ha
  have sb := bytes_size hb
  have i1 : Row ((w.alloc (.cells (bytesV a).toArray 34)).alloc (.cells (bytesV b).toArray 34)) ⟨w.heap.size, 0, none⟩ (bytesV a) := (BB.row (BB.alloc (T := 34) (l := a) (heap_alloc_new _ _) _))
  have i2 : Row ((w.alloc (.cells (bytesV a).toArray 34)).alloc (.cells (bytesV b).toArray 34)) ⟨w.heap.size + 1, 0, none⟩ (bytesV b) := (BB.row (T := 34) (l := b) (heap_alloc2_new _ _ _))
  have i5 : Hid (Below w.heap.size w ((w.alloc (.cells (bytesV a).toArray 34)).alloc (.cells (bytesV b).toArray 34))) := Lib.hid (((Below.refl _ _).alloc (Nat.le_refl _) _).alloc (by simp) _)
  have hc := bytes_Compare (((w.alloc (.cells (bytesV a).toArray 34)).alloc (.cells (bytesV b).toArray 34)).drew) _ _ a b ha hb i1 i2
  have HC := Lib.hid hc
  generalize Lib.compareBytes a b = r at *
  clear hc i1 i2
  go_enter Try.func43, Try.ntmps43
  go_wp2_with fail
  go_region_law (first
    | (go_simp; go_at_call 70; refine HC.out.mono ?_; rintro e w3 ⟨rfl, rfl⟩))
  all_goals
    go_wp2_with fail
    go_ret
    exact ⟨rfl, below_drewN i5.out 1, Nat.le_succ _⟩

/-- The worlds of metric.Cmp. -/
structure MetC (w0 : World) (t a b : List UInt8) (w : World) : Prop where
  t : BB 34 w w0.heap.size t
  a : BB 34 w (w0.heap.size + 1) a
  b : BB 34 w (w0.heap.size + 1 + 1) b
  gr : Grew w0 w
theorem MetC.grew {w0 w w' : World} {t a b : List UInt8} (h : MetC w0 t a b w) (hb : Grew w w') : MetC w0 t a b w' := ⟨h.t.below hb.bel, h.a.below hb.bel, h.b.below hb.bel, h.gr.trans hb⟩
theorem MetC.drew {w0 w : World} {t a b : List UInt8} (h : MetC w0 t a b w) : MetC w0 t a b w.drew := ⟨h.t, h.a, h.b, ⟨below_drewN h.gr.bel 1, Nat.le_succ_of_le h.gr.drn⟩⟩

set_option maxRecDepth 100000 in
set_option maxHeartbeats 1000000 in
theorem metric_Cmp (t a b : List UInt8) (ht : t.length = 20) (ha : a.length = 20) (hb : b.length = 20) (w : World) :
    Calls Try.prog 14 #[.agg (bytesV t).toArray, .agg (bytesV a).toArray, .agg (bytesV b).toArray] w fun e w' => e = .returned (.int .i64 (farC t a b)) ∧ Grew w w' := by
  have st := bytes_size ht
  have sa := bytes_size ha
  have sb := bytes_size hb
  have haT : Hid (IsAgg Try.prog 34 (bytesV t).length) := Lib.hid (by rw [bytes_len ht]; exact aggID)
  have haA : Hid (IsAgg Try.prog 34 (bytesV a).length) := Lib.hid (by rw [bytes_len ha]; exact aggID)
  have haB : Hid (IsAgg Try.prog 34 (bytesV b).length) := Lib.hid (by rw [bytes_len hb]; exact aggID)
  have HC : Hid (MetC w t a b (((w.alloc (.cells (bytesV t).toArray 34)).alloc (.cells (bytesV a).toArray 34)).alloc (.cells (bytesV b).toArray 34))) := Lib.hid ⟨BB.alloc (BB.alloc (l := t) (heap_alloc_new _ _) _) _, BB.alloc (heap_alloc2_new _ _ _) _, (by
    have := heap_alloc_new ((w.alloc (.cells (bytesV t).toArray 34)).alloc (.cells (bytesV a).toArray 34)) (.cells (bytesV b).toArray 34)
    rw [World.size_alloc, World.size_alloc] at this
    exact this), (((Grew.refl w).alloc _).alloc _).alloc _⟩
  have hxa : (xorB t a).length = 20 := by rw [xorB_length t a (by omega), ht]
  have hxb : (xorB t b).length = 20 := by rw [xorB_length t b (by omega), ht]
  have HX := Lib.hid (fun (l : List UInt8) (hl : l.length = 20) w => ident_XorG t l ht hl w)
  have HLA := Lib.hid ha
  have HLB := Lib.hid hb
  have HCM := Lib.hid (fun w => ident_CmpG (xorB t a) (xorB t b) hxa hxb w)
  unfold farC
  generalize Lib.compareBytes (xorB t a) (xorB t b) = r at *
  clear ht ha hb hxa hxb
  go_enter Try.func14, Try.ntmps14
  go_wp2_with fail
  generalize (((w.alloc (.cells (bytesV t).toArray 34)).alloc (.cells (bytesV a).toArray 34)).alloc (.cells (bytesV b).toArray 34)) = W3 at *
  refine wp_region_QL (MetC w t a b) (by kernel_rfl) (by kernel_rfl) HC.out.drew ?_
  repeat (first
    | (refine QL.load (by rfl) _ _ rfl _ rfl (bytesV t) (fun w h => MetC.t h |>.row) haT.out ?_)
    | (refine QL.load (by rfl) _ _ rfl _ rfl (bytesV a) (fun w h => MetC.a h |>.row) haA.out ?_)
    | (refine QL.load (by rfl) _ _ rfl _ rfl (bytesV b) (fun w h => MetC.b h |>.row) haB.out ?_)
    | (refine QL.step (fun K hK => ?_); go_simp
       first
         | (refine hK _ ?_; clear hK K)
         | (apply Exists.intro
            refine ⟨fun w hw => ?_, hK _ ?_⟩
            first
              | with_reducible rfl
              | (go_at_call 47; refine (HX.out _ (by first | exact HLA.out | exact HLB.out) _).mono ?_; rintro e w' ⟨rfl, hbx⟩; exact ⟨rfl, MetC.grew hw hbx⟩)
              | (go_at_call 43; refine (HCM.out _).mono ?_; rintro e w' ⟨rfl, hbx⟩; exact ⟨rfl, MetC.grew hw hbx⟩)
            clear hK K)))
  refine QL.nil ?_
  intro w7 hC7
  have HC7 := Lib.hid hC7
  clear hC7 HC
  go_wp2_with fail
  go_ret
  exact ⟨rfl, HC7.out.gr⟩

set_option maxRecDepth 100000 in
set_option maxHeartbeats 1000000 in
/-- What metric.by hands on, called. -/
theorem metric_by1 (t a b : List UInt8) (ht : t.length = 20) (ha : a.length = 20) (hb : b.length = 20) (g : Nat) (w : World) (hg : BB 34 w g t) :
    Calls Try.prog 76 #[.agg (bytesV a).toArray, .agg (bytesV b).toArray, .pointer (some ⟨g, 0, none⟩)] w fun e w' => e = .returned (.int .i64 (farC t a b)) ∧ Grew w w' := by
  have sa := bytes_size ha
  have sb := bytes_size hb
  have haT : Hid (IsAgg Try.prog 34 (bytesV t).length) := Lib.hid (by rw [bytes_len ht]; exact aggID)
  have haA : Hid (IsAgg Try.prog 34 (bytesV a).length) := Lib.hid (by rw [bytes_len ha]; exact aggID)
  have haB : Hid (IsAgg Try.prog 34 (bytesV b).length) := Lib.hid (by rw [bytes_len hb]; exact aggID)
  have i1 : Hid (BB 34 ((w.alloc (.cells (bytesV a).toArray 34)).alloc (.cells (bytesV b).toArray 34)) w.heap.size a) := Lib.hid (BB.alloc (l := a) (heap_alloc_new _ _) _)
  have i2 : Hid (BB 34 ((w.alloc (.cells (bytesV a).toArray 34)).alloc (.cells (bytesV b).toArray 34)) (w.heap.size + 1) b) := Lib.hid (heap_alloc2_new _ _ _)
  have i3 : Hid (BB 34 ((w.alloc (.cells (bytesV a).toArray 34)).alloc (.cells (bytesV b).toArray 34)) g t) := Lib.hid ((hg.alloc _).alloc _)
  have i5 : Hid (Grew w ((w.alloc (.cells (bytesV a).toArray 34)).alloc (.cells (bytesV b).toArray 34))) := Lib.hid (((Grew.refl w).alloc _).alloc _)
  have HM := Lib.hid (fun w => metric_Cmp t a b ht ha hb w)
  generalize farC t a b = r at *
  clear hg
  go_enter Try.func76, Try.ntmps76
  go_wp2_with (first
    | (refine wpList_load_agg (o := ⟨some 6, _, _, _, _, _⟩) rfl _ (.tmp 2) rfl _ rfl (bytesV t) i3.out.row haT.out ?_)
    | (refine wpList_load_agg (o := ⟨some 7, _, _, _, _, _⟩) rfl _ (.tmp 3) rfl _ rfl (bytesV a) i1.out.row haA.out ?_)
    | (refine wpList_load_agg (o := ⟨some 8, _, _, _, _, _⟩) rfl _ (.tmp 4) rfl _ rfl (bytesV b) i2.out.row haB.out ?_)
    | (go_at_call 14; refine (HM.out _).mono ?_; rintro e w3 ⟨rfl, hg3⟩))
  go_ret
  exact ⟨rfl, i5.out.trans hg3⟩

set_option maxRecDepth 100000 in
set_option maxHeartbeats 1000000 in
theorem metric_by (t : List UInt8) (ht : t.length = 20) (w : World) :
    Calls Try.prog 54 #[.agg (bytesV t).toArray] w fun e w' => e = .returned (.func (.func 76) #[] #[.pointer (some ⟨w.heap.size, 0, none⟩)]) ∧ w' = w.alloc (.cells (bytesV t).toArray 34) := by
  have st := bytes_size ht
  go_enter Try.func54, Try.ntmps54
  go_wp2_with fail
  go_ret
  exact ⟨rfl, rfl⟩
end Go.Proofs.Ytgdiajhegmdfgaa
