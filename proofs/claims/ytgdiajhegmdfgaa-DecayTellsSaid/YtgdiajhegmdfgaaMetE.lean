/-
  The walk of MetricOrder. Conditions: the ids are twenty bytes.
-/
import Derived.Test.YtgdiajhegmdfgaaMetD
import Derived.Test.YtgdiajhegmdfgaaIdW
import Derived.Test.YtgdiajhegmdfgaaIdX
namespace Go.Proofs.Ytgdiajhegmdfgaa
open Go.RowKit

/-- The worlds of the reference. -/
structure RefC4 (w0 : World) (t a b : List UInt8) (w : World) : Prop where
  t : BB 35 w w0.heap.size t
  a : BB 35 w (w0.heap.size + 1) a
  b : BB 35 w (w0.heap.size + 1 + 1) b
  bel : Below w0.heap.size w0 w
theorem RefC4.grew {w0 w w' : World} {t a b : List UInt8} (h : RefC4 w0 t a b w) (hb : Below w.heap.size w w') : RefC4 w0 t a b w' := ⟨h.t.below hb, h.a.below hb, h.b.below hb, h.bel.trans (hb.mono h.bel.size)⟩
theorem RefC4.drew {w0 w : World} {t a b : List UInt8} (h : RefC4 w0 t a b w) : RefC4 w0 t a b w.drew := ⟨h.t, h.a, h.b, below_drewN h.bel 1⟩

set_option maxRecDepth 100000 in
set_option maxHeartbeats 1000000 in
theorem ref04_Cmp (t a b : List UInt8) (ht : t.length = 20) (ha : a.length = 20) (hb : b.length = 20) (w : World) :
    Calls Try.prog 15 #[.agg (bytesV t).toArray, .agg (bytesV a).toArray, .agg (bytesV b).toArray] w fun e w' => e = .returned (.int .i64 (farC t a b)) ∧ Below w.heap.size w w' := by
  have st := bytes_size ht
  have sa := bytes_size ha
  have sb := bytes_size hb
  have haT : Hid (IsAgg Try.prog 35 (bytesV t).length) := Lib.hid (by rw [bytes_len ht]; exact aggR3)
  have haA : Hid (IsAgg Try.prog 35 (bytesV a).length) := Lib.hid (by rw [bytes_len ha]; exact aggR3)
  have haB : Hid (IsAgg Try.prog 35 (bytesV b).length) := Lib.hid (by rw [bytes_len hb]; exact aggR3)
  have HC : Hid (RefC4 w t a b (((w.alloc (.cells (bytesV t).toArray 35)).alloc (.cells (bytesV a).toArray 35)).alloc (.cells (bytesV b).toArray 35))) := Lib.hid ⟨BB.alloc (BB.alloc (l := t) (heap_alloc_new _ _) _) _, BB.alloc (heap_alloc2_new _ _ _) _, (by
    have := heap_alloc_new ((w.alloc (.cells (bytesV t).toArray 35)).alloc (.cells (bytesV a).toArray 35)) (.cells (bytesV b).toArray 35)
    rw [World.size_alloc, World.size_alloc] at this
    exact this), (((Below.refl _ _).alloc (Nat.le_refl _) _).alloc (by simp) _).alloc (by simp; omega) _⟩
  have hxa : (xorB t a).length = 20 := by rw [xorB_length t a (by omega), ht]
  have hxb : (xorB t b).length = 20 := by rw [xorB_length t b (by omega), ht]
  have HX := Lib.hid (fun (l : List UInt8) (hl : l.length = 20) w => ref_Xor t l ht hl w)
  have HLA := Lib.hid ha
  have HLB := Lib.hid hb
  have HCM := Lib.hid (fun w => ref_Cmp (xorB t a) (xorB t b) hxa hxb w)
  unfold farC
  generalize Lib.compareBytes (xorB t a) (xorB t b) = r at *
  clear ht ha hb hxa hxb
  go_enter Try.func15, Try.ntmps15
  go_wp2_with fail
  generalize (((w.alloc (.cells (bytesV t).toArray 35)).alloc (.cells (bytesV a).toArray 35)).alloc (.cells (bytesV b).toArray 35)) = W3 at *
  refine wp_region_QL (RefC4 w t a b) (by kernel_rfl) (by kernel_rfl) HC.out.drew ?_
  repeat (first
    | (refine QL.load (by rfl) _ _ rfl _ rfl (bytesV t) (fun w h => RefC4.t h |>.row) haT.out ?_)
    | (refine QL.load (by rfl) _ _ rfl _ rfl (bytesV a) (fun w h => RefC4.a h |>.row) haA.out ?_)
    | (refine QL.load (by rfl) _ _ rfl _ rfl (bytesV b) (fun w h => RefC4.b h |>.row) haB.out ?_)
    | (refine QL.step (fun K hK => ?_); go_simp
       first
         | (refine hK _ ?_; clear hK K)
         | (apply Exists.intro
            refine ⟨fun w hw => ?_, hK _ ?_⟩
            first
              | with_reducible rfl
              | (go_at_call 48; refine (HX.out _ (by first | exact HLA.out | exact HLB.out) _).mono ?_; rintro e w' ⟨rfl, hbx⟩; exact ⟨rfl, RefC4.grew hw hbx⟩)
              | (go_at_call 46; refine (HCM.out _).mono ?_; rintro e w' ⟨rfl, hbx⟩; exact ⟨rfl, RefC4.grew hw hbx⟩)
            clear hK K)))
  refine QL.nil ?_
  intro w7 hC7
  have HC7 := Lib.hid hC7
  clear hC7 HC
  go_wp2_with fail
  go_ret
  exact ⟨rfl, HC7.out.bel⟩

/-- The worlds of the walk. -/
structure OrdC (w0 : World) (t a b c : List UInt8) (w : World) : Prop where
  t : BB 34 w w0.heap.size t
  a : BB 34 w (w0.heap.size + 1) a
  b : BB 34 w (w0.heap.size + 1 + 1) b
  c : BB 34 w (w0.heap.size + 1 + 1 + 1) c
  bel : Below w0.heap.size w0 w
theorem OrdC.below {w0 w w' : World} {t a b c : List UInt8} (h : OrdC w0 t a b c w) (hb : Below w.heap.size w w') : OrdC w0 t a b c w' :=
  ⟨h.t.below hb, h.a.below hb, h.b.below hb, h.c.below hb, h.bel.trans (hb.mono h.bel.size)⟩
theorem OrdC.drew {w0 w : World} {t a b c : List UInt8} (h : OrdC w0 t a b c w) : OrdC w0 t a b c w.drew := ⟨h.t, h.a, h.b, h.c, below_drewN h.bel 1⟩

/-- A whole array or struct, loaded, under a guard that holds. -/
theorem step_load_agg {P : Program} {ops : Array Oper} {o : Oper} {a : Act} {w : World} {K : Act → World → Prop} {Q : Exit → Act → World → Prop} {E : Prop} (hw : Region.wanted o (yielded ops a.tmps) = true) (ty : TypeId) (x : Operand) (ho : o.op = .load ty x)
    (ad : Addr) (hx : a.eval x = .pointer (some ad)) (cs : List Value) (hr : Row w ad cs) (ht : IsAgg P ty cs.length) (h : K (a.put o.dst (.agg cs.toArray)) w) :
    if Region.wanted o (yielded ops a.tmps) = true then Oper.wp P o a w K Q else E := by
  rw [if_pos hw]
  exact wp_load_agg ty x ho ad hx cs hr ht h

theorem wpList_load_guard {P : Program} {ops : Array Oper} {rest : List Oper} {o : Oper} {a : Act} {w : World} {Q : Exit → Act → World → Prop} (hw : Region.wanted o (yielded ops a.tmps) = true) (ty : TypeId) (x : Operand) (ho : o.op = .load ty x)
    (ad : Addr) (hx : a.eval x = .pointer (some ad)) (cs : List Value) (hr : Row w ad cs) (ht : IsAgg P ty cs.length)
    (h : wpList P ops Q rest (a.put o.dst (.agg cs.toArray)) w) : wpList P ops Q (o :: rest) a w :=
  wpList_step fun _ hK => step_load_agg hw ty x ho ad hx cs hr ht (hK _ _ h)

/-- Which way the walk goes. -/
def OrderWay (t a b c : List UInt8) : Prop :=
  (farC t a b = -1 ∧ farC t b a = 1 ∧ decide (a = b) = false ∧ decide (farC t b c < 0) = true ∧ decide (0 ≤ farC t a c) = false ∧ decide ((prefB (xorB t a) : Int) ≤ (prefB (xorB t b) : Int)) = true) ∨
  (farC t a b = -1 ∧ farC t b a = 1 ∧ decide (a = b) = false ∧ decide (farC t b c < 0) = true ∧ decide (0 ≤ farC t a c) = false ∧ decide ((prefB (xorB t a) : Int) ≤ (prefB (xorB t b) : Int)) = false) ∨
  (farC t a b = -1 ∧ farC t b a = 1 ∧ decide (a = b) = false ∧ decide (farC t b c < 0) = false ∧ True ∧ decide ((prefB (xorB t a) : Int) ≤ (prefB (xorB t b) : Int)) = true) ∨
  (farC t a b = -1 ∧ farC t b a = 1 ∧ decide (a = b) = false ∧ decide (farC t b c < 0) = false ∧ True ∧ decide ((prefB (xorB t a) : Int) ≤ (prefB (xorB t b) : Int)) = false) ∨
  (farC t a b = 0 ∧ farC t b a = 0 ∧ decide (a = b) = true ∧ True ∧ True ∧ decide ((prefB (xorB t a) : Int) ≤ (prefB (xorB t b) : Int)) = true) ∨
  (farC t a b = 1 ∧ farC t b a = -1 ∧ decide (a = b) = false ∧ True ∧ True ∧ decide ((prefB (xorB t a) : Int) ≤ (prefB (xorB t b) : Int)) = true)
theorem order_way (t a b c : List UInt8) (ht : t.length = 20) (ha : a.length = 20) (hb : b.length = 20) : OrderWay t a b c := by
  unfold OrderWay
  have b1 := farC_bounds t a b
  have n1 := farC_neg t b a
  have z1 := farC_zero t a b (by omega) (by omega)
  have p1 := farC_prefix t a b (by omega) (by omega)
  have t1 := farC_trans t a b c
  simp only [decide_eq_false_iff_not, decide_eq_true_iff]
  have hab : a = b ↔ farC t a b = 0 := z1.symm
  rw [hab]
  rcases Int.lt_trichotomy (farC t a b) 0 with h | h | h
  · have e : farC t a b = -1 := by omega
    by_cases hy : farC t b c < 0
    · have hz := t1 h hy
      by_cases hp : prefB (xorB t a) ≤ prefB (xorB t b)
      · exact Or.inl ⟨e, by omega, by omega, hy, by omega, by omega⟩
      · exact Or.inr (Or.inl ⟨e, by omega, by omega, hy, by omega, by omega⟩)
    · by_cases hp : prefB (xorB t a) ≤ prefB (xorB t b)
      · exact Or.inr (Or.inr (Or.inl ⟨e, by omega, by omega, hy, trivial, by omega⟩))
      · exact Or.inr (Or.inr (Or.inr (Or.inl ⟨e, by omega, by omega, hy, trivial, by omega⟩)))
  · have hp : prefB (xorB t a) ≤ prefB (xorB t b) := by
      rcases Nat.lt_or_ge (prefB (xorB t b)) (prefB (xorB t a)) with k | k
      · have := p1 k; omega
      · exact k
    exact Or.inr (Or.inr (Or.inr (Or.inr (Or.inl ⟨h, by omega, h, trivial, trivial, by omega⟩))))
  · have hp : prefB (xorB t a) ≤ prefB (xorB t b) := by
      rcases Nat.lt_or_ge (prefB (xorB t b)) (prefB (xorB t a)) with k | k
      · have := p1 k; omega
      · exact k
    exact Or.inr (Or.inr (Or.inr (Or.inr (Or.inr ⟨by omega, by omega, by omega, trivial, trivial, by omega⟩))))

set_option maxRecDepth 100000 in
set_option maxHeartbeats 8000000 in
theorem Order_walk (t a b c : List UInt8) (ht : t.length = 20) (ha : a.length = 20) (hb : b.length = 20) (hc : c.length = 20) (w : World) :
    Calls Try.prog 5 #[.agg (bytesV t).toArray, .agg (bytesV a).toArray, .agg (bytesV b).toArray, .agg (bytesV c).toArray] w fun e w' => e = .returned (.bool true) ∧ Below w.heap.size w w' := by
  have st := bytes_size ht
  have sa := bytes_size ha
  have sb := bytes_size hb
  have sc := bytes_size hc
  have haT : Hid (IsAgg Try.prog 34 (bytesV t).length) := Lib.hid (by rw [bytes_len ht]; exact aggID)
  have haA : Hid (IsAgg Try.prog 34 (bytesV a).length) := Lib.hid (by rw [bytes_len ha]; exact aggID)
  have haB : Hid (IsAgg Try.prog 34 (bytesV b).length) := Lib.hid (by rw [bytes_len hb]; exact aggID)
  have haC : Hid (IsAgg Try.prog 34 (bytesV c).length) := Lib.hid (by rw [bytes_len hc]; exact aggID)
  have HC : Hid (OrdC w t a b c ((((w.alloc (.cells (bytesV t).toArray 34)).alloc (.cells (bytesV a).toArray 34)).alloc (.cells (bytesV b).toArray 34)).alloc (.cells (bytesV c).toArray 34))) := Lib.hid ⟨BB.alloc (BB.alloc (BB.alloc (l := t) (heap_alloc_new _ _) _) _) _, BB.alloc (BB.alloc (heap_alloc2_new _ _ _) _) _, BB.alloc (by
      have := heap_alloc_new ((w.alloc (.cells (bytesV t).toArray 34)).alloc (.cells (bytesV a).toArray 34)) (.cells (bytesV b).toArray 34)
      rw [World.size_alloc, World.size_alloc] at this
      exact this) _, (by
      have := heap_alloc_new (((w.alloc (.cells (bytesV t).toArray 34)).alloc (.cells (bytesV a).toArray 34)).alloc (.cells (bytesV b).toArray 34)) (.cells (bytesV c).toArray 34)
      rw [World.size_alloc, World.size_alloc, World.size_alloc] at this
      exact this), ((((Below.refl _ _).alloc (Nat.le_refl _) _).alloc (by simp) _).alloc (by simp; omega) _).alloc (by simp; omega) _⟩
  have HM := Lib.hid (fun (l m : List UInt8) (hl : l.length = 20) (hm : m.length = 20) w => metric_Cmp t l m ht hl hm w)
  have HR := Lib.hid (fun w => ref04_Cmp t a b ht ha hb w)
  have HP := Lib.hid (fun (l : List UInt8) (hl : l.length = 20) w => ident_Prefix t l ht hl w)
  have HLA := Lib.hid ha
  have HLB := Lib.hid hb
  have HLC := Lib.hid hc
  have HLV := Lib.hid (fun w => lives04 w)
  have hq : ∀ w, (binOp .eql 34 (.agg (bytesV a).toArray) (.agg (bytesV b).toArray)).run Try.prog w = .ok (.bool (decide (a = b))) w := fun w => eql_ID w a b ha hb
  have hway := Lib.hid (order_way t a b c ht ha hb)
  rw [show decide (a = b) = (farC t a b == 0) from by rw [show (farC t a b == 0) = decide (farC t a b = 0) from rfl]; exact decide_eq_decide.2 (farC_zero t a b (by omega) (by omega)).symm] at hq
  have hw1 : IntKind.i64.wrap (-(farC t b a)) = farC t a b := by
    have h1 := farC_neg t a b
    have h2 := farC_bounds t a b
    rw [IntKind.wrap_i64]; omega
  clear ht ha hb hc
  go_enter Try.func5, Try.ntmps5
  go_wp2_with fail
  generalize ((((w.alloc (.cells (bytesV t).toArray 34)).alloc (.cells (bytesV a).toArray 34)).alloc (.cells (bytesV b).toArray 34)).alloc (.cells (bytesV c).toArray 34)) = W3 at *
  refine wp_region_QL (OrdC w t a b c) (by kernel_rfl) (by kernel_rfl) HC.out.drew ?_
  repeat (first
    | (refine QL.load (by rfl) _ _ rfl _ rfl (bytesV t) (fun w h => OrdC.t h |>.row) haT.out ?_)
    | (refine QL.load (by rfl) _ _ rfl _ rfl (bytesV a) (fun w h => OrdC.a h |>.row) haA.out ?_)
    | (refine QL.load (by rfl) _ _ rfl _ rfl (bytesV b) (fun w h => OrdC.b h |>.row) haB.out ?_)
    | (refine QL.load (by rfl) _ _ rfl _ rfl (bytesV c) (fun w h => OrdC.c h |>.row) haC.out ?_)
    | (refine QL.step (fun K hK => ?_); go_simp
       first
         | (refine hK _ ?_; clear hK K)
         | (apply Exists.intro
            refine ⟨fun w hw => ?_, hK _ ?_⟩
            first
              | with_reducible rfl
              | (go_at_call 14; refine (HM.out _ _ (by first | exact HLA.out | exact HLB.out) (by first | exact HLB.out | exact HLC.out) _).mono ?_; rintro e w' ⟨rfl, hbx⟩; exact ⟨rfl, OrdC.below hw hbx.bel⟩)
            clear hK K)))
  refine QL.nil ?_
  intro w7 hC7
  clear HC
  have HC := Lib.hid hC7
  clear hC7
  have hb0 := HC
  clear HC hw1
  have hway := hway.out
  unfold OrderWay at hway
  rcases hway with ⟨e1, e2, e3, e4, e5, e6⟩ | ⟨e1, e2, e3, e4, e5, e6⟩ | ⟨e1, e2, e3, e4, e5, e6⟩ | ⟨e1, e2, e3, e4, e5, e6⟩ | ⟨e1, e2, e3, e4, e5, e6⟩ | ⟨e1, e2, e3, e4, e5, e6⟩
  all_goals
    clear e3
    rw [e1] at hq
    have e7 := e6
    simp only [Int.ofNat_le] at e7
    go_wp2_with (first
    | ((with_reducible show wpList _ _ _ (⟨some 25, _, _, _, _, _⟩ :: _) _ _); refine wpList_load_agg (o := ⟨some 25, _, _, _, _, _⟩) rfl _ (.tmp 4) rfl _ rfl (bytesV t) (Hid.out (by assumption : Hid (OrdC w t a b c _))).t.row haT.out ?_)
    | ((with_reducible show wpList _ _ _ (⟨some 26, _, _, _, _, _⟩ :: _) _ _); refine wpList_load_agg (o := ⟨some 26, _, _, _, _, _⟩) rfl _ (.tmp 5) rfl _ rfl (bytesV a) (Hid.out (by assumption : Hid (OrdC w t a b c _))).a.row haA.out ?_)
    | ((with_reducible show wpList _ _ _ (⟨some 27, _, _, _, _, _⟩ :: _) _ _); refine wpList_load_agg (o := ⟨some 27, _, _, _, _, _⟩) rfl _ (.tmp 6) rfl _ rfl (bytesV b) (Hid.out (by assumption : Hid (OrdC w t a b c _))).b.row haB.out ?_)
    | ((with_reducible show wpList _ _ _ (⟨some 33, _, _, _, _, _⟩ :: _) _ _); refine wpList_load_guard (o := ⟨some 33, _, _, _, _, _⟩) (by rfl) _ (.tmp 5) rfl _ rfl (bytesV a) (Hid.out (by assumption : Hid (OrdC w t a b c _))).a.row haA.out ?_)
    | ((with_reducible show wpList _ _ _ (⟨some 34, _, _, _, _, _⟩ :: _) _ _); refine wpList_load_guard (o := ⟨some 34, _, _, _, _, _⟩) (by rfl) _ (.tmp 6) rfl _ rfl (bytesV b) (Hid.out (by assumption : Hid (OrdC w t a b c _))).b.row haB.out ?_)
    | ((with_reducible show wpList _ _ _ (⟨some 40, _, _, _, _, _⟩ :: _) _ _); refine wpList_load_guard (o := ⟨some 40, _, _, _, _, _⟩) (by rfl) _ (.tmp 4) rfl _ rfl (bytesV t) (Hid.out (by assumption : Hid (OrdC w t a b c _))).t.row haT.out ?_)
    | ((with_reducible show wpList _ _ _ (⟨some 41, _, _, _, _, _⟩ :: _) _ _); refine wpList_load_guard (o := ⟨some 41, _, _, _, _, _⟩) (by rfl) _ (.tmp 6) rfl _ rfl (bytesV b) (Hid.out (by assumption : Hid (OrdC w t a b c _))).b.row haB.out ?_)
    | ((with_reducible show wpList _ _ _ (⟨some 42, _, _, _, _, _⟩ :: _) _ _); refine wpList_load_guard (o := ⟨some 42, _, _, _, _, _⟩) (by rfl) _ (.tmp 5) rfl _ rfl (bytesV a) (Hid.out (by assumption : Hid (OrdC w t a b c _))).a.row haA.out ?_)
    | (go_at_call 15; refine (HR.out _).mono ?_; rintro e w8 ⟨rfl, hb8⟩; have HC8 := Lib.hid (OrdC.below hb0.out hb8); clear hb8)
    | (go_at_call 14; refine (HM.out _ _ HLB.out HLA.out _).mono ?_; rintro e w9 ⟨rfl, hb9⟩; have HC9 := Lib.hid (OrdC.below (Hid.out (by assumption : Hid (OrdC w t a b c w8))) hb9.bel); clear hb9))
    have HC := Lib.hid (Hid.out (by assumption : Hid (OrdC w t a b c w9)))
    refine wp_region_QL (OrdC w t a b c) (by kernel_rfl) (by kernel_rfl) HC.out.drew ?_
    repeat (first
      | (refine QL.load (by rfl) _ _ rfl _ rfl (bytesV t) (fun w h => OrdC.t h |>.row) haT.out ?_)
      | (refine QL.load (by rfl) _ _ rfl _ rfl (bytesV a) (fun w h => OrdC.a h |>.row) haA.out ?_)
      | (refine QL.load (by rfl) _ _ rfl _ rfl (bytesV b) (fun w h => OrdC.b h |>.row) haB.out ?_)
      | (refine QL.load (by rfl) _ _ rfl _ rfl (bytesV c) (fun w h => OrdC.c h |>.row) haC.out ?_)
      | (refine QL.step (fun K hK => ?_); go_simp
         first
           | (refine hK _ ?_; clear hK K)
           | (apply Exists.intro
              refine ⟨fun w hw => ?_, hK _ ?_⟩
              first
                | with_reducible rfl
                | (go_at_call 16; refine (HP.out _ (by first | exact HLA.out | exact HLB.out) _).mono ?_; rintro e w' ⟨rfl, hbx⟩; exact ⟨rfl, OrdC.below hw hbx⟩)
                | (go_at_call 17; refine (HLV.out _).mono ?_; rintro e w' ⟨rfl, hbx⟩; exact ⟨rfl, OrdC.below hw hbx⟩)
              clear hK K)))
    refine QL.nil ?_
    intro w7 hC7
    clear HC
    have HC := Lib.hid hC7
    clear hC7
    go_wp2_with fail
    go_ret
    exact ⟨rfl, HC.out.bel⟩
end Go.Proofs.Ytgdiajhegmdfgaa
