/-
  What ident.Xor, ident.Prefix, ident.Cmp compute. Conditions: the ids are twenty bytes.
-/
import Derived.Test.YtgdiajhegmdfgaaShaL
import Derived.Test.YtgdiajhegmdfgaaIdEq
import Derived.Test.YtgdiajhegmdfgaaIdP
import Derived.Laws.Externs
import Derived.Lib.BytesEntry
namespace Go.Proofs.Ytgdiajhegmdfgaa
open Go.RowKit

/-- A block that holds bytes. -/
def BB (T : TypeId) (w : World) (g : Nat) (l : List UInt8) : Prop := w.heap[g]? = some (.cells (bytesV l).toArray T (0, 0))
section
variable {T : TypeId} {w w' : World} {g : Nat} {l : List UInt8}
theorem BB.cell (h : BB T w g l) {k : Nat} {x : UInt8} (hx : l[k]? = some x) : w.cell? ⟨g, k, none⟩ = some (.int .u8 (x.toNat : Int)) := by
  rw [cell_of_row w g k _ T _ h]
  simp [bytesV, hx, byteV]
theorem BB.free (h : BB T w g l) (k : Nat) : w.frozen? ⟨g, k, none⟩ = false := frozen_of_row w g k _ T h
theorem BB.lt (h : BB T w g l) : g < w.heap.size := by
  have h1 : w.heap[g]? = some _ := h
  rw [Array.getElem?_eq_some_iff] at h1
  exact h1.1
theorem BB.far {S : Nat → Prop} (h : BB T w g l) (ho : Only S w w') (hb : ¬ S g) : BB T w' g l := (ho.block g h.lt hb).trans h
theorem BB.below (h : BB T w g l) (hb : Below w.heap.size w w') : BB T w' g l := (hb.block g h.lt).trans h
theorem BB.set_ (h : BB T w g l) (k : Nat) (x : UInt8) : BB T (w.setCell ⟨g, k, none⟩ (.int .u8 (x.toNat : Int))) g (l.set k x) := by
  have := heap_setCell_same w g k _ T (byteV x) h
  have e : ((bytesV l).toArray.setIfInBounds k (byteV x)) = (bytesV (l.set k x)).toArray := by
    simp [bytesV, List.map_set]
  rw [e] at this
  exact this
theorem BB.row (h : BB T w g l) : Row w ⟨g, 0, none⟩ (bytesV l) := Row.of_block h
theorem BB.setRow (h : BB T w g l) (l' : List UInt8) : BB T (w.setRow g (bytesV l').toArray) g l' := setRow_heap _ _ _ _ _ _ h
theorem BB.alloc (h : BB T w g l) (o : Obj) : BB T (w.alloc o) g l := (heap_alloc_old w o h.lt).trans h
theorem BB.bytes (h : BB T w g l) : Bytes w (some ⟨g, 0, none⟩) l := ⟨(fun h => by cases h), (fun ad had => by obtain rfl := Option.some.inj had; exact h.row)⟩
end
theorem bytes_len {l : List UInt8} {n : Nat} (h : l.length = n) : (bytesV l).length = n := by rw [bytesV_length, h]
theorem bytes_size {l : List UInt8} {n : Nat} (h : l.length = n) : (bytesV l).toArray.size = n := by rw [List.size_toArray, bytes_len h]
theorem zero20 : (#[.int .u8 0, .int .u8 0, .int .u8 0, .int .u8 0, .int .u8 0, .int .u8 0, .int .u8 0, .int .u8 0, .int .u8 0, .int .u8 0, .int .u8 0, .int .u8 0, .int .u8 0, .int .u8 0, .int .u8 0, .int .u8 0, .int .u8 0, .int .u8 0, .int .u8 0, .int .u8 0] : Array Value) = (bytesV (List.replicate 20 0)).toArray := rfl

/-- The distance, its first k bytes done. -/
def mixAt (a b : List UInt8) : Nat → List UInt8
  | 0 => a
  | k + 1 => (mixAt a b k).set k ((xorB a b).getD k 0)
theorem mixAt_length (a b : List UInt8) : ∀ k, (mixAt a b k).length = a.length
  | 0 => rfl
  | k + 1 => by rw [mixAt, List.length_set, mixAt_length a b k]
theorem mixAt_get (a b : List UInt8) (h : a.length = b.length) : ∀ k j, (mixAt a b k)[j]? = if j < k then (xorB a b)[j]? else a[j]?
  | 0, j => by rw [mixAt, if_neg (by omega)]
  | k + 1, j => by
    rw [mixAt, List.getElem?_set, mixAt_get a b h k j, mixAt_length]
    have hx := xorB_length a b h
    by_cases hj : k = j
    · subst hj
      rw [if_pos rfl]
      by_cases hl : k < a.length
      · rw [if_pos hl, if_pos (show k < k + 1 by omega), List.getD_eq_getElem?_getD, List.getElem?_eq_getElem (by omega)]; rfl
      · rw [if_neg hl, if_pos (show k < k + 1 by omega), List.getElem?_eq_none (by omega)]
    · rw [if_neg hj]
      by_cases h2 : j < k
      · rw [if_pos h2, if_pos (by omega)]
      · rw [if_neg h2, if_neg (by omega)]
theorem mixAt_all (a b : List UInt8) (h : a.length = b.length) : mixAt a b a.length = xorB a b := by
  apply List.ext_getElem?
  intro j
  rw [mixAt_get a b h]
  by_cases hj : j < a.length
  · rw [if_pos hj]
  · rw [if_neg hj, List.getElem?_eq_none (by omega), List.getElem?_eq_none (by rw [xorB_length a b h]; omega)]

set_option maxRecDepth 100000 in
set_option maxHeartbeats 1000000 in
theorem ident_Xor (a b : List UInt8) (ha : a.length = 20) (hb : b.length = 20) (w : World) :
    Calls Try.prog 47 #[.agg (bytesV a).toArray, .agg (bytesV b).toArray] w fun e w' => e = .returned (.agg (bytesV (xorB a b)).toArray) ∧ Below w.heap.size w w' := by
  have sa := bytes_size ha
  have sb := bytes_size hb
  have la := Lib.hid (bytes_len ha)
  have lb := Lib.hid (bytes_len hb)
  have i1 : Hid (BB 34 (((w.alloc (.cells (bytesV a).toArray 34)).alloc (.cells (bytesV b).toArray 34)).alloc (.cells #[.int .u8 0, .int .u8 0, .int .u8 0, .int .u8 0, .int .u8 0, .int .u8 0, .int .u8 0, .int .u8 0, .int .u8 0, .int .u8 0, .int .u8 0, .int .u8 0, .int .u8 0, .int .u8 0, .int .u8 0, .int .u8 0, .int .u8 0, .int .u8 0, .int .u8 0, .int .u8 0] 34)) w.heap.size (mixAt a b 0)) := Lib.hid ((BB.alloc (BB.alloc (l := a) (heap_alloc_new _ _) _) _))
  have i2 : Hid (BB 34 (((w.alloc (.cells (bytesV a).toArray 34)).alloc (.cells (bytesV b).toArray 34)).alloc (.cells #[.int .u8 0, .int .u8 0, .int .u8 0, .int .u8 0, .int .u8 0, .int .u8 0, .int .u8 0, .int .u8 0, .int .u8 0, .int .u8 0, .int .u8 0, .int .u8 0, .int .u8 0, .int .u8 0, .int .u8 0, .int .u8 0, .int .u8 0, .int .u8 0, .int .u8 0, .int .u8 0] 34)) (w.heap.size + 1) b) := Lib.hid (BB.alloc (heap_alloc2_new _ _ _) _)
  have i3 : Hid (BB 34 (((w.alloc (.cells (bytesV a).toArray 34)).alloc (.cells (bytesV b).toArray 34)).alloc (.cells #[.int .u8 0, .int .u8 0, .int .u8 0, .int .u8 0, .int .u8 0, .int .u8 0, .int .u8 0, .int .u8 0, .int .u8 0, .int .u8 0, .int .u8 0, .int .u8 0, .int .u8 0, .int .u8 0, .int .u8 0, .int .u8 0, .int .u8 0, .int .u8 0, .int .u8 0, .int .u8 0] 34)) (w.heap.size + 1 + 1) (List.replicate 20 0)) := Lib.hid (by
    have := heap_alloc_new ((w.alloc (.cells (bytesV a).toArray 34)).alloc (.cells (bytesV b).toArray 34)) (.cells #[.int .u8 0, .int .u8 0, .int .u8 0, .int .u8 0, .int .u8 0, .int .u8 0, .int .u8 0, .int .u8 0, .int .u8 0, .int .u8 0, .int .u8 0, .int .u8 0, .int .u8 0, .int .u8 0, .int .u8 0, .int .u8 0, .int .u8 0, .int .u8 0, .int .u8 0, .int .u8 0] 34)
    rw [World.size_alloc, World.size_alloc] at this
    exact this)
  have i5 : Hid (Below w.heap.size w (((w.alloc (.cells (bytesV a).toArray 34)).alloc (.cells (bytesV b).toArray 34)).alloc (.cells #[.int .u8 0, .int .u8 0, .int .u8 0, .int .u8 0, .int .u8 0, .int .u8 0, .int .u8 0, .int .u8 0, .int .u8 0, .int .u8 0, .int .u8 0, .int .u8 0, .int .u8 0, .int .u8 0, .int .u8 0, .int .u8 0, .int .u8 0, .int .u8 0, .int .u8 0, .int .u8 0] 34))) := Lib.hid ((((Below.refl _ _).alloc (Nat.le_refl _) _).alloc (by simp) _).alloc (by simp; omega) _)
  obtain ⟨X, hX⟩ : ∃ X, xorB a b = X := ⟨_, rfl⟩
  rw [hX]
  have HXD := Lib.hid hX
  clear hX
  go_enter Try.func47, Try.ntmps47
  go_wp2_with fail
  generalize (((w.alloc (.cells (bytesV a).toArray 34)).alloc (.cells (bytesV b).toArray 34)).alloc (.cells #[.int .u8 0, .int .u8 0, .int .u8 0, .int .u8 0, .int .u8 0, .int .u8 0, .int .u8 0, .int .u8 0, .int .u8 0, .int .u8 0, .int .u8 0, .int .u8 0, .int .u8 0, .int .u8 0, .int .u8 0, .int .u8 0, .int .u8 0, .int .u8 0, .int .u8 0, .int .u8 0] 34)) = W3 at *
  go_loopw [6] (fun i wr => ∃ k : Nat, i = .int .i64 k ∧ k ≤ 20 ∧ Hid (BB 34 wr w.heap.size (mixAt a b k)) ∧ Hid (BB 34 wr (w.heap.size + 1) b) ∧ Hid (BB 34 wr (w.heap.size + 1 + 1) (List.replicate 20 0)) ∧ Hid (Below w.heap.size w wr)) (fun i _ => 20 - (intOf i).toNat)
  case atStart => exact ⟨0, rfl, by omega, i1, i2, i3, i5⟩
  case round =>
    clear i1 i2 i3 i5
    obtain ⟨k, rfl, hk, j1, j2, j3, j5⟩ := hrel
    by_cases hlt : k < 20
    · obtain ⟨x, hx⟩ : ∃ x, a[k]? = some x := ⟨a[k]'(by omega), List.getElem?_eq_getElem _⟩
      obtain ⟨y, hy⟩ : ∃ y, b[k]? = some y := ⟨b[k]'(by omega), List.getElem?_eq_getElem _⟩
      have c1 := j1.out.cell (k := k) (x := x) (by rw [mixAt_get a b (by omega), if_neg (by omega)]; exact hx)
      have c2 := j2.out.cell hy
      have hz := j1.out.free k
      have hk5 : (k : Int) < 20 := by omega
      have hxy : (xorB a b).getD k 0 = x ^^^ y := by
        unfold xorB
        rw [List.getD_eq_getElem?_getD, List.getElem?_zipWith, hx, hy]
        rfl
      have hm : mixAt a b (k + 1) = (mixAt a b k).set k (x ^^^ y) := by rw [mixAt, hxy]
      have e1 : bits .xor .u8 (x.toNat : Int) (y.toNat : Int) = ((x ^^^ y).toNat : Int) := by
        rw [u8_xor_nat _ _ x.toNat_lt y.toNat_lt, UInt8.toNat_xor]
      have HM := Lib.hid hm
      obtain ⟨z, hz2⟩ : ∃ z, x ^^^ y = z := ⟨_, rfl⟩
      rw [hz2] at e1 HM
      clear hx hy hxy hm hz2
      go_wp2_with fail
      go_still_tail 8, (by kernel_rfl)
      change wpList _ _ _ _ _ wr.drew
      go_wp2_with fail
      go_roundw
      case rel =>
        refine ⟨k + 1, by go_num, by omega, Lib.hid ?_, Lib.hid ?_, Lib.hid ?_, Lib.hid ?_⟩
        · rw [HM.out]; exact BB.set_ (w := wr) j1.out k z
        · exact BB.far (S := (· = w.heap.size)) j2.out ((Only.set_ wr w.heap.size k (.int .u8 (z.toNat : Int))).drewN 1) (by omega)
        · exact BB.far (S := (· = w.heap.size)) j3.out ((Only.set_ wr w.heap.size k (.int .u8 (z.toNat : Int))).drewN 1) (by omega)
        · exact below_drewN (Below.setCell (p := ⟨w.heap.size, k, none⟩) j5.out (Nat.le_refl _) (.int .u8 (z.toNat : Int))) 1
      case measure => simp [intOf]; omega
    · have hk20 : k = 20 := by omega
      subst hk20
      have hma : mixAt a b 20 = X := by rw [← HXD.out, ← ha]; exact mixAt_all a b (by omega)
      have hxl : X.length = 20 := by rw [← HXD.out, xorB_length a b (by omega), ha]
      rw [hma] at j1
      have haI : IsAgg Try.prog 34 (bytesV X).length := by rw [bytes_len hxl]; exact aggID
      go_wp2_with (refine wpList_load_agg (o := ⟨some 18, _, _, _, _, _⟩) rfl _ (.tmp 2) rfl _ rfl (bytesV X) j1.out.row haI ?_
                   refine wpList_store_row (o := ⟨none, _, _, _, _, _⟩) rfl _ (.tmp 4) (.tmp 18) rfl (w.heap.size + 1 + 1) rfl (bytesV X) rfl _ _ j3.out 20 (by kernel_rfl) (bytes_len hxl) (bytes_size (by simp)) (bytesV_one _) ?_)
      have hw2 := BB.setRow j3.out X
      have hsz2 : (Try.prog.info? 34).map (·.size) = some (bytesV X).toArray.size := by rw [bytes_size hxl]; kernel_rfl
      exact bodyPost_ret (results_cell_row Try.results47 _ _ (w.heap.size + 1 + 1) _ _ _ _ rfl hw2 Try.underlying34 rfl hsz2) rfl ⟨rfl, j5.out.trans (Only.below (S := (· = w.heap.size + 1 + 1)) (Only.setRow _ _ _) j5.out.size fun k hk => by omega)⟩

theorem len8_key : ∀ n : Fin 256, wrap64 ((Lib.len8tab[n.val]'(by rw [Lib.len8tab_size]; exact n.2)).toNat : Int) = (Lib.bitLen n.val : Int) := by decide +kernel

set_option maxRecDepth 100000 in
set_option maxHeartbeats 1000000 in
theorem bits_Len8 (x : UInt8) (w : World) : Calls Try.prog 74 #[.int .u8 (x.toNat : Int)] w fun e w' => e = .returned (.int .i64 (Lib.bitLen x.toNat : Int)) ∧ w = w' := by
  have h1 := x.toNat_lt
  have hk := len8_key ⟨x.toNat, h1⟩
  have HK := Lib.hid hk
  have hb : (x.toNat : Int) < 256 := by omega
  clear hk
  go_enter Try.func74, Try.ntmps74
  go_wp2
  go_ret
  exact ⟨ret_int HK.out, rfl⟩

set_option maxRecDepth 100000 in
set_option maxHeartbeats 1000000 in
theorem bits_LeadingZeros8 (x : UInt8) (w : World) : Calls Try.prog 49 #[.int .u8 (x.toNat : Int)] w fun e w' => e = .returned (.int .i64 (lz8 x : Int)) ∧ w = w' := by
  have h1 := x.toNat_lt
  have h8 : Lib.bitLen x.toNat ≤ 8 := Lib.bitLen_le8 ⟨x.toNat, h1⟩
  unfold lz8
  have hc := bits_Len8 x
  generalize Lib.bitLen x.toNat = m at *
  have e : ((8 - m : Nat) : Int) = 8 - (m : Int) := by omega
  rw [e]
  have h8' : (m : Int) ≤ 8 := by omega
  go_enter Try.func49, Try.ntmps49
  go_wp2_with fail
  refine (hc _).mono ?_; rintro e w3 ⟨rfl, rfl⟩
  go_wp2_with fail
  go_ret
  exact ⟨rfl, rfl⟩

/-- A byte of an array by value. -/
theorem index_bytes {P : Program} (w : World) (n : Nat) {t e : TypeId} (ht : P.underlying t = some (.array n e)) (hp : P.plainKey e = true) (hc : P.cellsOf e = 1) {i : TypeInfo} (hi : P.info? e = some i) (l : List UInt8) (hl : l.length = n) (k : Nat) (x : UInt8) (hx : l[k]? = some x) :
    (Instr.index t (.agg (bytesV l).toArray) (.int .i64 (k : Int))).run P w = .ok (.int .u8 (x.toNat : Int)) w := by
  have hk : k < n := by rw [← hl]; exact (List.getElem?_eq_some_iff.1 hx).1
  have hif : (0 : Int) ≤ (k : Int) ∧ (k : Int) < (n : Int) := by omega
  have hpt : (part e (bytesV l).toArray k).run P w = .ok (.int .u8 (x.toNat : Int)) w := run_part_plain w hp (by simp [bytesV, hx, byteV])
  have h1 : (Instr.index t (.agg (bytesV l).toArray) (.int .i64 (k : Int))).run P w = (do part e (bytesV l).toArray ((k : Int).toNat * (← sizeOf e)) : Sem Value).run P w := by
    simp [Instr.index, run_underlying ht, asIntOf, hk, go_sem]
  rw [h1, Sem.run_bind, run_sizeOf w hi, Result.andThen_ok, hc, Int.toNat_natCast, Nat.mul_one, hpt]
theorem index_ID (w : World) (l : List UInt8) (hl : l.length = 20) (k : Nat) (x : UInt8) (hx : l[k]? = some x) :
    (Instr.index 34 (.agg (bytesV l).toArray) (.int .i64 (k : Int))).run Try.prog w = .ok (.int .u8 (x.toNat : Int)) w :=
  (info_parts infoByte).elim fun _ hi => index_bytes w 20 Try.underlying34 plainByte cellsByte hi.1 l hl k x hx

set_option maxRecDepth 100000 in
set_option maxHeartbeats 1000000 in
theorem ident_Prefix (a b : List UInt8) (ha : a.length = 20) (hb : b.length = 20) (w : World) :
    Calls Try.prog 16 #[.agg (bytesV a).toArray, .agg (bytesV b).toArray] w fun e w' => e = .returned (.int .i64 (prefB (xorB a b) : Int)) ∧ Below w.heap.size w w' := by
  have sa := bytes_size ha
  have sb := bytes_size hb
  have haA : Hid (IsAgg Try.prog 34 (bytesV a).length) := Lib.hid (by rw [bytes_len ha]; exact aggID)
  have haB : Hid (IsAgg Try.prog 34 (bytesV b).length) := Lib.hid (by rw [bytes_len hb]; exact aggID)
  have i1 : Hid (Row ((w.alloc (.cells (bytesV a).toArray 34)).alloc (.cells (bytesV b).toArray 34)) ⟨w.heap.size, 0, none⟩ (bytesV a)) := Lib.hid (BB.row (BB.alloc (T := 34) (l := a) (heap_alloc_new _ _) _))
  have i2 : Hid (Row ((w.alloc (.cells (bytesV a).toArray 34)).alloc (.cells (bytesV b).toArray 34)) ⟨w.heap.size + 1, 0, none⟩ (bytesV b)) := Lib.hid (BB.row (T := 34) (l := b) (heap_alloc2_new _ _ _))
  have i5 : Below w.heap.size w ((w.alloc (.cells (bytesV a).toArray 34)).alloc (.cells (bytesV b).toArray 34)) := ((Below.refl _ _).alloc (Nat.le_refl _) _).alloc (by simp) _
  have I5 := Lib.hid i5
  clear i5
  have hX := fun w => ident_Xor a b ha hb w
  have hxl : (xorB a b).length = 20 := by rw [xorB_length a b (by omega), ha]
  generalize xorB a b = X at *
  have HX := Lib.hid hX
  have hpl := prefB_le X
  have hdr := prefB_drop X
  have HD := Lib.hid hdr
  have HL := Lib.hid hxl
  clear hX hdr
  go_enter Try.func16, Try.ntmps16
  go_wp2_with (first
    | refine wpList_load_agg (o := ⟨some 7, _, _, _, _, _⟩) rfl _ (.tmp 2) rfl _ rfl (bytesV a) i1.out haA.out ?_
    | refine wpList_load_agg (o := ⟨some 8, _, _, _, _, _⟩) rfl _ (.tmp 3) rfl _ rfl (bytesV b) i2.out haB.out ?_)
  refine (HX.out _).mono ?_; rintro e w2 ⟨rfl, hb2⟩
  have HB2 := Lib.hid (I5.out.trans (hb2.mono I5.out.size))
  clear hb2 i1 i2 I5 haA haB
  go_wp2_with fail
  go_loopw [10] (fun i wr => ∃ k : Nat, i = .int .i64 k ∧ k ≤ 20 ∧ Hid (∀ j, j < k → X[j]? = some 0) ∧ wr = w2) (fun i _ => 20 - (intOf i).toNat)
  case atStart => exact ⟨0, rfl, by omega, Lib.hid (fun j hj => by omega), rfl⟩
  case round =>
    obtain ⟨k, rfl, hk, HZ, rfl⟩ := hrel
    by_cases hlt : k < 20
    · obtain ⟨x, hx⟩ : ∃ x, X[k]? = some x := ⟨X[k]'(by omega), List.getElem?_eq_getElem _⟩
      have hi := index_ID wr X HL.out k x hx
      have hk5 : (k : Int) < 20 := by omega
      have hx256 := x.toNat_lt
      by_cases h0 : x = 0
      · subst h0
        have HX0 := Lib.hid hx
        clear hx
        have hi0 : (Instr.index 34 (.agg (bytesV X).toArray) (.int .i64 (k : Int))).run Try.prog wr = .ok (.int .u8 0) wr := hi
        clear hi
        go_wp2_with fail
        go_roundw
        case rel => exact ⟨k + 1, by go_num, by omega, Lib.hid (fun j hj => by by_cases h : j = k; exact h ▸ HX0.out; exact HZ.out j (by omega)), trivial⟩
        case measure => simp [intOf]; omega
      · have hne : x.toNat ≠ 0 := fun e => h0 (UInt8.toNat_inj.1 e)
        have hl8 := (lz8_lt x h0).1
        have hlz := fun w => bits_LeadingZeros8 x w
        have hpr : prefB X = 8 * k + lz8 x := by
          have hklt : k < X.length := by omega
          have hxk : X[k] = x := by rw [List.getElem?_eq_getElem hklt] at hx; exact Option.some.inj hx
          rw [HD.out k HZ.out, List.drop_eq_getElem_cons hklt, hxk]
          show 8 * k + (if x = 0 then _ else lz8 x) = _
          rw [if_neg h0]
        have HPR := Lib.hid hpr
        have HLZ := Lib.hid hlz
        clear hlz hx hpr h0 hpl
        generalize lz8 x = z at *
        generalize x.toNat = xn at *
        have hxi : (xn : Int) ≠ 0 := by omega
        go_wp2_with fail
        refine (HLZ.out _).mono ?_; rintro e w3 ⟨rfl, rfl⟩
        go_wp2_with fail
        go_ret
        exact ⟨by rw [HPR.out]; congr 2, HB2.out⟩
    · have hk20 : k = 20 := by omega
      have hpr : prefB X = 160 := by
        rw [HD.out k HZ.out, hk20, List.drop_eq_nil_of_le (by omega)]; rfl
      have HPR := Lib.hid hpr
      have hge : (20 : Int) ≤ (k : Int) := by omega
      clear hk20 hpr
      go_wp2_with fail
      go_ret
      exact ⟨by rw [HPR.out]; rfl, HB2.out⟩

theorem bytesOf_row (w : World) (g : Nat) (cap : Nat) (l : List UInt8) (h : Row w ⟨g, 0, none⟩ (bytesV l)) : (Extern.Bytes.bytesOf (.slice (some ⟨g, 0, none⟩) l.length cap)).run Try.prog w = .ok ⟨l.toArray⟩ w := by
  have hb : Lib.bytesOf (l.map fun x => (x.toNat : Int)) = l := by
    simp [Lib.bytesOf, Function.comp_def]
  have h1 := Lib.run_loadBytesX (P := Try.prog) w (l.map fun x => (x.toNat : Int)) ⟨g, 0, none⟩ .empty (fun j x hx => by
    simp only [List.getElem?_map, Option.map_eq_some_iff] at hx
    obtain ⟨y, hy, rfl⟩ := hx
    exact h j _ (by simp [bytesV, hy, byteV]))
  rw [List.length_map, hb] at h1
  rw [show Extern.Bytes.bytesOf (.slice (some ⟨g, 0, none⟩) l.length cap) = Extern.Bytes.loadBytes ⟨g, 0, none⟩ l.length .empty from rfl, h1]
  congr 1
  apply ByteArray.ext
  simp [ByteArray.empty, ByteArray.emptyWithCapacity]
  rfl

theorem call_Compare (w : World) (g k : Nat) (c d : Nat) (a b : List UInt8) (ha : Row w ⟨g, 0, none⟩ (bytesV a)) (hb : Row w ⟨k, 0, none⟩ (bytesV b)) :
    (callFunc 91 #[.slice (some ⟨g, 0, none⟩) a.length c, .slice (some ⟨k, 0, none⟩) b.length d]).run Try.prog w = .ok (.value (.int .i64 (Lib.compareBytes a b))) w := by
  rw [run_callFunc_extern Try.func91 (by kernel_rfl) (by kernel_rfl) (by kernel_rfl) (e := Extern.BytealgCompare.compare) (by kernel_rfl)]
  change ((Sem.run Try.prog (do pure (goInt (Extern.BytealgCompare.cmp (← Extern.Bytes.bytesOf (.slice (some ⟨g, 0, none⟩) a.length c)) (← Extern.Bytes.bytesOf (.slice (some ⟨k, 0, none⟩) b.length d))))) w)).andThen _ = _
  simp only [Sem.run_bind, Sem.run_pure, bytesOf_row w g c a ha, bytesOf_row w k d b hb, Result.andThen_ok]
  rw [Lib.cmp_eq]
  rfl

set_option maxRecDepth 100000 in
set_option maxHeartbeats 1000000 in
theorem bytes_Compare (w : World) (g k : Nat) (a b : List UInt8) (hla : a.length = 20) (hlb : b.length = 20) (ha : Row w ⟨g, 0, none⟩ (bytesV a)) (hb : Row w ⟨k, 0, none⟩ (bytesV b)) :
    Calls Try.prog 70 #[.slice (some ⟨g, 0, none⟩) 20 20, .slice (some ⟨k, 0, none⟩) 20 20] w fun e w' => e = .returned (.int .i64 (Lib.compareBytes a b)) ∧ w = w' := by
  have hc := call_Compare w g k 20 20 a b ha hb
  rw [hla, hlb] at hc
  generalize Lib.compareBytes a b = r at *
  clear ha hb
  go_enter Try.func70, Try.ntmps70
  go_wp2
  go_ret
  exact ⟨rfl, rfl⟩

set_option maxRecDepth 100000 in
set_option maxHeartbeats 1000000 in
theorem ident_Cmp (a b : List UInt8) (ha : a.length = 20) (hb : b.length = 20) (w : World) :
    Calls Try.prog 43 #[.agg (bytesV a).toArray, .agg (bytesV b).toArray] w fun e w' => e = .returned (.int .i64 (Lib.compareBytes a b)) ∧ Below w.heap.size w w' := by
  have sa := bytes_size ha
  have sb := bytes_size hb
  have i1 : Row ((w.alloc (.cells (bytesV a).toArray 34)).alloc (.cells (bytesV b).toArray 34)) ⟨w.heap.size, 0, none⟩ (bytesV a) := (BB.row (BB.alloc (T := 34) (l := a) (heap_alloc_new _ _) _))
  have i2 : Row ((w.alloc (.cells (bytesV a).toArray 34)).alloc (.cells (bytesV b).toArray 34)) ⟨w.heap.size + 1, 0, none⟩ (bytesV b) := (BB.row (T := 34) (l := b) (heap_alloc2_new _ _ _))
  have i5 : Hid (Below w.heap.size w ((w.alloc (.cells (bytesV a).toArray 34)).alloc (.cells (bytesV b).toArray 34))) := Lib.hid (((Below.refl _ _).alloc (Nat.le_refl _) _).alloc (by simp) _)
  have hc := bytes_Compare (((w.alloc (.cells (bytesV a).toArray 34)).alloc (.cells (bytesV b).toArray 34)).drew) _ _ a b ha hb i1 i2
  have HC := Lib.hid hc
  generalize Lib.compareBytes a b = r at *
  clear hc i1 i2
  go_enter Try.func43, Try.ntmps43
  go_wp2_with fail
  go_region_law (first
    | (go_simp; go_at_call 70; refine HC.out.mono ?_; rintro e w3 ⟨rfl, rfl⟩))
  all_goals
    go_wp2_with fail
    go_ret
    exact ⟨rfl, below_drewN i5.out 1⟩
end Go.Proofs.Ytgdiajhegmdfgaa
