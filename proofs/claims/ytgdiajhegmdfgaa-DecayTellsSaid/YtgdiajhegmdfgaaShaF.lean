/-
  Hashes in the walk: New, none, Write. Conditions: the bytes stand in the slices' cells.
-/
import Derived.Test.YtgdiajhegmdfgaaShaE
import Derived.Deep.RegionLaw
namespace Go.Proofs.Ytgdiajhegmdfgaa
open Go.RowKit

/-- The five words behind k blocks. -/
def blocks (hs : Nat → Nat) (l : List UInt8) : Nat → (Nat → Nat)
  | 0 => hs
  | k + 1 => eatH (blocks hs l k) ((l.drop (64 * k)).take 64)
theorem blocks_lt (hs : Nat → Nat) (l : List UInt8) (hh : ∀ j, hs j < 4294967296) : ∀ k j, blocks hs l k j < 4294967296
  | 0, j => hh j
  | k + 1, j => eatH_lt _ _ j

/-- A hash's cells. -/
def hcells (hs : Nat → Nat) (v : Value) (n : Nat) : Array Value :=
  #[.bool true, .int .u32 (hs 0 : Int), .int .u32 (hs 1 : Int), .int .u32 (hs 2 : Int), .int .u32 (hs 3 : Int), .int .u32 (hs 4 : Int), v, .int .u64 (n : Int)]

/-- A hash's block. -/
def HBlk (w : World) (g : Nat) (hs : Nat → Nat) (v : Value) (n : Nat) : Prop := w.heap[g]? = some (.cells (hcells hs v n) 103 (0, 0))

structure IsHash (w : World) (g : Nat) (hs : Nat → Nat) (l : List UInt8) (n : Nat) : Prop where
  ex : ∃ A cap, HBlk w g hs (.slice A l.length cap) n ∧ Bytes w A l ∧ ∀ ad, A = some ad → ad.block ≠ g

theorem HBlk.cell {w : World} {g : Nat} {hs : Nat → Nat} {v : Value} {n : Nat} (h : HBlk w g hs v n) (j : Nat) (x : Value) (hx : (hcells hs v n)[j]? = some x) : w.cell? ⟨g, j, none⟩ = some x := by
  rw [cell_of_row w g j _ _ _ h, hx]
theorem HBlk.free {w : World} {g : Nat} {hs : Nat → Nat} {v : Value} {n : Nat} (h : HBlk w g hs v n) (j : Nat) : w.frozen? ⟨g, j, none⟩ = false := frozen_of_row w g j _ _ h
theorem HBlk.far {w w' : World} {g : Nat} {hs : Nat → Nat} {v : Value} {n : Nat} {S : Nat → Prop} (h : HBlk w g hs v n) (ho : Only S w w') (hg : ¬ S g) : HBlk w' g hs v n :=
  (ho.block g (by
    have h1 : w.heap[g]? = some _ := h
    rw [Array.getElem?_eq_some_iff] at h1
    exact h1.1) hg).trans h
theorem HBlk.lt {w : World} {g : Nat} {hs : Nat → Nat} {v : Value} {n : Nat} (h : HBlk w g hs v n) : g < w.heap.size := by
  have h1 : w.heap[g]? = some _ := h
  rw [Array.getElem?_eq_some_iff] at h1
  exact h1.1
theorem HBlk.setN {w : World} {g : Nat} {hs : Nat → Nat} {v : Value} {n : Nat} (h : HBlk w g hs v n) (m : Nat) : HBlk (w.setCell ⟨g, 7, none⟩ (.int .u64 (m : Int))) g hs v m := heap_setCell_same w g 7 _ _ (.int .u64 (m : Int)) h
theorem HBlk.setV {w : World} {g : Nat} {hs : Nat → Nat} {v : Value} {n : Nat} (h : HBlk w g hs v n) (u : Value) : HBlk (w.setCell ⟨g, 6, none⟩ u) g hs u n := heap_setCell_same w g 6 _ _ u h

set_option maxHeartbeats 400000 in
theorem hash_none_nil (w : World) : Calls Try.prog 78 #[.pointer none] w fun e w' => e = .returned (.bool true) ∧ w = w' := by
  go_enter Try.func78, Try.ntmps78
  go_wp2
  go_ret
  exact ⟨rfl, rfl⟩

set_option maxHeartbeats 400000 in
theorem hash_none_cell (g : Nat) (b : Bool) (w : World) (h : w.cell? ⟨g, 0, none⟩ = some (.bool b)) : Calls Try.prog 78 #[.pointer (some ⟨g, 0, none⟩)] w fun e w' => e = .returned (.bool (!b)) ∧ w = w' := by
  go_enter Try.func78, Try.ntmps78
  go_wp2
  go_ret
  exact ⟨rfl, rfl⟩

/-- The five words ahead of all blocks. -/
def begin0 (j : Nat) : Nat := if j = 0 then 1732584193 else if j = 1 then 4023233417 else if j = 2 then 2562383102 else if j = 3 then 271733878 else 3285377520
theorem begin0_lt (j : Nat) : begin0 j < 4294967296 := by
  unfold begin0
  split
  · decide
  split
  · decide
  split
  · decide
  split <;> decide

set_option maxHeartbeats 400000 in
theorem hash_New (w : World) : Calls Try.prog 65 #[] w fun e w' => ∃ g, e = .returned (.pointer (some ⟨g, 0, none⟩)) ∧ IsHash w' g begin0 [] 0 ∧ Below w.heap.size w w' ∧ w.heap.size ≤ g := by
  go_enter Try.func65, Try.ntmps65
  go_wp2_with fail
  refine (begin_any _).mono ?_; rintro e w2 ⟨rfl, hb⟩
  go_wp2
  go_ret
  have hblk : HBlk (w2.alloc (.cells #[.bool true, .int .u32 1732584193, .int .u32 4023233417, .int .u32 2562383102, .int .u32 271733878, .int .u32 3285377520, .slice none 0 0, .int .u64 0] 103)) w2.heap.size begin0 (.slice none 0 0) 0 := heap_alloc_new _ _
  exact ⟨_, rfl, ⟨none, 0, hblk, ⟨fun _ => rfl, fun ad h => by cases h⟩, fun ad h => by cases h⟩, hb.alloc hb.size _, hb.size⟩

section
variable {P : Program} {w : World}
/-- A part of a block is stored. -/
theorem wpList_store_part {ops : Array Oper} {rest : List Oper} {o : Oper} {a : Act} {Q : Exit → Act → World → Prop} (hgd : o.guard = none) (ty : TypeId) (x y : Operand) (ho : o.op = .store ty x y)
    (g off : Nat) (hx : a.eval x = .pointer (some ⟨g, off, none⟩)) (cs : List Value) (hy : a.eval y = .agg cs.toArray) (cur : Array Value) (t : TypeId) (hg : w.heap[g]? = some (.cells cur t (0, 0)))
    (n : Nat) (hn : (P.info? ty).map (·.size) = some n) (hl : cs.length = n) (hz : off + n ≤ cur.size) (h1 : ∀ v ∈ cs, v.oneCell' = true)
    (h : wpList P ops Q rest (a.put o.dst undef) (w.setRow g (cur.toList.take off ++ cs ++ cur.toList.drop (off + n)).toArray)) : wpList P ops Q (o :: rest) a w := by
  refine wpList_plain hgd fun _ hK => ?_
  have hst := run_storeCells_at P g off t cs 0 cur w hg (by omega) h1
  rw [hl] at hst
  simp only [Nat.add_zero] at hst
  have hr : (storeVar ty ⟨g, off, none⟩ (.agg cs.toArray)).run P w = .ok () (w.setRow g (cur.toList.take off ++ cs ++ cur.toList.drop (off + n)).toArray) := by
    cases hq : P.info? ty with
    | none => simp [hq] at hn
    | some i =>
      have hi : i.size = n := by simpa [hq] using hn
      simp [storeVar, sizeOf, typeInfo, hq, hi, hl, hst, Value.cells]
  unfold Oper.wp execOp
  simp only [ho, hx, hy, Instr.storeAt, Instr.sureAddr, Sem.run_bind, Sem.run_pure, Result.andThen_ok, hr]
  exact hK _ _ h
/-- The same, as one step of a region that draws its order. -/
theorem step_store_part {ops : Array Oper} {o : Oper} {a : Act} {K : Act → World → Prop} {Q : Exit → Act → World → Prop} {E : Prop} (hgd : o.guard = none) (ty : TypeId) (x y : Operand) (ho : o.op = .store ty x y)
    (g off : Nat) (hx : a.eval x = .pointer (some ⟨g, off, none⟩)) (cs : List Value) (hy : a.eval y = .agg cs.toArray) (cur : Array Value) (t : TypeId) (hg : w.heap[g]? = some (.cells cur t (0, 0)))
    (n : Nat) (hn : (P.info? ty).map (·.size) = some n) (hl : cs.length = n) (hz : off + n ≤ cur.size) (h1 : ∀ v ∈ cs, v.oneCell' = true)
    (h : K (a.put o.dst undef) (w.setRow g (cur.toList.take off ++ cs ++ cur.toList.drop (off + n)).toArray)) :
    if Region.wanted o (yielded ops a.tmps) = true then Oper.wp P o a w K Q else E := by
  rw [if_pos (by simp [Region.wanted, hgd])]
  have hst := run_storeCells_at P g off t cs 0 cur w hg (by omega) h1
  rw [hl] at hst
  simp only [Nat.add_zero] at hst
  have hr : (storeVar ty ⟨g, off, none⟩ (.agg cs.toArray)).run P w = .ok () (w.setRow g (cur.toList.take off ++ cs ++ cur.toList.drop (off + n)).toArray) := by
    cases hq : P.info? ty with
    | none => simp [hq] at hn
    | some i =>
      have hi : i.size = n := by simpa [hq] using hn
      simp [storeVar, sizeOf, typeInfo, hq, hi, hl, hst, Value.cells]
  unfold Oper.wp execOp
  simp only [ho, hx, hy, Instr.storeAt, Instr.sureAddr, Sem.run_bind, Sem.run_pure, Result.andThen_ok, hr]
  exact h
end

/-- Five words of a hash set. -/
def set5 (w : World) (g : Nat) (x : Nat → Nat) : World :=
  ((((w.setCell ⟨g, 1, none⟩ (.int .u32 (x 0 : Int))).setCell ⟨g, 2, none⟩ (.int .u32 (x 1 : Int))).setCell ⟨g, 3, none⟩ (.int .u32 (x 2 : Int))).setCell ⟨g, 4, none⟩ (.int .u32 (x 3 : Int))).setCell ⟨g, 5, none⟩ (.int .u32 (x 4 : Int))
theorem HBlk.set5 {w : World} {g : Nat} {hs : Nat → Nat} {v : Value} {n : Nat} (h : HBlk w g hs v n) (x : Nat → Nat) : HBlk (set5 w g x) g x v n :=
  heap_setCell_same _ g 5 _ _ _ (heap_setCell_same _ g 4 _ _ _ (heap_setCell_same _ g 3 _ _ _ (heap_setCell_same _ g 2 _ _ _ (heap_setCell_same _ g 1 _ _ _ h))))
theorem Only.set5 (w : World) (g : Nat) (x : Nat → Nat) : Only (· = g) w (set5 w g x) :=
  ((((Only.set_ _ _ _ _).trans (Only.set_ _ _ _ _)).trans (Only.set_ _ _ _ _)).trans (Only.set_ _ _ _ _)).trans (Only.set_ _ _ _ _)

theorem u64_add (a b : Nat) : IntKind.u64.wrap ((a : Int) + (b : Int)) = (((a + b) % 18446744073709551616 : Nat) : Int) := by
  rw [IntKind.wrap_u64]
  omega

theorem Bytes.only {w w' : World} {A : Option Addr} {l : List UInt8} {S : Nat → Prop} (h : Bytes w A l) (ho : Only S w w') (hs : ∀ ad, A = some ad → l ≠ [] → ad.block < w.heap.size → ¬ S ad.block) : Bytes w' A l :=
  ⟨h.nil_, fun ad had j v hv => by
    have h1 := h.row ad had j v hv
    exact (ho.cell (block_lt_of_cell h1) (by rw [add_block]; exact hs ad had (by rintro rfl; cases hv) (by have := block_lt_of_cell h1; rwa [add_block] at this))).trans h1⟩

theorem SL.src {w : World} {base n : Nat} {v : Value} {l : List UInt8} (h : SL w base 5 1 v n (bytesV l)) : Src Try.prog 1 23 v n (bytesV l) w := by
  have hl := h.1
  obtain ⟨A, cap, rfl, _, _, hn, hs⟩ := SL.shape h
  exact src_of_row Try.underlying23 hl (fun h => (hn h).1) (fun ad h => (hs ad h).2.1) (bytesV_one l)

theorem Bytes.take {w : World} {ad : Addr} {l : List UInt8} (h : Row w ad (bytesV l)) (n : Nat) : Bytes w (some ad) (l.take n) :=
  ⟨(fun h => by cases h), fun ad' had j v hv => by
    obtain rfl := Option.some.inj had
    exact h j v (by
      simp only [bytesV, List.getElem?_map, List.getElem?_take] at hv ⊢
      split at hv
      · exact hv
      · cases hv)⟩

def slen : Value → Nat
  | .slice _ n _ => n
  | _ => 0

set_option maxRecDepth 100000 in
set_option maxHeartbeats 1000000 in
theorem hash_Write (g : Nat) (hs : Nat → Nat) (hh : ∀ j, hs j < 4294967296) (l : List UInt8) (n : Nat) (B : Option Addr) (cb : Nat) (lb : List UInt8) (lenb : Nat) (hlenb : lenb = lb.length) (hbd : lenb ≤ 1048576) (hl : l.length < 64) (w : World) (h : IsHash w g hs l n) (hb : Bytes w B lb) (hbn : ∀ ad, B = some ad → lb ≠ [] → ad.block ≠ g) :
    Calls Try.prog 66 #[.pointer (some ⟨g, 0, none⟩), .slice B lenb cb] w fun e w' => e = .returned (.int .i64 0) ∧
      IsHash w' g (blocks hs (l ++ lb) ((l ++ lb).length / 64)) ((l ++ lb).drop (64 * ((l ++ lb).length / 64))) ((n + lenb) % 18446744073709551616) ∧ Only (· = g) w w' := by
  obtain ⟨i0, hi0, hz0, hz1, hz2⟩ := info_parts infoByte
  obtain ⟨A, cap, hblk, hA, hne⟩ := h.ex
  have HN := Lib.hid hne
  have k0 : w.cell? ⟨g, 0, none⟩ = some (.bool true) := hblk.cell 0 _ rfl
  have k7 : w.cell? ⟨g, 7, none⟩ = some (.int .u64 (n : Int)) := hblk.cell 7 _ rfl
  have k6 : w.cell? ⟨g, 6, none⟩ = some (.slice A l.length cap) := hblk.cell 6 _ rfl
  have z7 := hblk.free 7
  have e1 := u64_add n lenb
  obtain ⟨N, hN⟩ : ∃ N, (n + lenb) % 18446744073709551616 = N := ⟨_, rfl⟩
  rw [hN] at e1 ⊢
  have e2 : IntKind.u64.wrap (lenb : Int) = (lenb : Int) := by rw [IntKind.wrap_u64]; omega
  have HG := Lib.hid hblk
  have HB := Lib.hid hb
  have HA := Lib.hid hA
  have HL := Lib.hid hlenb
  clear h hblk hb hA hN hne hlenb
  obtain ⟨L, hL⟩ : ∃ L, l ++ lb = L := ⟨_, rfl⟩
  have hLl : L.length = l.length + lenb := by rw [← hL, List.length_append, HL.out]
  rw [hL]
  have HF : Hid (SL ((w.setCell ⟨g, 7, none⟩ (.int .u64 (N : Int))).alloc (.cells #[] 5)) w.heap.size 5 1 (.slice (some ⟨w.heap.size, 0, none⟩) 0 0) 0 []) :=
    SL.mk_ (n := 0) (cur := #[]) (Nat.le_refl _) (by have := heap_alloc_new (w.setCell ⟨g, 7, none⟩ (.int .u64 (N : Int))) (.cells #[] 5); rwa [World.size_setCell] at this) (Nat.le_refl _) (by simp) (by simp)
  have ho1 : Only (· = g) w ((w.setCell ⟨g, 7, none⟩ (.int .u64 (N : Int))).alloc (.cells #[] 5)) :=
    (Only.set_ w g 7 (.int .u64 (N : Int))).trans (Only.of_below ((Below.refl _ _).alloc (Nat.le_refl _) _))
  have hg1 : HBlk ((w.setCell ⟨g, 7, none⟩ (.int .u64 (N : Int))).alloc (.cells #[] 5)) g hs (.slice A l.length cap) N :=
    HBlk.far (S := fun _ => False) (HBlk.setN HG.out N) (Only.of_below ((Below.refl _ _).alloc (Nat.le_refl _) _)) id
  have k6' : ((w.setCell ⟨g, 7, none⟩ (.int .u64 (N : Int))).alloc (.cells #[] 5)).cell? ⟨g, 6, none⟩ = some (.slice A l.length cap) := hg1.cell 6 _ rfl
  have HA1 := Lib.hid ((HA.out.only ho1 fun ad h _ _ => HN.out ad h).src (N := l.length) (cap := cap) rfl)
  have HO1 := Lib.hid ho1
  have HG1 := Lib.hid hg1
  have hbase : w.heap.size ≤ ((w.setCell ⟨g, 7, none⟩ (.int .u64 (N : Int))).alloc (.cells #[] 5)).heap.size := ho1.size
  have HBS := Lib.hid hbase
  have HBN := Lib.hid hbn
  clear ho1 hg1 hbase hbn
  go_enter Try.func66, Try.ntmps66
  go_wp2_with fail
  refine (hash_none_cell g true _ k0).mono ?_; rintro e w2 ⟨rfl, rfl⟩
  have hgB := HG.out.lt
  go_wp2_with (first
    | (at_builtin; refine wpList_append_SL rfl (.tmp 18) (.tmp 22) 23 23 rfl w.heap.size 5 i0 _ 1 1 Try.underlying23 hi0 hz0 hz1 hz2 rfl (by omega) _ 0 [] rfl HF.out _ l.length (bytesV l) rfl HA1.out (by simp only [maxLen]; omega) (by omega) HBS.out ?_; intro v1 w1 hsl1 hgr1 hob1
       have P1 : Only (fun k => w.heap.size ≤ k) _ w1 := Only.of_grown hgr1 fun k hk _ => Nat.le_of_eq (Option.some.inj hk)
       have HS1 : Hid (SL w1 w.heap.size 5 1 v1 (0 + l.length) ([] ++ bytesV l)) := Lib.hid hsl1
       have HG2 := Lib.hid (HG1.out.far P1 (by omega))
       have HO2 := Lib.hid (Only.trans (HO1.out.mono (S' := fun k => k = g ∨ w.heap.size ≤ k) fun k _ hk => .inl hk) (P1.mono fun k _ hk => .inr hk))
       have HBB := Lib.hid ((HB.out.only HO2.out fun ad had hnl hlt => by have := HBN.out ad had hnl; omega).src (N := lenb) (cap := cb) HL.out)
       have HB2 := Lib.hid (Nat.le_trans HBS.out P1.size)
       clear P1 hsl1 hgr1 hob1)
    | (at_builtin; refine wpList_append_SL rfl (.tmp 23) (.tmp 24) 23 23 rfl w.heap.size 5 i0 _ 1 1 Try.underlying23 hi0 hz0 hz1 hz2 rfl (by omega) _ (0 + l.length) _ rfl HS1.out _ lenb (bytesV lb) rfl HBB.out (by simp only [maxLen]; omega) (by omega) HB2.out ?_; intro v2 w3 hsl2 hgr2 hob2))
  have P2 : Only (fun k => w.heap.size ≤ k) w1 w3 := Only.of_grown hgr2 fun k hk _ => (SL.block_lt HS1.out hk).2
  have HG3 := Lib.hid (HG2.out.far P2 (by omega))
  have HO3 := Lib.hid (HO2.out.trans (P2.mono fun k _ hk => .inr hk))
  have HS3 : Hid (SL w3 w.heap.size 5 1 v2 L.length (bytesV L)) := by
    have := hsl2
    rw [List.nil_append, ← bytesV_append, hL, Nat.zero_add, ← hLl] at this
    exact Lib.hid this
  obtain ⟨A2, c2, rfl, _⟩ := SL.shape HS3.out
  have BL := Lib.hid (blocks_lt hs L hh)
  have HLl := Lib.hid hLl
  clear hLl
  clear hsl2 hgr2 hob2 P2 HS1 HBB HG2 HO2 HB2 HF HA1 HO1 HG1 HBS k0 k6 k7 z7 k6' e1 e2 hi0 hz0 hz1 hz2 hh hL
  go_loopw [5] (fun v wr => ∃ k : Nat, 64 * k ≤ L.length ∧ ∃ A' c', v = .slice A' (L.length - 64 * k) c' ∧ Hid (SL wr w.heap.size 5 1 v (L.length - 64 * k) (bytesV (L.drop (64 * k)))) ∧ Hid (HBlk wr g (blocks hs L k) (.slice A l.length cap) N) ∧ Hid (Only (fun k => k = g ∨ w.heap.size ≤ k) w wr)) (fun v _ => slen v)
  case atStart => exact ⟨0, by omega, A2, c2, rfl, HS3, HG3, HO3⟩
  case round =>
    obtain ⟨k, hk, A', c', rfl, HV, HH, HO⟩ := hrel
    clear HS3 HG3 HO3
    by_cases hlt : 64 ≤ L.length - 64 * k
    · obtain ⟨ad, rfl⟩ : ∃ ad, A' = some ad := by
        cases A' with
        | some ad => exact ⟨ad, rfl⟩
        | none =>
          obtain ⟨_, _, he, _, _, hn, _⟩ := SL.shape HV.out
          injection he with he1 _ _
          have := (hn he1.symm).1
          omega
      obtain ⟨m, hm⟩ : ∃ m, L.length - 64 * k = m := ⟨_, rfl⟩
      rw [hm] at HV hlt ⊢
      obtain ⟨_, _, he, hmc, hcm, _, hs'⟩ := SL.shape HV.out
      injection he with he1 _ he2
      subst he1; subst he2
      obtain ⟨hown, hrow, hspot⟩ := hs' ad rfl
      obtain ⟨ab, ao, asp⟩ := ad
      obtain rfl : asp = none := hspot
      have HT := Lib.hid (Bytes.take hrow 64)
      have hlt64 : ((L.drop (64 * k)).take 64).length = 64 := by rw [List.length_take, List.length_drop]; omega
      obtain ⟨b, hbe⟩ : ∃ b, blocks hs L k = b := ⟨_, rfl⟩
      have hbl := BL.out k
      rw [hbe] at HH hbl
      have c1 : wr.cell? ⟨g, 1, none⟩ = some (.int .u32 (b 0 : Int)) := HH.out.cell 1 _ rfl
      have c2 : wr.cell? ⟨g, 2, none⟩ = some (.int .u32 (b 1 : Int)) := HH.out.cell 2 _ rfl
      have c3 : wr.cell? ⟨g, 3, none⟩ = some (.int .u32 (b 2 : Int)) := HH.out.cell 3 _ rfl
      have c4 : wr.cell? ⟨g, 4, none⟩ = some (.int .u32 (b 3 : Int)) := HH.out.cell 4 _ rfl
      have c5 : wr.cell? ⟨g, 5, none⟩ = some (.int .u32 (b 4 : Int)) := HH.out.cell 5 _ rfl
      have hc64 : (64 : Int) ≤ (c' : Int) := by omega
      have hm64 : (64 : Int) ≤ (m : Int) := by omega
      obtain ⟨x, hx⟩ : ∃ x, eatH b ((L.drop (64 * k)).take 64) = x := ⟨_, rfl⟩
      have HE : Hid (Calls Try.prog 79 #[.agg #[.int .u32 (b 0 : Int), .int .u32 (b 1 : Int), .int .u32 (b 2 : Int), .int .u32 (b 3 : Int), .int .u32 (b 4 : Int)], .slice (some ⟨ab, ao, none⟩) 64 c'] wr.drew fun e w' =>
          e = .returned (.agg #[.int .u32 (x 0 : Int), .int .u32 (x 1 : Int), .int .u32 (x 2 : Int), .int .u32 (x 3 : Int), .int .u32 (x 4 : Int)]) ∧ Below wr.drew.heap.size wr.drew w') :=
        Lib.hid (by
          have := eat_any b hbl (some ⟨ab, ao, none⟩) c' ((L.drop (64 * k)).take 64) wr.drew (Bytes.below (w := wr) HT.out ⟨rfl, rfl, rfl, Nat.le_refl _, fun _ _ => rfl⟩) hlt64 (by omega) hcm
          rw [hx, wcells5, wcells5] at this
          exact this)
      have HX := Lib.hid hx
      clear hx
      have HM := Lib.hid hm
      clear hs' hown hrow hbl hlt64 hm
      go_wp2_with fail
      go_region_law (first
        | (go_simp; go_at_call 79; refine HE.out.mono ?_; rintro e w4 ⟨rfl, hb4⟩
           have HH4 := Lib.hid (HBlk.far (S := fun _ => False) HH.out (Only.of_drew (Only.of_below hb4)) id)
           have q1 : w4.cell? ⟨g, 1, none⟩ = some (.int .u32 (b 0 : Int)) := HH4.out.cell 1 _ rfl
           have q2 : w4.cell? ⟨g, 2, none⟩ = some (.int .u32 (b 1 : Int)) := HH4.out.cell 2 _ rfl
           have q3 : w4.cell? ⟨g, 3, none⟩ = some (.int .u32 (b 2 : Int)) := HH4.out.cell 3 _ rfl
           have q4 : w4.cell? ⟨g, 4, none⟩ = some (.int .u32 (b 3 : Int)) := HH4.out.cell 4 _ rfl
           have q5 : w4.cell? ⟨g, 5, none⟩ = some (.int .u32 (b 4 : Int)) := HH4.out.cell 5 _ rfl
           have z1 := HH4.out.free 1
           have z2 := HH4.out.free 2
           have z3 := HH4.out.free 3
           have z4 := HH4.out.free 4
           have z5 := HH4.out.free 5))
      have HH5 := Lib.hid (HH4.out.set5 x)
      have ho5 : Only (· = g) wr (set5 w4 g x) := (Only.of_drew (Only.of_below hb4)).trans (Only.set5 w4 g x)
      have hvn : ∀ g', (Value.slice (some ⟨ab, ao, none⟩) m c').ownBlock = some g' → ¬ g' = g := fun g' hg' => by
        have := (SL.block_lt HV.out hg').2
        omega
      have HV5 := Lib.hid (HV.out.only ho5 hvn)
      have HO5 := Lib.hid (HO.out.trans (ho5.mono fun k _ hk => .inl hk))
      clear hb4 HH4 q1 q2 q3 q4 q5 z1 z2 z3 z4 z5 ho5 hvn HE HT c1 c2 c3 c4 c5
      change Exit.then _ _ _ _ (set5 w4 g x)
      generalize set5 w4 g x = w5 at *
      have hdrop : ((bytesV (L.drop (64 * k))).drop (64 * 1)).take ((m - 64) * 1) = bytesV (L.drop (64 * (k + 1))) := by
        have e : L.drop (64 * (k + 1)) = (L.drop (64 * k)).drop 64 := by rw [List.drop_drop]; congr 1
        rw [e]
        unfold bytesV
        rw [← List.map_drop, Nat.mul_one]
        exact List.take_of_length_le (by rw [List.length_map, List.length_drop, List.length_drop]; have := HM.out; omega)
      have hcut := SL.cut HV5.out (lo := 64) (hi := m) (by omega) (Nat.le_refl m)
      rw [hdrop] at hcut
      have HC := Lib.hid hcut
      have HHk : Hid (HBlk w5 g (blocks hs L (k + 1)) (.slice A l.length cap) N) := by
        have e : blocks hs L (k + 1) = x := by
          show eatH (blocks hs L k) _ = x
          rw [hbe]; exact HX.out
        rw [e]; exact HH5
      clear hcut hdrop
      have HMC := Lib.hid hmc
      by_cases hc : c' = 64
      · have HC' := HC.out
        rw [if_pos hc] at HC'
        have HC2 := Lib.hid HC'
        clear HC' HC
        go_wp2_with fail
        have hm1 : L.length - 64 * (k + 1) = m - 64 := by have := HM.out; omega
        have hc1 : c' - 64 = 0 := by omega
        refine ⟨⟨k + 1, by have := HM.out; omega, some ⟨ab, ao, none⟩, 0, by rw [hm1], Lib.hid ?_, HHk, HO5⟩, by simp only [slen]; omega⟩
        have := HC2.out
        rw [hc1] at this
        rw [hm1]
        exact this
      · have HC' := HC.out
        rw [if_neg hc] at HC'
        have HC2 := Lib.hid HC'
        clear HC' HC
        go_wp2_with fail
        have hm1 : L.length - 64 * (k + 1) = m - 64 := by have := HM.out; omega
        refine ⟨⟨k + 1, by have := HM.out; omega, some ⟨ab, ao + 64, none⟩, c' - 64, by rw [hm1], Lib.hid ?_, HHk, HO5⟩, by simp only [slen]; omega⟩
        rw [hm1]
        exact HC2.out
    · have q6 : wr.cell? ⟨g, 6, none⟩ = some (.slice A l.length cap) := HH.out.cell 6 _ rfl
      have z6 := HH.out.free 6
      obtain ⟨m, hm⟩ : ∃ m, L.length - 64 * k = m := ⟨_, rfl⟩
      rw [hm] at HV hlt ⊢
      have hkd : L.length / 64 = k := by omega
      have HM := Lib.hid hm
      have HK := Lib.hid hkd
      clear hm hkd
      go_wp2_with fail
      go_ret
      obtain ⟨A3, c3, he, hmc, hcm, hn, hs'⟩ := SL.shape HV.out
      injection he with he1 _ he2
      subst he1; subst he2
      have hne2 : ∀ ad, A' = some ad → ad.block ≠ g := fun ad had => by
        have := (SL.block_lt HV.out (hs' ad had).1).2
        omega
      have hln : (L.drop (64 * k)).length = m := by rw [List.length_drop]; exact HM.out
      have ho6 := Only.set_ wr g 6 (.slice A' m c')
      have hBy : Bytes wr A' (L.drop (64 * k)) := ⟨fun h => List.eq_nil_of_length_eq_zero (by rw [hln]; exact (hn h).1), fun ad had => (hs' ad had).2.1⟩
      refine ⟨rfl, ?_, ?_⟩
      · rw [HK.out]
        refine ⟨A', c', ?_, hBy.only ho6 fun ad had _ _ => hne2 ad had, hne2⟩
        rw [hln]
        exact HH.out.setV _
      · exact (HO.out.trans (ho6.mono fun k _ hk => .inl hk)).mono fun k hk h => h.elim id fun h => absurd h (by omega)
end Go.Proofs.Ytgdiajhegmdfgaa
