/-
  metric.Sort. Conditions: the ids are twenty bytes; at most a million of them.
-/
import Derived.Test.YtgdiajhegmdfgaaMetS
import Derived.Laws.MakeOwn
import Derived.Laws.CopyRow
namespace Go.Proofs.Ytgdiajhegmdfgaa
open Go.RowKit Go.Sort Go.Lib

/-- No id. -/
def noId : Id20 := ⟨List.replicate 20 0, by simp⟩
/-- A row of ids that came in. -/
structure IdRow (w : World) (p : Option Addr) (d : Array Id20) : Prop where
  none_ : p = none → d = #[]
  row : ∀ a, p = some a → Row w a (idsV d).toList
theorem IdRow.keep {w w' : World} {p : Option Addr} {d : Array Id20} (h : IdRow w p d) (hk : ∀ a, p = some a → ∀ q : Addr, q.block = a.block → w'.cell? q = w.cell? q) : IdRow w' p d :=
  ⟨h.none_, fun a ha => (h.row a ha).keep (hk a ha)⟩
theorem IdRow.below {w w' : World} {p : Option Addr} {d : Array Id20} {B : Nat} (h : IdRow w p d) (hb : Below B w w') (hp : ∀ a, p = some a → a.block < B) : IdRow w' p d :=
  h.keep fun a ha q hq => hb.cell (by rw [hq]; exact hp a ha)
theorem IB.idRow {w : World} {g : Nat} {d : Array Id20} (h : IB w g d) : IdRow w (some ⟨g, 0, none⟩) d :=
  ⟨(fun h => by cases h), (fun a ha => by obtain rfl := Option.some.inj ha; exact Row.of_block h)⟩

theorem infoID : (Try.prog.info? 34).map (fun i => (i.zero, i.size, i.bytes)) = some (some (.agg (bytesV (List.replicate 20 0)).toArray), 20, 20) := by kernel_rfl

theorem idsV_zeros (n : Nat) : madeCells (bytesV (List.replicate 20 0)).toArray (n * 20) = idsV (Array.replicate n noId) := by
  apply idsV_ext
  · simp [size_madeCells]
  · intro i j hi hj
    simp only [Array.size_replicate] at hi
    rw [getElem!_pos _ i (by simpa using hi), Array.getElem_replicate]
    unfold madeCells
    rw [Array.getElem?_map, Array.getElem?_range, if_pos (by omega)]
    have hs : (bytesV (List.replicate 20 0)).toArray.size = 20 := by rw [List.size_toArray, bytesV_length, List.length_replicate]
    rw [hs, Option.map_some, show (i * 20 + j) % 20 = j by omega, getElem!_pos _ j (by rw [hs]; exact hj)]
    unfold encId noId
    simp only [List.getElem_toArray]
    rw [List.getElem?_eq_getElem]

theorem run_make_ids (n : Nat) (hn : n ≤ 500000) (w : World) :
    (Instr.makeSlice 28 (.int .i64 (n : Int)) (.int .i64 (n : Int))).run Try.prog w = .ok (.slice (some ⟨w.heap.size, 0, none⟩) n n) (w.alloc (.cells (idsV (Array.replicate n noId)) 34)) := by
  obtain ⟨i, hi, hzz⟩ := Option.map_eq_some_iff.1 infoID
  simp only [Prod.mk.injEq] at hzz
  obtain ⟨hz, hs, hb⟩ := hzz
  have h := run_makeSlice (P := Try.prog) w 28 34 i _ Try.underlying28 hi hz .i64 .i64 (n : Int) (n : Int) (by omega) (by omega) (by rw [hs]; omega) (by rw [hb]; omega) (by omega)
  rw [hs, Int.toNat_natCast] at h
  rw [h, ← idsV_zeros n]
  rfl
theorem wpList_make_ids (w : World) {ops : Array Oper} {rest : List Oper} {o : Oper} {a : Act} {Q : Exit → Act → World → Prop}
    (hg : o.guard = none) (l c : Operand) (hop : o.op = Op.makeSlice 28 l c) (n : Nat) (hl : a.eval l = .int .i64 (n : Int)) (hc : a.eval c = .int .i64 (n : Int)) (hn : n ≤ 500000)
    (hK : wpList Try.prog ops Q rest (a.put o.dst (.slice (some ⟨w.heap.size, 0, none⟩) n n)) (w.alloc (.cells (idsV (Array.replicate n noId)) 34))) :
    wpList Try.prog ops Q (o :: rest) a w := by
  refine wpList_plain hg fun K hK' => ?_
  have hrun := run_make_ids n hn w
  unfold Oper.wp
  simp [execOp, hop, hl, hc, hrun, Result.andThen]
  exact hK' _ _ hK
theorem run_copy_ids (w : World) (p : Option Addr) (d z : Array Id20) (cap g : Nat) (hp : IdRow w p d) (hz : z.size = d.size) (hg : IB w g z) (ty : TypeId) :
    (Builtin.copy_ #[28, 28] ty #[.slice (some ⟨g, 0, none⟩) d.size d.size, .slice p d.size cap]).run Try.prog w = .ok (goInt d.size) (w.setRow g (idsV d)) := by
  have hd : (idsV d).toList.length = d.size * 20 := by rw [Array.length_toList, idsV_size]
  have hone : ∀ v ∈ (idsV d).toList, v.oneCell' = true := by
    intro v hv
    obtain ⟨t, ht, rfl⟩ := List.getElem_of_mem hv
    have h := idsV_get d (t / 20) (t % 20) (by omega) (by omega)
    rw [show t / 20 * 20 + t % 20 = t by omega, ← Array.getElem?_toList, List.getElem?_eq_getElem ht] at h
    exact encId_one _ _ (List.mem_of_getElem? h.symm)
  have hst := run_storeCells_at Try.prog g 0 _ (idsV d).toList 0 (idsV z) w hg (by rw [hd, idsV_size, hz]; omega) hone
  rw [hd, Nat.add_zero, List.take_zero, List.drop_eq_nil_of_le (by rw [Array.length_toList, idsV_size, hz]; omega)] at hst
  simp only [List.nil_append, List.append_nil, Array.toArray_toList] at hst
  cases p with
  | none =>
    have e := hp.none_ rfl
    subst e
    have hz0 : z = #[] := by simpa using hz
    subst hz0
    have hs : w.setRow g (idsV #[]) = w := setRow_self w g _ _ (0, 0) hg
    simp [Builtin.copy_, run_underlying Try.underlying28, Builtin.lenOf, Builtin.firstCells, Try.sizeOf34, storeCells, hs]
  | some a =>
    have hl := run_loadCells_list (P := Try.prog) w a (idsV d).toList (hp.row a rfl)
    rw [hd] at hl
    simp [Builtin.copy_, run_underlying Try.underlying28, Builtin.lenOf, Builtin.firstCells, Try.sizeOf34, hl, hst]

/-- Ids, the nearest one first, each once. -/
def nearD (t : List UInt8) (d : Array Id20) : List Id20 := compactUpTo (nearS t d.toList).toArray d.size

set_option maxRecDepth 100000 in
set_option maxHeartbeats 1000000 in
theorem metric_Sort (t : List UInt8) (ht : t.length = 20) (p : Option Addr) (d : Array Id20) (cap : Nat) (w : World) (hp : IdRow w p d) (hpb : ∀ a, p = some a → a.block < w.heap.size) (hn : d.size ≤ 500000) :
    Calls Try.prog 21 #[.agg (bytesV t).toArray, .slice p d.size cap] w fun e w' =>
      e = .returned (.slice (some ⟨w.heap.size + 1, 0, none⟩) (nearD t d).length d.size) ∧ Below w.heap.size w w' ∧ IB w' (w.heap.size + 1) (nearD t d ++ List.replicate (d.size - (nearD t d).length) noId).toArray := by
  have st := bytes_size ht
  have haT : Hid (IsAgg Try.prog 34 (bytesV t).length) := Lib.hid (by rw [bytes_len ht]; exact aggID)
  have i1 : BB 34 ((w.alloc (.cells (bytesV t).toArray 34)).alloc (.cells (idsV (Array.replicate d.size noId)) 34)) w.heap.size t := BB.alloc (l := t) (heap_alloc_new _ _) _
  have i2 : IB ((w.alloc (.cells (bytesV t).toArray 34)).alloc (.cells (idsV (Array.replicate d.size noId)) 34)) (w.heap.size + 1) (Array.replicate d.size noId) := heap_alloc2_new _ _ _
  have i5 : Below w.heap.size w ((w.alloc (.cells (bytesV t).toArray 34)).alloc (.cells (idsV (Array.replicate d.size noId)) 34)) := ((Below.refl _ _).alloc (Nat.le_refl _) _).alloc (by simp) _
  have hcp := run_copy_ids _ p d (Array.replicate d.size noId) cap (w.heap.size + 1) (hp.below i5 hpb) (by simp) i2
  have o3 := Only.setRow ((w.alloc (.cells (bytesV t).toArray 34)).alloc (.cells (idsV (Array.replicate d.size noId)) 34)) (w.heap.size + 1) (idsV d)
  have k1 := Lib.hid (BB.far i1 o3 (by omega))
  have k2 := Lib.hid (i2.setRow d)
  have k5 : Hid (Below w.heap.size w _) := Lib.hid (i5.trans (Only.below o3 i5.size (fun k hk => by omega)))
  have hsz : Hid ((((w.alloc (.cells (bytesV t).toArray 34)).alloc (.cells (idsV (Array.replicate d.size noId)) 34)).setRow (w.heap.size + 1) (idsV d)).heap.size = w.heap.size + 1 + 1) := Lib.hid (by simp)
  clear i1 i2 i5 o3
  have HN := Lib.hid hn
  go_enter Try.func21, Try.ntmps21
  go_wp2_with (first
    | refine wpList_make_ids _ rfl _ _ rfl d.size rfl rfl HN.out ?_
    | refine wpList_load_agg (o := ⟨some 13, _, _, _, _, _⟩) rfl _ (.tmp 2) rfl _ rfl (bytesV t) k1.out.row haT.out ?_)
  have hs3 := hsz.out
  generalize (((w.alloc (.cells (bytesV t).toArray 34)).alloc (.cells (idsV (Array.replicate d.size noId)) 34)).setRow (w.heap.size + 1) (idsV d)) = W3 at *
  refine (metric_by t ht W3).mono ?_
  rintro e w4 ⟨rfl, rfl⟩
  have m1 : BB 34 (W3.alloc (.cells (bytesV t).toArray 34)) W3.heap.size t := heap_alloc_new _ _
  have m2 : IB (W3.alloc (.cells (bytesV t).toArray 34)) (w.heap.size + 1) d := k2.out.alloc _
  have m5 : Hid (Below w.heap.size w (W3.alloc (.cells (bytesV t).toArray 34))) := Lib.hid (k5.out.alloc k5.out.size _)
  have HS := Lib.hid (sort_IDs t ht (w.heap.size + 1) W3.heap.size d.size d _ m2 m1 (by omega) (by omega))
  clear hcp k1 k2 k5 hsz hs3 m1 m2 hp hpb
  go_wp2_with fail
  refine HS.out.mono ?_
  rintro e w5 ⟨rfl, ho5, hb5⟩
  have ht5 : (nearS t d.toList).toArray.size = d.size := nearS_size t d
  have HK := Lib.hid (slices_Compact (w.heap.size + 1) d.size (nearS t d.toList).toArray w5 hb5 (by rw [ht5]; omega) (by rw [ht5]; exact Nat.le_refl _) noId rfl)
  rw [ht5] at HK
  have m7 : Hid (Below w.heap.size w w5) := Lib.hid (m5.out.trans (Only.below ho5 m5.out.size (fun k hk => by omega)))
  clear HS m5 ho5 hb5 ht5
  go_wp2_with fail
  refine HK.out.mono ?_
  rintro e w6 ⟨rfl, ho6, hb6⟩
  have m8 : Hid (Below w.heap.size w w6) := Lib.hid (m7.out.trans (Only.below ho6 m7.out.size (fun k hk => by omega)))
  have HB := Lib.hid hb6
  clear ho6 hb6 m7
  go_wp2_with fail
  go_ret
  exact ⟨rfl, m8.out, HB.out⟩
end Go.Proofs.Ytgdiajhegmdfgaa
