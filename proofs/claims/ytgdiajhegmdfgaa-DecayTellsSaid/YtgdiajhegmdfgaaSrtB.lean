/-
  Rows of ids that a call makes by append. Conditions: at most half a million ids.
-/
import Derived.Test.YtgdiajhegmdfgaaSrtA
import Derived.Test.YtgdiajhegmdfgaaAss
import Derived.Maps.AppendAt
import Derived.Laws.OwnMore
import Derived.ArgAppend
import Derived.Great.Walk
namespace Go.Proofs.Ytgdiajhegmdfgaa
open Go.RowKit Go.Sort Go.Lib

/-- A slice type of ids. -/
structure IdTy (sl T : TypeId) : Prop where
  u : Try.prog.underlying sl = some (.slice T)
  i : (Try.prog.info? T).map (fun i => (i.zero, i.size, i.bytes)) = some (some (.agg (bytesV (List.replicate 20 0)).toArray), 20, 20)
theorem idTyA : IdTy 28 34 := ⟨Try.underlying28, infoID⟩
theorem idTyR : IdTy 30 35 := ⟨Try.underlying30, by kernel_rfl⟩

theorem idsV_append (d e : Array Id20) : (idsV (d ++ e)).toList = (idsV d).toList ++ (idsV e).toList := by
  have h : idsV (d ++ e) = idsV d ++ idsV e := by
    symm
    apply idsV_ext
    · simp [idsV_size, Nat.add_mul]
    · intro i j hi hj
      rw [Array.size_append] at hi
      rw [Array.getElem?_append, idsV_size]
      by_cases h : i < d.size
      · rw [if_pos (by omega), idsV_get d i j h hj, getElem!_pos _ i h, getElem!_pos _ i (by simp; omega), Array.getElem_append_left h]
      · rw [if_neg (by omega), show i * 20 + j - d.size * 20 = (i - d.size) * 20 + j by omega, idsV_get e _ j (by omega) hj, getElem!_pos _ _ (by omega), getElem!_pos _ i (by simp; omega), Array.getElem_append_right (by omega)]
  rw [h, Array.toList_append]
theorem idsV_one (d : Array Id20) : ∀ v ∈ (idsV d).toList, v.oneCell' = true := by
  intro v hv
  have hd : (idsV d).toList.length = d.size * 20 := by rw [Array.length_toList, idsV_size]
  obtain ⟨t, ht, rfl⟩ := List.getElem_of_mem hv
  have h := idsV_get d (t / 20) (t % 20) (by omega) (by omega)
  rw [show t / 20 * 20 + t % 20 = t by omega, ← Array.getElem?_toList, List.getElem?_eq_getElem ht] at h
  exact encId_one _ _ (List.mem_of_getElem? h.symm)
theorem idsV_len (d : Array Id20) : (idsV d).toList.length = d.size * 20 := by rw [Array.length_toList, idsV_size]
theorem idsV_nil : (idsV #[]).toList = [] := List.eq_nil_of_length_eq_zero (by rw [idsV_len]; rfl)
theorem idsV_single (x : Id20) : idsV #[x] = (bytesV x.1).toArray := by
  symm
  apply idsV_ext
  · simp [bytesV_length, x.2]
  · intro i j hi hj
    obtain rfl : i = 0 := by simpa using hi
    simp
    rfl

/-- A row of ids that the call owns. -/
def OwnIds (T : TypeId) (w : World) (base : Nat) (v : Value) (d : Array Id20) : Prop := w.ownsRow base T 20 v d.size (idsV d).toList
theorem OwnIds.nil (T : TypeId) (w : World) (base : Nat) : OwnIds T w base (.slice none 0 0) #[] := ⟨by rw [idsV_len], Or.inl ⟨rfl, rfl⟩⟩
theorem OwnIds.mono {T : TypeId} {w : World} {base base' : Nat} {v : Value} {d : Array Id20} (h : OwnIds T w base' v d) (hb : base ≤ base') : OwnIds T w base v d := by
  refine ⟨h.1, ?_⟩
  rcases h.2 with h2 | ⟨g, cap, cur, h1, h2, h3⟩
  · exact Or.inl h2
  · exact Or.inr ⟨g, cap, cur, h1, Nat.le_trans hb h2, h3⟩
theorem OwnIds.below {T : TypeId} {w w' : World} {base : Nat} {v : Value} {d : Array Id20} (h : OwnIds T w base v d) (hb : Below w.heap.size w w') : OwnIds T w' base v d := by
  refine ⟨h.1, ?_⟩
  rcases h.2 with h2 | ⟨g, cap, cur, h1, h2, h3, h4⟩
  · exact Or.inl h2
  · exact Or.inr ⟨g, cap, cur, h1, h2, (hb.block g (by rw [Array.getElem?_eq_some_iff] at h3; exact h3.1)).trans h3, h4⟩
/-- What it is, and where. -/
theorem OwnIds.form {T : TypeId} {w : World} {base : Nat} {v : Value} {d : Array Id20} (h : OwnIds T w base v d) :
    ∃ q cap, v = .slice q d.size cap ∧ IdRow w q d ∧ (q = none → cap = 0) ∧ (∀ a, q = some a → base ≤ a.block ∧ a.block < w.heap.size) ∧ d.size ≤ cap ∧ cap ≤ maxLen := by
  rcases h.2 with ⟨h1, h2⟩ | ⟨g, cap, cur, h1, h2, h3, h4, h5, h6, h7⟩
  · have hd : d = #[] := by simpa using h2
    subst hd
    exact ⟨none, 0, h1, ⟨fun _ => rfl, fun a ha => by cases ha⟩, fun _ => rfl, (fun a ha => by cases ha), by simp, by simp [maxLen]⟩
  · refine ⟨some ⟨g, 0, none⟩, cap, h1, ⟨(fun h => by cases h), fun a ha => ?_⟩, (fun h => by cases h), fun a ha => ?_, h4, h5⟩
    · obtain rfl := Option.some.inj ha
      intro j u hj
      refine Row.of_block h3 j u ?_
      rw [← h7, List.getElem?_take] at hj
      split at hj
      · exact hj
      · cases hj
    · obtain rfl := Option.some.inj ha
      rw [Array.getElem?_eq_some_iff] at h3
      exact ⟨h2, h3.1⟩

/-- Nothing appended. -/
theorem run_append_zero {sl T : TypeId} (h : IdTy sl T) (w : World) (base : Nat) (v : Value) (d : Array Id20) (hown : OwnIds T w base v d) (q : Option Addr) (c : Nat) (ty : TypeId) :
    (Builtin.append_ #[sl, sl] ty #[v, .slice q 0 c]).run Try.prog w = .ok v w := by
  obtain ⟨i, hi, hz, hs, hb⟩ := info_parts h.i
  rcases hown.2 with ⟨rfl, h2⟩ | ⟨g, cap, cur, rfl, _, _, hnc, _⟩
  · cases q <;> simp [Builtin.append_, run_underlying h.u, sizeOf, typeInfo, hi, Builtin.lenOf, Builtin.firstCells, loadCells, loadCellsFrom]
  · cases q <;> simp [Builtin.append_, run_underlying h.u, sizeOf, typeInfo, hi, Builtin.lenOf, Builtin.firstCells, hnc, storeCells, loadCells, loadCellsFrom]

theorem run_append_ids {sl T : TypeId} (h : IdTy sl T) (w : World) (base : Nat) (v : Value) (d e : Array Id20) (hown : OwnIds T w base v d) (q : Option Addr) (c : Nat) (hrow : IdRow w q e) (hn : d.size + e.size ≤ 500000) (hb : base ≤ w.heap.size) (ty : TypeId) :
    ∃ v' w', (Builtin.append_ #[sl, sl] ty #[v, .slice q e.size c]).run Try.prog w = .ok v' w' ∧ OwnIds T w' base v' (d ++ e) ∧ Below base w w' ∧
      ((∀ g cap, v = .slice (some g) d.size cap → cap = 0) → Below w.heap.size w w') := by
  obtain ⟨i, hi, hz, hs, hby⟩ := info_parts h.i
  have hml : d.size + e.size ≤ maxLen := by simp [maxLen]; omega
  have hbd : (d.size + e.size) * 20 ≤ 140737488355328 := by omega
  have hzs : (Value.agg (bytesV (List.replicate 20 0)).toArray).cells.size = 20 := by simp [Value.cells, bytesV_length]
  by_cases he : e.size = 0
  · have e0 : e = #[] := by simpa using he
    subst e0
    exact ⟨v, w, run_append_zero h w base v d hown q c ty, by simpa using hown, Below.refl _ _, fun _ => Below.refl _ _⟩
  · cases q with
    | none => exact absurd (by rw [hrow.none_ rfl]; rfl) he
    | some ad =>
      have hnews := hrow.row ad rfl
      rcases hown.2 with ⟨rfl, h2⟩ | ⟨g, cap, cur, rfl, hg1, hg2, hg3, hg4, hg5, hg6⟩
      · obtain ⟨v', w', r1, r2, r3, _, _⟩ := run_append_own_at (P := Try.prog) w base sl ty T i _ 20 20 h.u hi hz hs hby hzs (by omega) _ d.size _ hown ad e.size c (idsV e).toList (idsV_len e) hnews (idsV_one e) hml hbd hb
        have hbl : Below w.heap.size w w' := (Below.refl _ _).grown r3 (Nat.le_refl _) (fun k hk => by cases hk)
        refine ⟨v', w', r1, ?_, hbl.mono hb, fun _ => hbl⟩
        unfold OwnIds
        rw [idsV_append, Array.size_append]
        exact r2
      · by_cases hfit : d.size + e.size ≤ cap
        · obtain ⟨w', r1, r2, r3⟩ := run_append_fits (P := Try.prog) w base sl ty T i 20 h.u hi hs g d.size cap _ hown ad e.size c (idsV e).toList (idsV_len e) hnews (idsV_one e) hfit
          refine ⟨_, w', r1, ?_, (Below.refl _ _).grown r3 hb (fun k hk => by obtain rfl := Option.some.inj hk; exact hg1), fun hc => by have := hc _ _ rfl; omega⟩
          unfold OwnIds
          rw [idsV_append, Array.size_append]
          exact r2
        · have holds : ∀ j u, (idsV d).toList[j]? = some u → w.cell? ((⟨g, 0, none⟩ : Addr).add j) = some u := by
            intro j u hj
            refine Row.of_block hg2 j u ?_
            rw [← hg6, List.getElem?_take] at hj
            split at hj
            · exact hj
            · cases hj
          obtain ⟨v', w', r1, r2, r3⟩ := run_append_arg_grows (P := Try.prog) w sl ty T i _ 20 20 h.u hi hz hs hby hzs (by omega) ⟨g, 0, none⟩ d.size cap (idsV d).toList (idsV_len d) holds ad e.size c (idsV e).toList (idsV_len e) hnews (by omega) hml hbd
          have hbl : Below w.heap.size w w' := (Below.refl _ _).grown r3 (Nat.le_refl _) (fun k hk => by cases hk)
          refine ⟨v', w', r1, ?_, hbl.mono hb, fun _ => hbl⟩
          have r2' : OwnIds T w' w.heap.size v' (d ++ e) := by
            unfold OwnIds
            rw [idsV_append, Array.size_append]
            exact r2
          exact r2'.mono hb

/-- .. as an operation. -/
theorem wp_append_ids {sl T : TypeId} (h : IdTy sl T) {w : World} {o : Oper} {a : Act} {K : Act → World → Prop} {Q : Exit → Act → World → Prop} (s x : Operand) (ho : o.op = .call { callee := .builtin .append, args := #[s, x], argTypes := #[sl, sl] })
    (base : Nat) (v : Value) (d e : Array Id20) (hs : a.eval s = v) (hown : OwnIds T w base v d) (q : Option Addr) (c : Nat) (hx : a.eval x = .slice q e.size c) (hrow : IdRow w q e) (hn : d.size + e.size ≤ 500000) (hb : base ≤ w.heap.size)
    (hK : ∀ v' w', OwnIds T w' base v' (d ++ e) → Below base w w' → ((∀ g cap, v = .slice (some g) d.size cap → cap = 0) → Below w.heap.size w w') → K (a.put o.dst v') w') : o.wp Try.prog a w K Q := by
  obtain ⟨v', w', r1, r2, r3, r4⟩ := run_append_ids h w base v d e hown q c hrow hn hb o.type
  unfold Oper.wp
  simp [execOp, ho, resolve, invoke, builtin, hs, hx, r1, Result.andThen]
  exact hK _ _ r2 r3 r4
theorem wpList_append_ids {sl T : TypeId} (h : IdTy sl T) {w : World} {ops : Array Oper} {rest : List Oper} {o : Oper} {a : Act} {Q : Exit → Act → World → Prop} (hgd : o.guard = none) (s x : Operand) (ho : o.op = .call { callee := .builtin .append, args := #[s, x], argTypes := #[sl, sl] })
    (base : Nat) (v : Value) (d e : Array Id20) (hs : a.eval s = v) (hown : OwnIds T w base v d) (q : Option Addr) (c : Nat) (hx : a.eval x = .slice q e.size c) (hrow : IdRow w q e) (hn : d.size + e.size ≤ 500000) (hb : base ≤ w.heap.size)
    (hK : ∀ v' w', OwnIds T w' base v' (d ++ e) → Below base w w' → wpList Try.prog ops Q rest (a.put o.dst v') w') : wpList Try.prog ops Q (o :: rest) a w :=
  wpList_plain hgd fun _ hk => wp_append_ids h s x ho base v d e hs hown q c hx hrow hn hb fun _ _ r2 r3 _ => hk _ _ (hK _ _ r2 r3)

theorem fill_twenty (x0 x1 x2 x3 x4 x5 x6 x7 x8 x9 x10 x11 x12 x13 x14 x15 x16 x17 x18 x19 : UInt8) :
    (if 1 * 20 > 2 ^ 24 ∨ 1 * 20 = 0 then none else Instr.fill (fun i => some (i * 20, 20)) ((Array.range (1 * 20)).map ((Value.agg (bytesV (List.replicate 20 0)).toArray).cells[· % (Value.agg (bytesV (List.replicate 20 0)).toArray).cells.size]!)) [(0, .agg (bytesV [x0, x1, x2, x3, x4, x5, x6, x7, x8, x9, x10, x11, x12, x13, x14, x15, x16, x17, x18, x19]).toArray)]) = some (bytesV [x0, x1, x2, x3, x4, x5, x6, x7, x8, x9, x10, x11, x12, x13, x14, x15, x16, x17, x18, x19]).toArray := by kernel_rfl
theorem fill_one (l : List UInt8) (hl : l.length = 20) :
    (if 1 * 20 > 2 ^ 24 ∨ 1 * 20 = 0 then none else Instr.fill (fun i => some (i * 20, 20)) ((Array.range (1 * 20)).map ((Value.agg (bytesV (List.replicate 20 0)).toArray).cells[· % (Value.agg (bytesV (List.replicate 20 0)).toArray).cells.size]!)) [(0, .agg (bytesV l).toArray)]) = some (bytesV l).toArray := by
  match l, hl with
  | [x0, x1, x2, x3, x4, x5, x6, x7, x8, x9, x10, x11, x12, x13, x14, x15, x16, x17, x18, x19], _ => exact fill_twenty x0 x1 x2 x3 x4 x5 x6 x7 x8 x9 x10 x11 x12 x13 x14 x15 x16 x17 x18 x19

/-- A slice of one id, written out. -/
theorem built_one {sl T : TypeId} (h : IdTy sl T) (x : Id20) : Try.prog.builtSlice T 1 [(0, .agg (bytesV x.1).toArray)] = some (idsV #[x]) := by
  obtain ⟨i, hi, hz, hs, hby⟩ := info_parts h.i
  rw [idsV_single]
  obtain ⟨l, hl⟩ := x
  unfold Program.builtSlice
  rw [hi]
  simp only [hz, hs]
  exact fill_one l hl
theorem wp_build_one {sl T : TypeId} (h : IdTy sl T) {w : World} {o : Oper} {a : Act} {K : Act → World → Prop} {Q : Exit → Act → World → Prop} (p : Operand) (ho : o.op = .buildSlice sl 1 #[(0, p)]) (x : Id20) (hp : a.eval p = .agg (bytesV x.1).toArray)
    (hK : K (a.put o.dst (.slice (some ⟨w.heap.size, 0, none⟩) 1 1)) (w.alloc (.cells (idsV #[x]) T))) : o.wp Try.prog a w K Q := by
  obtain ⟨i, hi, hz, hs, hby⟩ := info_parts h.i
  have hf := built_one h x
  unfold Program.builtSlice at hf
  rw [hi] at hf
  simp only [hz, hs] at hf
  rw [if_neg (by decide)] at hf
  refine wp_buildSlice sl T 1 #[(0, p)] ho (idsV #[x]) i _ h.u hi hz (by rw [hs]; decide) (by rw [hs]; decide) ?_ hK
  rw [hs]
  have e : (#[(0, p)].map fun (i, x) => (i, a.eval x)).toList = [(0, .agg (bytesV x.1).toArray)] := by
    simp [hp]
  rw [e]
  exact hf
theorem wpList_build_one {sl T : TypeId} (h : IdTy sl T) {w : World} {ops : Array Oper} {rest : List Oper} {o : Oper} {a : Act} {Q : Exit → Act → World → Prop} (hgd : o.guard = none) (p : Operand) (ho : o.op = .buildSlice sl 1 #[(0, p)]) (x : Id20) (hp : a.eval p = .agg (bytesV x.1).toArray)
    (hK : wpList Try.prog ops Q rest (a.put o.dst (.slice (some ⟨w.heap.size, 0, none⟩) 1 1)) (w.alloc (.cells (idsV #[x]) T))) : wpList Try.prog ops Q (o :: rest) a w :=
  wpList_plain hgd fun _ hk => wp_build_one h p ho x hp (hk _ _ hK)
end Go.Proofs.Ytgdiajhegmdfgaa
