/-
  A slice of instances that reads as data, opened to its cells. Conditions: none.
-/
import Derived.Test.YtjdmbegmbffhfaaDecayB
import Derived.Deep.Slices
import Derived.ProofKit
import Derived.OpenShut
namespace Go.Proofs.Ytjdmbegmbffhfaa
open Go.ChangeShapes Go.WideShapes Go.ChangeAt Go.RowKit Go.Deep

section
variable {H : Type} {enc : TypeId × Value → H} {w : World} {base : Nat} {spare : Nat → Bool} {held : Bool}

theorem drop_take_one {cs : List Value} {i : Nat} {v : Value} (h : (cs.drop i).take 1 = [v]) : cs[i]? = some v := by
  have := congrArg (fun l => l[0]?) h
  simpa [List.getElem?_take, List.getElem?_drop] using this

theorem wf_bd {k : IntKind} {n : Int} (h : (Lit.int k n).wf = true) : k.min ≤ n ∧ n ≤ k.max := by
  simpa [Lit.wf] using h

/-- Twenty bytes. -/
theorem open_bytes20 {t : TypeId} {fuel : Nat} {cs : List Value} {x : DataW H × List MemPlace} (ht : Try.prog.underlying t = some (.array 20 5)) (h : DataW.trod enc Try.prog w base spare held fuel t cs = some x) (hl : cs.length = 20) :
    ∃ bs : List UInt8, bs.length = 20 ∧ cs = bs.map fun b => Value.int .u8 (b.toNat : Int) := by
  obtain ⟨xs, m, _, _, _, _, hel⟩ := DataW.trod_array ht h
  have hcell : Try.prog.cellsOf 5 = 1 := by kernel_rfl
  have hbyte : ∀ i, i < 20 → ∃ b : UInt8, cs[i]? = some (Value.int .u8 (b.toNat : Int)) := by
    intro i hi
    have h1 := hel i hi
    rw [hcell, Nat.mul_one] at h1
    have hxs : i < xs.length := by omega
    rw [List.getElem?_eq_getElem hxs] at h1
    obtain ⟨n, e1, _, hw⟩ := DataW.trod_int Try.underlying5 h1
    have hb := wf_bd hw
    have h0 : IntKind.u8.min = 0 := by decide
    have h255 : IntKind.u8.max = 255 := by decide
    rw [h0, h255] at hb
    refine ⟨UInt8.ofNat n.toNat, ?_⟩
    rw [drop_take_one e1]
    have : ((UInt8.ofNat n.toNat).toNat : Int) = n := by
      rw [UInt8.toNat_ofNat_of_lt' (by show n.toNat < 256; omega)]
      omega
    rw [this]
  refine ⟨cs.map fun v => match v with | .int _ n => UInt8.ofNat n.toNat | _ => 0, by simpa using hl, ?_⟩
  apply List.ext_getElem?
  intro i
  by_cases hi : i < 20
  · obtain ⟨b, hb⟩ := hbyte i hi
    simp [hb]
  · rw [List.getElem?_eq_none (by omega), List.getElem?_eq_none (by simp; omega)]

theorem inst_cells : Try.prog.cellsOf 99 = 28 := by kernel_rfl

theorem open_ins {fuel : Nat} {cs : List Value} {x : DataW H × List MemPlace} (h : DataW.trod enc Try.prog w base spare held fuel 99 cs = some x) :
    ∃ y : Ins, y.cs = cs ∧ y.Ok := by
  obtain ⟨xs, n, _, _, hlen, hxl, hf⟩ := DataW.trod_struct Try.underlying99 h
  rw [inst_cells] at hlen
  have hx : ∀ (i : Nat), i < 9 → ∃ z, xs[i]? = some z := fun i hi => ⟨xs[i]'(by rw [hxl]; exact hi), List.getElem?_eq_getElem _⟩
  have c1 : Try.prog.cellsOf 22 = 1 := by kernel_rfl
  have c2 : Try.prog.cellsOf 42 = 1 := by kernel_rfl
  have c3 : Try.prog.cellsOf 4 = 1 := by kernel_rfl
  have c4 : Try.prog.cellsOf 97 = 1 := by kernel_rfl
  have c5 : Try.prog.cellsOf 9 = 1 := by kernel_rfl
  have c6 : Try.prog.cellsOf 32 = 20 := by kernel_rfl
  obtain ⟨z0, h0⟩ := hx 0 (by omega)
  obtain ⟨z1, h1⟩ := hx 1 (by omega)
  obtain ⟨z2, h2⟩ := hx 2 (by omega)
  obtain ⟨z3, h3⟩ := hx 3 (by omega)
  obtain ⟨z4, h4⟩ := hx 4 (by omega)
  obtain ⟨z5, h5⟩ := hx 5 (by omega)
  obtain ⟨z6, h6⟩ := hx 6 (by omega)
  obtain ⟨z7, h7⟩ := hx 7 (by omega)
  obtain ⟨z8, h8⟩ := hx 8 (by omega)
  have g0 : DataW.trod enc Try.prog w base spare held n 32 ((cs.drop 0).take (Try.prog.cellsOf 32)) = some z0 := (hf 0 _ rfl).trans h0
  have g1 : DataW.trod enc Try.prog w base spare held n 22 ((cs.drop 20).take (Try.prog.cellsOf 22)) = some z1 := (hf 1 _ rfl).trans h1
  have g2 : DataW.trod enc Try.prog w base spare held n 22 ((cs.drop 21).take (Try.prog.cellsOf 22)) = some z2 := (hf 2 _ rfl).trans h2
  have g3 : DataW.trod enc Try.prog w base spare held n 42 ((cs.drop 22).take (Try.prog.cellsOf 42)) = some z3 := (hf 3 _ rfl).trans h3
  have g4 : DataW.trod enc Try.prog w base spare held n 4 ((cs.drop 23).take (Try.prog.cellsOf 4)) = some z4 := (hf 4 _ rfl).trans h4
  have g5 : DataW.trod enc Try.prog w base spare held n 97 ((cs.drop 24).take (Try.prog.cellsOf 97)) = some z5 := (hf 5 _ rfl).trans h5
  have g6 : DataW.trod enc Try.prog w base spare held n 97 ((cs.drop 25).take (Try.prog.cellsOf 97)) = some z6 := (hf 6 _ rfl).trans h6
  have g7 : DataW.trod enc Try.prog w base spare held n 97 ((cs.drop 26).take (Try.prog.cellsOf 97)) = some z7 := (hf 7 _ rfl).trans h7
  have g8 : DataW.trod enc Try.prog w base spare held n 9 ((cs.drop 27).take (Try.prog.cellsOf 9)) = some z8 := (hf 8 _ rfl).trans h8
  rw [c6] at g0
  rw [c1] at g1 g2
  rw [c2] at g3
  rw [c3] at g4
  rw [c4] at g5 g6 g7
  rw [c5] at g8
  obtain ⟨bs, hbl, hbs⟩ := open_bytes20 Try.underlying32 g0 (by simp; omega)
  obtain ⟨seq, e1, _, w1⟩ := DataW.trod_int Try.underlying22 g1
  obtain ⟨born, e2, _, w2⟩ := DataW.trod_int Try.underlying22 g2
  obtain ⟨life, e3, _, w3⟩ := DataW.trod_int Try.underlying42 g3
  obtain ⟨gone, e4, _⟩ := DataW.trod_bool Try.underlying4 g4
  obtain ⟨pr, e5, _, w5⟩ := DataW.trod_int Try.underlying97 g5
  obtain ⟨we, e6, _, w6⟩ := DataW.trod_int Try.underlying97 g6
  obtain ⟨po, e7, _, w7⟩ := DataW.trod_int Try.underlying97 g7
  obtain ⟨tg, e8, _, w8⟩ := DataW.trod_string Try.underlying9 g8
  have d1 := drop_take_one e1
  have d2 := drop_take_one e2
  have d3 := drop_take_one e3
  have d4 := drop_take_one e4
  have d5 := drop_take_one e5
  have d6 := drop_take_one e6
  have d7 := drop_take_one e7
  have d8 := drop_take_one e8
  have b2 := wf_bd w2
  have b3 := wf_bd w3
  have k1 : IntKind.u64.min = 0 := by decide
  have k2 : IntKind.u64.max = 18446744073709551615 := by decide
  have k3 : IntKind.u32.min = 0 := by decide
  have k4 : IntKind.u32.max = 4294967295 := by decide
  rw [k1, k2] at b2
  rw [k3, k4] at b3
  refine ⟨⟨cs, born, life, tg⟩, rfl, hlen, d2, d3, d8, b2.1, b2.2, b3.1, b3.2, w8, fun v hv => ?_⟩
  obtain ⟨i, hi⟩ := List.getElem?_of_mem hv
  have hi28 : i < 28 := by
    have := (List.getElem?_eq_some_iff.1 hi).1
    show i < 28
    simp only at this
    omega
  by_cases hi20 : i < 20
  · have : (cs.take 20)[i]? = some v := by rw [List.getElem?_take, if_pos hi20]; exact hi
    simp only [List.drop_zero] at hbs
    rw [hbs] at this
    obtain ⟨b, _, hb⟩ := List.mem_map.1 (List.mem_of_getElem? this)
    rw [← hb]; rfl
  · have hcase : i = 20 ∨ i = 21 ∨ i = 22 ∨ i = 23 ∨ i = 24 ∨ i = 25 ∨ i = 26 ∨ i = 27 := by omega
    rcases hcase with rfl | rfl | rfl | rfl | rfl | rfl | rfl | rfl
    · obtain rfl := Option.some.inj (d1.symm.trans hi); rfl
    · obtain rfl := Option.some.inj (d2.symm.trans hi); rfl
    · obtain rfl := Option.some.inj (d3.symm.trans hi); rfl
    · obtain rfl := Option.some.inj (d4.symm.trans hi); rfl
    · obtain rfl := Option.some.inj (d5.symm.trans hi); rfl
    · obtain rfl := Option.some.inj (d6.symm.trans hi); rfl
    · obtain rfl := Option.some.inj (d7.symm.trans hi); rfl
    · obtain rfl := Option.some.inj (d8.symm.trans hi); rfl

theorem open_insts {a : Option Addr} {len cap : Nat} {d : DataW H} {p : List MemPlace} (h : DataW.Trod enc Try.prog w base spare held 23 (.slice a len cap) d p) :
    ∃ l, Insts w w.heap.size a len l := by
  obtain ⟨fuel, hf⟩ := h
  rcases open_slice Try.underlying23 hf with ⟨hcs, _⟩ | ⟨ad, len', cap', m, n, D, Pl, hcs, _, hl, hm, hmm, _, hi⟩
  · simp only [Value.cells, List.cons.injEq, Value.slice.injEq, and_true] at hcs
    obtain ⟨rfl, rfl, rfl⟩ := hcs
    exact ⟨[], rfl, by simp, by simp, by simp⟩
  · simp only [Value.cells, List.cons.injEq, Value.slice.injEq, and_true] at hcs
    obtain ⟨rfl, rfl, rfl⟩ := hcs
    have hmlen : len ≤ m := by rw [hmm]; split <;> omega
    rw [inst_cells] at hi
    have hall : ∀ i, i < len → ∃ y : Ins, y.Ok ∧ Row w (ad.add (i * 28)) y.cs := by
      intro i hlt
      obtain ⟨cs', hc, ht⟩ := hi i (by omega)
      obtain ⟨y, hy, hok⟩ := open_ins ht
      obtain ⟨_, hcl, hat⟩ := World.cells?_some hc
      refine ⟨y, hok, fun j v hv => ?_⟩
      rw [hy] at hv
      have hj : j < 28 := by
        have := (List.getElem?_eq_some_iff.1 hv).1
        omega
      rw [hat j hj, hv]
    let f : Nat → Ins := fun i => if h : i < len then Classical.choose (hall i h) else ⟨[], 0, 0, ⟨#[]⟩⟩
    have hfs : ∀ i, i < len → (f i).Ok ∧ Row w (ad.add (i * 28)) (f i).cs := by
      intro i h
      have := Classical.choose_spec (hall i h)
      simp only [f, dif_pos h]
      exact this
    refine ⟨(List.range len).map f, by simp, ?_, by simpa using Nat.le_trans hl hm, ?_⟩
    · intro x hx
      obtain ⟨i, hi', rfl⟩ := List.mem_map.1 hx
      exact (hfs i (List.mem_range.1 hi')).1
    · intro i x hx
      rw [List.getElem?_map] at hx
      have hlt : i < len := by
        by_cases h : i < len
        · exact h
        · rw [List.getElem?_eq_none (by simpa using h)] at hx; cases hx
      rw [List.getElem?_range hlt] at hx
      obtain rfl := Option.some.inj hx
      obtain ⟨hok, hrow⟩ := hfs i hlt
      refine ⟨ad, rfl, ?_, hrow⟩
      have := block_lt_of_cell (hrow 21 _ hok.hborn)
      rw [add_block, add_block] at this
      exact this
end
end Go.Proofs.Ytjdmbegmbffhfaa
