/-
  DecayTells: whatever the input, signpostlaw21.DecayTells returns true and leaves its arguments as they were. Conditions: none.
-/
import Derived.Test.YtgdiajhegmdfgaaRows
import Derived.Test.YtgdiajhegmdfgaaSlice
import Derived.Deep.Slices
import Derived.ProofKit
import Derived.OpenShut
import Derived.Test.YtgdiajhegmdfgaaOctet
import Derived.Test.YtgdiajhegmdfgaaMem
import Derived.WalkKit
import Derived.WalkLawsBesides
import Derived.WalkSpells
import Derived.Test.YtgdiajhegmdfgaaSrtQ
import Derived.Test.YtgdiajhegmdfgaaIdX
import Derived.Test.YtgdiajhegmdfgaaCallA
import Derived.Test.YtgdiajhegmdfgaaLstP
import Derived.Test.YtgdiajhegmdfgaaMetE
import Derived.Test.YtgdiajhegmdfgaaLstA
import Derived.Test.YtgdiajhegmdfgaaLstE
import Derived.Test.YtgdiajhegmdfgaaSrtC
import Derived.Test.YtgdiajhegmdfgaaMetC
import Derived.SizedLaws
import Derived.Below
/-
  Readings of data opened: small laws over any program. Conditions: as each theorem says.
-/
namespace Go.Proofs.Ytgdiajhegmdfgaa
open Go.ChangeShapes Go.WideShapes Go.ChangeAt Go.RowKit Go.Deep

section
variable {H : Type} {enc : TypeId × Value → H} {P : Program} {w : World} {base : Nat} {spare : Nat → Bool} {held : Bool}

theorem drop_take_one {cs : List Value} {i : Nat} {v : Value} (h : (cs.drop i).take 1 = [v]) : cs[i]? = some v := by
  have := congrArg (fun l => l[0]?) h
  simpa [List.getElem?_take, List.getElem?_drop] using this

theorem wf_bd {k : IntKind} {n : Int} (h : (Lit.int k n).wf = true) : k.min ≤ n ∧ n ≤ k.max := by
  simpa [Lit.wf] using h
theorem wf_u64 {n : Int} (h : (Lit.int .u64 n).wf = true) : 0 ≤ n ∧ n ≤ 18446744073709551615 := by
  have hb := wf_bd h
  rwa [show IntKind.u64.min = 0 by decide, show IntKind.u64.max = 18446744073709551615 by decide] at hb
theorem wf_i64 {n : Int} (h : (Lit.int .i64 n).wf = true) : -9223372036854775808 ≤ n ∧ n ≤ 9223372036854775807 := by
  have hb := wf_bd h
  rwa [show IntKind.i64.min = -9223372036854775808 by decide, show IntKind.i64.max = 9223372036854775807 by decide] at hb
theorem wf_u8 {n : Int} (h : (Lit.int .u8 n).wf = true) : 0 ≤ n ∧ n ≤ 255 := by
  have hb := wf_bd h
  rwa [show IntKind.u8.min = 0 by decide, show IntKind.u8.max = 255 by decide] at hb

/-- A slice read as data, element by element: what each element's cells are is told by 'elem'. -/
theorem open_rows {α : Type} {t e : TypeId} {size : Nat} (cells : α → List Value) (Ok : α → Prop) (ht : P.underlying t = some (.slice e)) (hsz : P.cellsOf e = size) (hpos : 0 < size) (hc : ∀ y : α, Ok y → (cells y).length = size) (dflt : α)
    (elem : ∀ (n : Nat) (cs : List Value) (x : DataW H × List MemPlace), DataW.trod enc P w base spare held n e cs = some x → ∃ y : α, cells y = cs ∧ Ok y)
    {fuel : Nat} {a : Option Addr} {len cap : Nat} {x : DataW H × List MemPlace} (h : DataW.trod enc P w base spare held fuel t [.slice a len cap] = some x) :
    ∃ l : List α, len = l.length ∧ len ≤ cap ∧ cap ≤ maxLen ∧ (a = none → len = 0 ∧ cap = 0) ∧ (∀ y ∈ l, Ok y) ∧ ∀ i y, l[i]? = some y → ∃ ad, a = some ad ∧ ad.block < w.heap.size ∧ Row w (ad.add (i * size)) (cells y) := by
  rcases open_slice ht h with ⟨hcs, _⟩ | ⟨ad, len', cap', m, n, D, Pl, hcs, _, hl, hm, hmm, _, hi⟩
  · simp only [List.cons.injEq, Value.slice.injEq, and_true] at hcs
    obtain ⟨rfl, rfl, rfl⟩ := hcs
    exact ⟨[], rfl, by omega, by simp, fun _ => ⟨rfl, rfl⟩, by simp, by simp⟩
  · simp only [List.cons.injEq, Value.slice.injEq, and_true] at hcs
    obtain ⟨rfl, rfl, rfl⟩ := hcs
    have hmlen : len ≤ m := by rw [hmm]; split <;> omega
    rw [hsz] at hi
    have hall : ∀ i, i < len → ∃ y : α, Ok y ∧ Row w (ad.add (i * size)) (cells y) := by
      intro i hlt
      obtain ⟨cs', hc', ht'⟩ := hi i (by omega)
      obtain ⟨y, hy, hok⟩ := elem _ _ _ ht'
      obtain ⟨_, hcl, hat⟩ := World.cells?_some hc'
      refine ⟨y, hok, fun j v hv => ?_⟩
      rw [hy] at hv
      have hj : j < size := by
        have := (List.getElem?_eq_some_iff.1 hv).1
        omega
      rw [hat j hj, hv]
    let f : Nat → α := fun i => if h : i < len then Classical.choose (hall i h) else dflt
    have hfs : ∀ i, i < len → Ok (f i) ∧ Row w (ad.add (i * size)) (cells (f i)) := by
      intro i h
      have := Classical.choose_spec (hall i h)
      simp only [f, dif_pos h]
      exact this
    refine ⟨(List.range len).map f, by simp, hl, hm, fun h => (by cases h), ?_, ?_⟩
    · intro x hx
      obtain ⟨i, hi', rfl⟩ := List.mem_map.1 hx
      exact (hfs i (List.mem_range.1 hi')).1
    · intro i x hx
      rw [List.getElem?_map] at hx
      have hlt : i < len := by
        by_cases h : i < len
        · exact h
        · rw [List.getElem?_eq_none (by simpa using h)] at hx; cases hx
      rw [List.getElem?_range hlt] at hx
      obtain rfl := Option.some.inj hx
      obtain ⟨hok, hrow⟩ := hfs i hlt
      refine ⟨ad, rfl, ?_, hrow⟩
      have hl0 := hc _ hok
      obtain ⟨v, hv⟩ : ∃ v, (cells (f i))[0]? = some v := ⟨(cells (f i))[0]'(by omega), List.getElem?_eq_getElem _⟩
      have := block_lt_of_cell (hrow 0 v hv)
      rwa [add_block, add_block] at this

theorem block_lt_of_row {ad : Addr} {cs : List Value} (h : Row w ad cs) (hn : cs ≠ []) : ad.block < w.heap.size := by
  cases cs with
  | nil => exact absurd rfl hn
  | cons v l =>
    have := block_lt_of_cell (h 0 v rfl)
    rwa [add_block] at this
end
end Go.Proofs.Ytgdiajhegmdfgaa

/-
  A slice of bytes read as data, opened. Conditions: as each theorem says.
-/
namespace Go.Proofs.Ytgdiajhegmdfgaa
open Go.ChangeShapes Go.WideShapes Go.ChangeAt Go.RowKit Go.Deep

section
variable {H : Type} {enc : TypeId × Value → H} {w : World} {base : Nat} {spare : Nat → Bool} {held : Bool}

theorem open_bytecell (n : Nat) (cs : List Value) (x : DataW H × List MemPlace) (h : DataW.trod enc Try.prog w base spare held n 5 cs = some x) : ∃ y : UInt8, [byteV y] = cs ∧ True := by
  obtain ⟨y, e, _, hw⟩ := DataW.trod_int Try.underlying5 h
  have hb := wf_u8 hw
  refine ⟨UInt8.ofNat y.toNat, ?_, trivial⟩
  rw [e]
  unfold byteV
  rw [UInt8.toNat_ofNat']
  have : ((y.toNat % 2 ^ 8 : Nat) : Int) = y := by omega
  rw [this]

theorem open_bytes {fuel : Nat} {A : Option Addr} {len cap : Nat} {x : DataW H × List MemPlace} (h : DataW.trod enc Try.prog w base spare held fuel 23 [.slice A len cap] = some x) :
    ∃ l : List UInt8, len = l.length ∧ len ≤ cap ∧ cap ≤ maxLen ∧ Bytes w A l := by
  obtain ⟨l, hl, hlc, hcm, hnone, _, hrow⟩ := open_rows (size := 1) (fun y : UInt8 => [byteV y]) (fun _ => True) Try.underlying23 (by kernel_rfl) (by omega) (fun _ _ => rfl) 0 open_bytecell h
  refine ⟨l, hl, hlc, hcm, fun ha => List.eq_nil_of_length_eq_zero (hl ▸ (hnone ha).1), fun ad ha j v hv => ?_⟩
  simp only [bytesV, List.getElem?_map, Option.map_eq_some_iff] at hv
  obtain ⟨y, hy, rfl⟩ := hv
  obtain ⟨ad', ha', _, hr⟩ := hrow j y hy
  obtain rfl : ad = ad' := Option.some.inj ((show some ad = A from ha.symm).trans ha')
  have := hr 0 _ rfl
  rwa [add_add, Nat.mul_one, Nat.add_zero] at this
end
end Go.Proofs.Ytgdiajhegmdfgaa

/-
  An id read as data, opened. Conditions: as the theorem says.
-/
namespace Go.Proofs.Ytgdiajhegmdfgaa
open Go.ChangeShapes Go.WideShapes Go.ChangeAt Go.RowKit Go.Deep

section
variable {H : Type} {enc : TypeId × Value → H} {w : World} {base : Nat} {spare : Nat → Bool} {held : Bool}

theorem all_bytes {l : List Value} {n : Nat} (hn : l.length = n) (h : ∀ i, i < n → ∃ y : UInt8, l[i]? = some (byteV y)) : ∃ m : List UInt8, m.length = n ∧ l = bytesV m := by
  induction l generalizing n with
  | nil => exact ⟨[], hn, rfl⟩
  | cons v l ih =>
    subst hn
    obtain ⟨y, hy⟩ := h 0 (by simp)
    obtain ⟨m, hm, rfl⟩ := ih rfl fun i hi => by
      have := h (i + 1) (by simp; omega)
      simpa using this
    simp only [List.getElem?_cons_zero, Option.some.injEq] at hy
    subst hy
    exact ⟨y :: m, by simp [hm], rfl⟩

theorem open_IDcells {fuel : Nat} {cs : List Value} {x : DataW H × List MemPlace} (h : DataW.trod enc Try.prog w base spare held fuel 34 cs = some x) : ∃ l : List UInt8, l.length = 20 ∧ cs = bytesV l := by
  obtain ⟨xs, m, _, _, hlen, hxl, hf⟩ := DataW.trod_array Try.underlying34 h
  have h20 : cs.length = 20 := hlen.trans (by kernel_rfl)
  refine all_bytes h20 fun i hi => ?_
  have c1 : Try.prog.cellsOf 5 = 1 := by kernel_rfl
  have hfi := hf i hi
  rw [c1, Nat.mul_one, List.getElem?_eq_getElem (by omega)] at hfi
  obtain ⟨y, hy, _⟩ := open_bytecell _ _ _ hfi
  exact ⟨y, drop_take_one hy.symm⟩

set_option maxRecDepth 100000 in
theorem open_ID {r : Reach} {b0 : Nat} {v : Value} {d : DataW H} {ps : List MemPlace} (hval : Value.okWide Try.prog w r b0 34 v) (hd : DataW.Trod enc Try.prog w base spare held 34 v d ps) :
    ∃ l : List UInt8, l.length = 20 ∧ v = .agg (bytesV l).toArray := by
  simp only [Value.okWide, Try.underlying34] at hval
  obtain ⟨cs, rfl, _⟩ := hval
  obtain ⟨fuel, hf⟩ := hd
  obtain ⟨l, hl, he⟩ := open_IDcells hf
  refine ⟨l, hl, ?_⟩
  rw [← he]
  simp [Value.cells]
end
end Go.Proofs.Ytgdiajhegmdfgaa

/-
  What clock.Add, clock.Sub, inst.End, decay.Share, decay.Last, decay.Until and signpostlaw12.Light compute; a slice of instances that reads as data, opened. Conditions: the arguments fit their kinds.
-/
namespace Go.Proofs.Ytgdiajhegmdfgaa
open Go.RowKit

abbrev u64max : Int := 18446744073709551615
/-- An instance as its cells; what of them is looked at. -/
structure Ins where
  cs : List Value
  born : Int
  life : Int
  tgt : ByteArray
structure Ins.Ok (x : Ins) : Prop where
  len : x.cs.length = 28
  hborn : x.cs[21]? = some (.int .u64 x.born)
  hlife : x.cs[22]? = some (.int .u32 x.life)
  htgt : x.cs[27]? = some (.string x.tgt)
  b0 : 0 ≤ x.born
  b1 : x.born ≤ 18446744073709551615
  l0 : 0 ≤ x.life
  l1 : x.life ≤ 4294967295
  tsize : x.tgt.size ≤ maxLen
  one : ∀ v ∈ x.cs, v.oneCell' = true
def Ins.fin (x : Ins) : Int := min (x.born + x.life) 18446744073709551615


theorem wrap_u64_low {x : Int} (h : 18446744073709551616 ≤ x) (h' : x < 36893488147419103232) : IntKind.u64.wrap x = x - 18446744073709551616 := by
  rw [IntKind.wrap_u64]; omega

set_option maxHeartbeats 400000 in
theorem Add_any (a b : Int) (ha : 0 ≤ a) (ha' : a ≤ 18446744073709551615) (hb : 0 ≤ b) (hb' : b ≤ 18446744073709551615) (w : World) :
    Calls Try.prog 60 #[.int .u64 a, .int .u64 b] w fun e w' => e = .returned (.int .u64 (min (a + b) 18446744073709551615)) ∧ w = w' := by
  by_cases h : a + b ≤ 18446744073709551615
  · go_enter Try.func60, Try.ntmps60
    go_wp2
    go_ret
    exact ⟨ret_int (by omega), rfl⟩
  · have hw := wrap_u64_low (x := a + b) (by omega) (by omega)
    go_enter Try.func60, Try.ntmps60
    go_wp2
    go_ret
    exact ⟨ret_int (by omega), rfl⟩

set_option maxHeartbeats 400000 in
theorem Sub_any (a b : Int) (ha : 0 ≤ a) (ha' : a ≤ 18446744073709551615) (hb : 0 ≤ b) (hb' : b ≤ 18446744073709551615) (w : World) :
    Calls Try.prog 61 #[.int .u64 a, .int .u64 b] w fun e w' => e = .returned (.int .u64 (a - min a b)) ∧ w = w' := by
  go_enter Try.func61, Try.ntmps61
  go_wp2
  all_goals
    go_ret
    exact ⟨ret_int (by omega), rfl⟩

set_option maxHeartbeats 400000 in
theorem End_any (x : Ins) (h : x.Ok) (w : World) :
    Calls Try.prog 58 #[.agg x.cs.toArray] w fun e w' => e = .returned (.int .u64 x.fin) ∧ Below w.heap.size w w' := by
  have hc21 : (w.alloc (.cells x.cs.toArray 81)).cell? ⟨w.heap.size, 21, none⟩ = some (.int .u64 x.born) := by simp [h.hborn]
  have hc22 : (w.alloc (.cells x.cs.toArray 81)).cell? ⟨w.heap.size, 22, none⟩ = some (.int .u32 x.life) := by simp [h.hlife]
  have b0 := h.b0
  have b1 := h.b1
  have l0 := h.l0
  have l1 := h.l1
  go_enter Try.func58, Try.ntmps58
  go_wp2
  all_goals
    go_ret
    exact ⟨ret_int (by unfold Ins.fin; omega), (Below.refl _ _).alloc (Nat.le_refl _) _⟩

def halves (life : Int) (n : Nat) : Int := life / 2 ^ n

set_option maxHeartbeats 400000 in
theorem Halve_any (life : Int) (a : Addr) (h0 : 0 ≤ life) (h1 : life ≤ 18446744073709551615) (w : World) (hc : w.cell? a = some (.int .u64 life)) (hf : w.frozen? a = false) :
    Calls Try.prog 57 #[.pointer (some a)] w fun e w' => e = .returned (.tuple #[]) ∧ w' = w.setCell a (.int .u64 (life / 2)) := by
  go_enter Try.func57, Try.ntmps57
  go_wp2
  go_end0
  exact ⟨rfl, rfl⟩

theorem pow_step (life : Int) (n : Nat) : life / 2 ^ n / 2 = life / 2 ^ (n + 1) := by
  rw [Int.pow_succ, Int.ediv_ediv_of_nonneg (Int.pow_nonneg (by omega))]
theorem pow_bd (life : Int) (h0 : 0 ≤ life) (n : Nat) : 0 ≤ life / 2 ^ n ∧ life / 2 ^ n ≤ life :=
  ⟨Int.ediv_nonneg h0 (Int.pow_nonneg (by omega)), Int.ediv_le_self _ h0⟩

/-- What a copy's life is. -/
def share (life rank k : Int) : Int := if rank < k then life else life / 2 ^ (min 64 (rank - k + 1).toNat)

set_option maxHeartbeats 400000 in
theorem Share_hi (life rank k : Int) (h0 : 0 ≤ life) (h1 : life ≤ 18446744073709551615) (r0 : -9223372036854775808 ≤ rank) (r1 : rank ≤ 9223372036854775807) (k0 : -9223372036854775808 ≤ k) (k1 : k ≤ 9223372036854775807) (h : k ≤ rank) (w : World) :
    Calls Try.prog 29 #[.int .u64 life, .int .i64 rank, .int .i64 k] w fun e w' => e = .returned (.int .u64 (life / 2 ^ (min 64 (rank - k + 1).toNat))) ∧ Below w.heap.size w w' := by
  have hd : IntKind.u64.wrap (IntKind.u64.wrap rank - IntKind.u64.wrap k) = rank - k := by simp only [IntKind.wrap_u64]; omega
  go_enter Try.func29, Try.ntmps29
  go_wp2
  go_loopw [8, 14] (fun _ i wr => ∃ n : Nat, n ≤ 64 ∧ (n : Int) ≤ rank - k + 1 ∧ i = .int .i64 n ∧ wr = w.alloc (.cells #[.int .u64 (life / 2 ^ n)] 22)) (fun _ i _ => 64 - (intOf i).toNat)
  case atStart => exact ⟨0, by omega, by omega, rfl, by simp⟩
  case round =>
    obtain ⟨n, hn, hk, rfl, rfl⟩ := hrel
    obtain ⟨p0, p1⟩ := pow_bd life h0 n
    have p2 : life / 2 ^ n ≤ 18446744073709551615 := by omega
    by_cases hlt : n < 64
    · by_cases hle : (n : Int) ≤ rank - k
      · go_wp2_with (go_at_call 57; refine (Halve_any (life / 2 ^ n) _ p0 p2 _ (by simp) (by simp)).mono ?_; rintro e w' ⟨rfl, rfl⟩)
        go_roundw
        case rel => exact ⟨n + 1, by omega, by omega, by go_num, by simp [pow_step]⟩
        case measure => simp [intOf]; omega
      · go_wp2
        go_ret
        exact ⟨ret_int (by rw [show min 64 (rank - k + 1).toNat = n from by omega]), (Below.refl _ _).alloc (Nat.le_refl _) _⟩
    · go_wp2
      go_ret
      exact ⟨ret_int (by rw [show min 64 (rank - k + 1).toNat = n from by omega]), (Below.refl _ _).alloc (Nat.le_refl _) _⟩

set_option maxHeartbeats 400000 in
theorem Share_any (life rank k : Int) (h0 : 0 ≤ life) (h1 : life ≤ 18446744073709551615) (r0 : -9223372036854775808 ≤ rank) (r1 : rank ≤ 9223372036854775807) (k0 : -9223372036854775808 ≤ k) (k1 : k ≤ 9223372036854775807) (w : World) :
    Calls Try.prog 29 #[.int .u64 life, .int .i64 rank, .int .i64 k] w fun e w' => e = .returned (.int .u64 (share life rank k)) ∧ Below w.heap.size w w' := by
  unfold share
  by_cases h : rank < k
  · rw [if_pos h]
    go_enter Try.func29, Try.ntmps29
    go_wp2
    go_ret
    exact ⟨rfl, (Below.refl _ _).alloc (Nat.le_refl _) _⟩
  · rw [if_neg h]
    exact Share_hi life rank k h0 h1 r0 r1 k0 k1 (by omega) w

theorem share_bd (life rank k : Int) (h0 : 0 ≤ life) : 0 ≤ share life rank k ∧ share life rank k ≤ life := by
  unfold share
  split
  · omega
  · exact pow_bd life h0 _
end Go.Proofs.Ytgdiajhegmdfgaa

namespace Go.Proofs.Ytgdiajhegmdfgaa
open Go.RowKit

/-- A slice of instances that came in. -/
structure Insts (w : World) (B : Nat) (a : Option Addr) (len : Nat) (l : List Ins) : Prop where
  len : len = l.length
  ok : ∀ x ∈ l, x.Ok
  bd : l.length ≤ maxLen
  at_ : ∀ i x, l[i]? = some x → ∃ ad, a = some ad ∧ ad.block < B ∧ Row w (ad.add (i * 28)) x.cs

def lastOf (l : List Ins) : Int := l.foldl (fun m x => max m x.fin) 0

theorem isAgg_inst : IsAgg Try.prog 81 28 := ⟨_, Try.underlying81, rfl, by kernel_rfl⟩

theorem lastOf_bd (l : List Ins) (h : ∀ x ∈ l, x.Ok) : 0 ≤ lastOf l ∧ lastOf l ≤ 18446744073709551615 := by
  have key : ∀ (l : List Ins) (m : Int), (∀ x ∈ l, x.Ok) → 0 ≤ m → m ≤ 18446744073709551615 → 0 ≤ l.foldl (fun m x => max m x.fin) m ∧ l.foldl (fun m x => max m x.fin) m ≤ 18446744073709551615 := by
    intro l
    induction l with
    | nil => intro m _ h0 h1; exact ⟨h0, h1⟩
    | cons x l ih =>
      intro m hx h0 h1
      have hk := hx x (by simp)
      have := hk.b0
      have := hk.l0
      refine ih _ (fun y hy => hx y (by simp [hy])) ?_ ?_ <;> (show _ ≤ _) <;> dsimp only [Ins.fin] <;> omega
  exact key l 0 h (by omega) (by omega)

theorem lastOf_snoc {l : List Ins} {k : Nat} {x : Ins} (hx : l[k]? = some x) : lastOf (l.take (k + 1)) = max (lastOf (l.take k)) x.fin := by
  rw [List.take_add_one, hx]
  simp [lastOf]

set_option maxRecDepth 100000 in
set_option maxHeartbeats 400000 in
theorem Last_any (a : Option Addr) (len cap : Nat) (l : List Ins) (w : World) (h : Insts w w.heap.size a len l) :
    Calls Try.prog 33 #[.slice a len cap] w fun e w' => e = .returned (.int .u64 (lastOf l)) ∧ Below w.heap.size w w' := by
  obtain ⟨hlen, hok, hbd, hat⟩ := h
  unfold maxLen at hbd
  have hl2 : len ≤ 9223372036854775807 := by omega
  have H := Lib.hid hlen
  have HA := Lib.hid hat
  clear hlen hat
  go_enter Try.func33, Try.ntmps33
  go_wp2
  go_loopw [2, 4, 7] (fun n _ i wr => ∃ k : Nat, k ≤ len ∧ i = .int .i64 k ∧ n = .int .u64 (lastOf (l.take k)) ∧ Below w.heap.size w wr) (fun _ _ i _ => len - (intOf i).toNat)
  case atStart => exact ⟨0, by omega, rfl, rfl, Below.refl _ _⟩
  case round =>
    obtain ⟨k, hk, rfl, rfl, hb⟩ := hrel
    by_cases hlt : k < len
    · obtain ⟨x, hx⟩ : ∃ x, l[k]? = some x := ⟨l[k]'(by rw [← H.out]; exact hlt), List.getElem?_eq_getElem _⟩
      obtain ⟨ad, rfl, hab, hrow⟩ := HA.out k x hx
      have hxo := hok x (List.mem_of_getElem? hx)
      have hrow' := hrow.below hb (by rw [add_block]; exact hab)
      have hsz : ad.block < wr.heap.size := Nat.lt_of_lt_of_le hab hb.size
      have hnew : Row (wr.alloc (.cells x.cs.toArray 81)) ⟨wr.heap.size, 0, none⟩ x.cs := Row.of_block (heap_alloc_new wr _)
      have hfb : 0 ≤ x.fin ∧ x.fin ≤ 18446744073709551615 := by have := hxo.b0; have := hxo.l0; unfold Ins.fin; omega
      have hlb := lastOf_bd (l.take k) fun y hy => hok y (List.mem_of_mem_take hy)
      have HS := Lib.hid (lastOf_snoc hx)
      obtain ⟨hf0, hf1⟩ := hfb
      obtain ⟨hl0, hl1⟩ := hlb
      go_wp2_with (first
        | (refine wpList_load_agg (o := ⟨some 10, _, _, _, _, _⟩) rfl 81 _ rfl _ rfl x.cs hrow' (by rw [hxo.len]; exact isAgg_inst) ?_)
        | (refine wpList_store_new (o := ⟨none, _, _, _, _, _⟩) rfl 81 _ _ rfl _ _ rfl x.cs rfl 28 (by kernel_rfl) hxo.len rfl hxo.one ?_)
        | (refine wpList_load_agg (o := ⟨some 12, _, _, _, _, _⟩) rfl 81 _ rfl _ rfl x.cs hnew (by rw [hxo.len]; exact isAgg_inst) ?_)
        | (go_at_call 58; refine (End_any x hxo _).mono ?_; rintro e w' ⟨rfl, hb'⟩))
      all_goals
        go_roundw
        case rel => exact ⟨k + 1, by omega, by go_num, by rw [HS.out] <;> go_num, (hb.alloc hb.size _).trans (hb'.mono (by simp; have := hb.size; omega))⟩
        case measure => simp [intOf]; omega
    · go_wp2
      go_ret
      exact ⟨ret_int (by rw [List.take_of_length_le (by rw [← H.out]; omega)]), hb⟩
end Go.Proofs.Ytgdiajhegmdfgaa

namespace Go.Proofs.Ytgdiajhegmdfgaa
open Go.RowKit

def untilOf (l : List Ins) (now rank k : Int) : Int := min (now + share (lastOf l - min (lastOf l) now) rank k) 18446744073709551615

set_option maxRecDepth 100000 in
set_option maxHeartbeats 400000 in
theorem Until_any (a : Option Addr) (len cap : Nat) (l : List Ins) (now rank k : Int) (n0 : 0 ≤ now) (n1 : now ≤ 18446744073709551615) (r0 : -9223372036854775808 ≤ rank) (r1 : rank ≤ 9223372036854775807) (k0 : -9223372036854775808 ≤ k) (k1 : k ≤ 9223372036854775807)
    (w : World) (h : Insts w w.heap.size a len l) :
    Calls Try.prog 35 #[.slice a len cap, .int .u64 now, .int .i64 rank, .int .i64 k] w fun e w' => e = .returned (.int .u64 (untilOf l now rank k)) ∧ Below w.heap.size w w' := by
  obtain ⟨l0, l1⟩ := lastOf_bd l h.ok
  have s0 : 0 ≤ lastOf l - min (lastOf l) now := by omega
  have s1 : lastOf l - min (lastOf l) now ≤ 18446744073709551615 := by omega
  obtain ⟨t0, t1⟩ := share_bd (lastOf l - min (lastOf l) now) rank k s0
  have t2 : share (lastOf l - min (lastOf l) now) rank k ≤ 18446744073709551615 := by omega
  go_enter Try.func35, Try.ntmps35
  go_wp2_with fail
  refine (Last_any a len cap l _ h).mono ?_; rintro e w1 ⟨rfl, hb1⟩
  go_wp2_with fail
  refine (Sub_any _ now l0 l1 n0 n1 _).mono ?_; rintro e w2 ⟨rfl, rfl⟩
  go_wp2_with fail
  refine (Share_any _ rank k s0 s1 r0 r1 k0 k1 _).mono ?_; rintro e w2 ⟨rfl, hb2⟩
  go_wp2_with fail
  refine (Add_any now _ n0 n1 t0 t2 _).mono ?_; rintro e w2 ⟨rfl, rfl⟩
  go_wp2_with fail
  go_ret
  exact ⟨rfl, hb1.trans (hb2.mono hb1.size)⟩

def lightB (l : List Ins) : Bool := (l.all fun x => decide (x.tgt.size ≤ 300)) && decide (l.length ≤ 40)

theorem light_false {l : List Ins} {k : Nat} {x : Ins} (hx : l[k]? = some x) (h : ¬ x.tgt.size ≤ 300) : lightB l = false := by
  have : (l.all fun x => decide (x.tgt.size ≤ 300)) = false := by
    rw [List.all_eq_false]
    exact ⟨x, List.mem_of_getElem? hx, by simpa using h⟩
  simp [lightB, this]
theorem all_take {l : List Ins} {k : Nat} {x : Ins} (hx : l[k]? = some x) (h : x.tgt.size ≤ 300) (hk : (l.take k).all (fun x => decide (x.tgt.size ≤ 300)) = true) : (l.take (k + 1)).all (fun x => decide (x.tgt.size ≤ 300)) = true := by
  rw [List.take_add_one, hx]
  simp only [Option.toList_some, List.all_append, List.all_cons, List.all_nil, Bool.and_eq_true, decide_eq_true_eq, and_true]
  exact ⟨hk, h⟩

set_option maxRecDepth 100000 in
set_option maxHeartbeats 400000 in
theorem Light_any (a : Option Addr) (len cap : Nat) (l : List Ins) (w : World) (h : Insts w w.heap.size a len l) :
    Calls Try.prog 27 #[.slice a len cap] w fun e w' => e = .returned (.bool (lightB l)) ∧ Below w.heap.size w w' := by
  obtain ⟨hlen, hok, hbd, hat⟩ := h
  unfold maxLen at hbd
  have hl2 : len ≤ 9223372036854775807 := by omega
  have H := Lib.hid hlen
  have HA := Lib.hid hat
  clear hlen hat
  go_enter Try.func27, Try.ntmps27
  go_wp2
  go_loopw [4, 7] (fun _ i wr => ∃ k : Nat, k ≤ len ∧ i = .int .i64 k ∧ Hid ((l.take k).all (fun x => decide (x.tgt.size ≤ 300)) = true) ∧ Below w.heap.size w wr) (fun _ i _ => len - (intOf i).toNat)
  case atStart => exact ⟨0, by omega, rfl, rfl, Below.refl _ _⟩
  case round =>
    obtain ⟨k, hk, rfl, HK, hb⟩ := hrel
    by_cases hlt : k < len
    · obtain ⟨x, hx⟩ : ∃ x, l[k]? = some x := ⟨l[k]'(by rw [← H.out]; exact hlt), List.getElem?_eq_getElem _⟩
      obtain ⟨ad, rfl, hab, hrow⟩ := HA.out k x hx
      have hxo := hok x (List.mem_of_getElem? hx)
      have hrow' := hrow.below hb (by rw [add_block]; exact hab)
      have hsz : ad.block < wr.heap.size := Nat.lt_of_lt_of_le hab hb.size
      have hnew : Row (wr.alloc (.cells x.cs.toArray 81)) ⟨wr.heap.size, 0, none⟩ x.cs := Row.of_block (heap_alloc_new wr _)
      have htg : (wr.alloc (.cells x.cs.toArray 81)).cell? ⟨wr.heap.size, 27, none⟩ = some (.string x.tgt) := by simp [hxo.htgt]
      have hts := hxo.tsize
      unfold maxLen at hts
      have HX := Lib.hid hx
      clear hx
      by_cases h300 : x.tgt.size ≤ 300
      · go_wp2_with (first
          | (refine wpList_load_agg (o := ⟨some 10, _, _, _, _, _⟩) rfl 81 _ rfl _ rfl x.cs hrow' (by rw [hxo.len]; exact isAgg_inst) ?_)
          | (refine wpList_store_new (o := ⟨none, _, _, _, _, _⟩) rfl 81 _ _ rfl _ _ rfl x.cs rfl 28 (by kernel_rfl) hxo.len rfl hxo.one ?_))
        go_roundw
        case rel => exact ⟨k + 1, by omega, by go_num, Lib.hid (all_take HX.out h300 HK.out), hb.alloc hb.size _⟩
        case measure => simp [intOf]; omega
      · go_wp2_with (first
          | (refine wpList_load_agg (o := ⟨some 10, _, _, _, _, _⟩) rfl 81 _ rfl _ rfl x.cs hrow' (by rw [hxo.len]; exact isAgg_inst) ?_)
          | (refine wpList_store_new (o := ⟨none, _, _, _, _, _⟩) rfl 81 _ _ rfl _ _ rfl x.cs rfl 28 (by kernel_rfl) hxo.len rfl hxo.one ?_))
        go_ret
        exact ⟨ret_bool (light_false HX.out h300).symm, hb.alloc hb.size _⟩
    · go_wp2
      go_ret
      refine ⟨ret_bool ?_, hb⟩
      have hk2 := HK.out
      rw [List.take_of_length_le (by rw [← H.out]; omega)] at hk2
      rw [lightB, hk2, ← H.out, Bool.true_and]
      exact Bool.eq_iff_iff.2 (by simp; omega)

set_option maxHeartbeats 400000 in
theorem lives21 (w : World) : Calls Try.prog 28 #[] w fun e w' => e = .returned (.bool true) ∧ Below w.heap.size w w' := by
  have e1 : share 100 3 4 = 100 := by decide
  have e2 : share 100 4 4 = 50 := by decide
  have e3 : share 100 6 4 = 12 := by decide
  go_enter Try.func28, Try.ntmps28
  go_wp2_with fail
  refine (Share_any 100 3 4 (by omega) (by omega) (by omega) (by omega) (by omega) (by omega) _).mono ?_; rintro e w1 ⟨rfl, hb1⟩
  go_wp2_with fail
  refine (Share_any 100 4 4 (by omega) (by omega) (by omega) (by omega) (by omega) (by omega) _).mono ?_; rintro e w2 ⟨rfl, hb2⟩
  go_wp2_with fail
  refine (Share_any 100 6 4 (by omega) (by omega) (by omega) (by omega) (by omega) (by omega) _).mono ?_; rintro e w3 ⟨rfl, hb3⟩
  go_wp2_with fail
  go_ret
  exact ⟨rfl, hb1.trans ((hb2.trans (hb3.mono hb2.size)).mono hb1.size)⟩
end Go.Proofs.Ytgdiajhegmdfgaa

namespace Go.Proofs.Ytgdiajhegmdfgaa
open Go.ChangeShapes Go.WideShapes Go.ChangeAt Go.RowKit Go.Deep

section
variable {H : Type} {enc : TypeId × Value → H} {w : World} {base : Nat} {spare : Nat → Bool} {held : Bool}



/-- Twenty bytes. -/
theorem open_bytes20 {t : TypeId} {fuel : Nat} {cs : List Value} {x : DataW H × List MemPlace} (ht : Try.prog.underlying t = some (.array 20 5)) (h : DataW.trod enc Try.prog w base spare held fuel t cs = some x) (hl : cs.length = 20) :
    ∃ bs : List UInt8, bs.length = 20 ∧ cs = bs.map fun b => Value.int .u8 (b.toNat : Int) := by
  obtain ⟨xs, m, _, _, _, _, hel⟩ := DataW.trod_array ht h
  have hcell : Try.prog.cellsOf 5 = 1 := by kernel_rfl
  have hbyte : ∀ i, i < 20 → ∃ b : UInt8, cs[i]? = some (Value.int .u8 (b.toNat : Int)) := by
    intro i hi
    have h1 := hel i hi
    rw [hcell, Nat.mul_one] at h1
    have hxs : i < xs.length := by omega
    rw [List.getElem?_eq_getElem hxs] at h1
    obtain ⟨n, e1, _, hw⟩ := DataW.trod_int Try.underlying5 h1
    have hb := wf_bd hw
    have h0 : IntKind.u8.min = 0 := by decide
    have h255 : IntKind.u8.max = 255 := by decide
    rw [h0, h255] at hb
    refine ⟨UInt8.ofNat n.toNat, ?_⟩
    rw [drop_take_one e1]
    have : ((UInt8.ofNat n.toNat).toNat : Int) = n := by
      rw [UInt8.toNat_ofNat_of_lt' (by show n.toNat < 256; omega)]
      omega
    rw [this]
  refine ⟨cs.map fun v => match v with | .int _ n => UInt8.ofNat n.toNat | _ => 0, by simpa using hl, ?_⟩
  apply List.ext_getElem?
  intro i
  by_cases hi : i < 20
  · obtain ⟨b, hb⟩ := hbyte i hi
    simp [hb]
  · rw [List.getElem?_eq_none (by omega), List.getElem?_eq_none (by simp; omega)]

theorem inst_cells : Try.prog.cellsOf 81 = 28 := by kernel_rfl

theorem open_ins {fuel : Nat} {cs : List Value} {x : DataW H × List MemPlace} (h : DataW.trod enc Try.prog w base spare held fuel 81 cs = some x) :
    ∃ y : Ins, y.cs = cs ∧ y.Ok := by
  obtain ⟨xs, n, _, _, hlen, hxl, hf⟩ := DataW.trod_struct Try.underlying81 h
  rw [inst_cells] at hlen
  have hx : ∀ (i : Nat), i < 9 → ∃ z, xs[i]? = some z := fun i hi => ⟨xs[i]'(by rw [hxl]; exact hi), List.getElem?_eq_getElem _⟩
  have c1 : Try.prog.cellsOf 22 = 1 := by kernel_rfl
  have c2 : Try.prog.cellsOf 78 = 1 := by kernel_rfl
  have c3 : Try.prog.cellsOf 4 = 1 := by kernel_rfl
  have c4 : Try.prog.cellsOf 79 = 1 := by kernel_rfl
  have c5 : Try.prog.cellsOf 9 = 1 := by kernel_rfl
  have c6 : Try.prog.cellsOf 34 = 20 := by kernel_rfl
  obtain ⟨z0, h0⟩ := hx 0 (by omega)
  obtain ⟨z1, h1⟩ := hx 1 (by omega)
  obtain ⟨z2, h2⟩ := hx 2 (by omega)
  obtain ⟨z3, h3⟩ := hx 3 (by omega)
  obtain ⟨z4, h4⟩ := hx 4 (by omega)
  obtain ⟨z5, h5⟩ := hx 5 (by omega)
  obtain ⟨z6, h6⟩ := hx 6 (by omega)
  obtain ⟨z7, h7⟩ := hx 7 (by omega)
  obtain ⟨z8, h8⟩ := hx 8 (by omega)
  have g0 : DataW.trod enc Try.prog w base spare held n 34 ((cs.drop 0).take (Try.prog.cellsOf 34)) = some z0 := (hf 0 _ rfl).trans h0
  have g1 : DataW.trod enc Try.prog w base spare held n 22 ((cs.drop 20).take (Try.prog.cellsOf 22)) = some z1 := (hf 1 _ rfl).trans h1
  have g2 : DataW.trod enc Try.prog w base spare held n 22 ((cs.drop 21).take (Try.prog.cellsOf 22)) = some z2 := (hf 2 _ rfl).trans h2
  have g3 : DataW.trod enc Try.prog w base spare held n 78 ((cs.drop 22).take (Try.prog.cellsOf 78)) = some z3 := (hf 3 _ rfl).trans h3
  have g4 : DataW.trod enc Try.prog w base spare held n 4 ((cs.drop 23).take (Try.prog.cellsOf 4)) = some z4 := (hf 4 _ rfl).trans h4
  have g5 : DataW.trod enc Try.prog w base spare held n 79 ((cs.drop 24).take (Try.prog.cellsOf 79)) = some z5 := (hf 5 _ rfl).trans h5
  have g6 : DataW.trod enc Try.prog w base spare held n 79 ((cs.drop 25).take (Try.prog.cellsOf 79)) = some z6 := (hf 6 _ rfl).trans h6
  have g7 : DataW.trod enc Try.prog w base spare held n 79 ((cs.drop 26).take (Try.prog.cellsOf 79)) = some z7 := (hf 7 _ rfl).trans h7
  have g8 : DataW.trod enc Try.prog w base spare held n 9 ((cs.drop 27).take (Try.prog.cellsOf 9)) = some z8 := (hf 8 _ rfl).trans h8
  rw [c6] at g0
  rw [c1] at g1 g2
  rw [c2] at g3
  rw [c3] at g4
  rw [c4] at g5 g6 g7
  rw [c5] at g8
  obtain ⟨bs, hbl, hbs⟩ := open_bytes20 Try.underlying34 g0 (by simp; omega)
  obtain ⟨seq, e1, _, w1⟩ := DataW.trod_int Try.underlying22 g1
  obtain ⟨born, e2, _, w2⟩ := DataW.trod_int Try.underlying22 g2
  obtain ⟨life, e3, _, w3⟩ := DataW.trod_int Try.underlying78 g3
  obtain ⟨gone, e4, _⟩ := DataW.trod_bool Try.underlying4 g4
  obtain ⟨pr, e5, _, w5⟩ := DataW.trod_int Try.underlying79 g5
  obtain ⟨we, e6, _, w6⟩ := DataW.trod_int Try.underlying79 g6
  obtain ⟨po, e7, _, w7⟩ := DataW.trod_int Try.underlying79 g7
  obtain ⟨tg, e8, _, w8⟩ := DataW.trod_string Try.underlying9 g8
  have d1 := drop_take_one e1
  have d2 := drop_take_one e2
  have d3 := drop_take_one e3
  have d4 := drop_take_one e4
  have d5 := drop_take_one e5
  have d6 := drop_take_one e6
  have d7 := drop_take_one e7
  have d8 := drop_take_one e8
  have b2 := wf_bd w2
  have b3 := wf_bd w3
  have k1 : IntKind.u64.min = 0 := by decide
  have k2 : IntKind.u64.max = 18446744073709551615 := by decide
  have k3 : IntKind.u32.min = 0 := by decide
  have k4 : IntKind.u32.max = 4294967295 := by decide
  rw [k1, k2] at b2
  rw [k3, k4] at b3
  refine ⟨⟨cs, born, life, tg⟩, rfl, hlen, d2, d3, d8, b2.1, b2.2, b3.1, b3.2, w8, fun v hv => ?_⟩
  obtain ⟨i, hi⟩ := List.getElem?_of_mem hv
  have hi28 : i < 28 := by
    have := (List.getElem?_eq_some_iff.1 hi).1
    show i < 28
    simp only at this
    omega
  by_cases hi20 : i < 20
  · have : (cs.take 20)[i]? = some v := by rw [List.getElem?_take, if_pos hi20]; exact hi
    simp only [List.drop_zero] at hbs
    rw [hbs] at this
    obtain ⟨b, _, hb⟩ := List.mem_map.1 (List.mem_of_getElem? this)
    rw [← hb]; rfl
  · have hcase : i = 20 ∨ i = 21 ∨ i = 22 ∨ i = 23 ∨ i = 24 ∨ i = 25 ∨ i = 26 ∨ i = 27 := by omega
    rcases hcase with rfl | rfl | rfl | rfl | rfl | rfl | rfl | rfl
    · obtain rfl := Option.some.inj (d1.symm.trans hi); rfl
    · obtain rfl := Option.some.inj (d2.symm.trans hi); rfl
    · obtain rfl := Option.some.inj (d3.symm.trans hi); rfl
    · obtain rfl := Option.some.inj (d4.symm.trans hi); rfl
    · obtain rfl := Option.some.inj (d5.symm.trans hi); rfl
    · obtain rfl := Option.some.inj (d6.symm.trans hi); rfl
    · obtain rfl := Option.some.inj (d7.symm.trans hi); rfl
    · obtain rfl := Option.some.inj (d8.symm.trans hi); rfl

theorem open_insts {a : Option Addr} {len cap : Nat} {d : DataW H} {p : List MemPlace} (h : DataW.Trod enc Try.prog w base spare held 53 (.slice a len cap) d p) :
    ∃ l, Insts w w.heap.size a len l := by
  obtain ⟨fuel, hf⟩ := h
  rcases open_slice Try.underlying53 hf with ⟨hcs, _⟩ | ⟨ad, len', cap', m, n, D, Pl, hcs, _, hl, hm, hmm, _, hi⟩
  · simp only [Value.cells, List.cons.injEq, Value.slice.injEq, and_true] at hcs
    obtain ⟨rfl, rfl, rfl⟩ := hcs
    exact ⟨[], rfl, by simp, by simp, by simp⟩
  · simp only [Value.cells, List.cons.injEq, Value.slice.injEq, and_true] at hcs
    obtain ⟨rfl, rfl, rfl⟩ := hcs
    have hmlen : len ≤ m := by rw [hmm]; split <;> omega
    rw [inst_cells] at hi
    have hall : ∀ i, i < len → ∃ y : Ins, y.Ok ∧ Row w (ad.add (i * 28)) y.cs := by
      intro i hlt
      obtain ⟨cs', hc, ht⟩ := hi i (by omega)
      obtain ⟨y, hy, hok⟩ := open_ins ht
      obtain ⟨_, hcl, hat⟩ := World.cells?_some hc
      refine ⟨y, hok, fun j v hv => ?_⟩
      rw [hy] at hv
      have hj : j < 28 := by
        have := (List.getElem?_eq_some_iff.1 hv).1
        omega
      rw [hat j hj, hv]
    let f : Nat → Ins := fun i => if h : i < len then Classical.choose (hall i h) else ⟨[], 0, 0, ⟨#[]⟩⟩
    have hfs : ∀ i, i < len → (f i).Ok ∧ Row w (ad.add (i * 28)) (f i).cs := by
      intro i h
      have := Classical.choose_spec (hall i h)
      simp only [f, dif_pos h]
      exact this
    refine ⟨(List.range len).map f, by simp, ?_, by simpa using Nat.le_trans hl hm, ?_⟩
    · intro x hx
      obtain ⟨i, hi', rfl⟩ := List.mem_map.1 hx
      exact (hfs i (List.mem_range.1 hi')).1
    · intro i x hx
      rw [List.getElem?_map] at hx
      have hlt : i < len := by
        by_cases h : i < len
        · exact h
        · rw [List.getElem?_eq_none (by simpa using h)] at hx; cases hx
      rw [List.getElem?_range hlt] at hx
      obtain rfl := Option.some.inj hx
      obtain ⟨hok, hrow⟩ := hfs i hlt
      refine ⟨ad, rfl, ?_, hrow⟩
      have := block_lt_of_cell (hrow 21 _ hok.hborn)
      rw [add_block, add_block] at this
      exact this
end
end Go.Proofs.Ytgdiajhegmdfgaa


/-
  What the reference's clock and life compute: signpostref13.Add, Sub, signpostref11.End, signpostref21.Share, Last and Until. Conditions: the arguments fit their kinds.
-/
namespace Go.Proofs.Ytgdiajhegmdfgaa
open Go.RowKit

set_option maxHeartbeats 400000 in
theorem rAdd_any (a b : Int) (ha : 0 ≤ a) (ha' : a ≤ 18446744073709551615) (hb : 0 ≤ b) (hb' : b ≤ 18446744073709551615) (w : World) :
    Calls Try.prog 62 #[.int .u64 a, .int .u64 b] w fun e w' => e = .returned (.int .u64 (min (a + b) 18446744073709551615)) ∧ w = w' := by
  by_cases h : a + b ≤ 18446744073709551615
  all_goals
    go_enter Try.func62, Try.ntmps62
    go_wp2
    go_ret
    exact ⟨ret_int (by omega), rfl⟩

set_option maxHeartbeats 400000 in
theorem rSub_any (a b : Int) (ha : 0 ≤ a) (ha' : a ≤ 18446744073709551615) (hb : 0 ≤ b) (hb' : b ≤ 18446744073709551615) (w : World) :
    Calls Try.prog 63 #[.int .u64 a, .int .u64 b] w fun e w' => e = .returned (.int .u64 (a - min a b)) ∧ w = w' := by
  by_cases h : a < b
  all_goals
    go_enter Try.func63, Try.ntmps63
    go_wp2
    go_ret
    exact ⟨ret_int (by omega), rfl⟩

set_option maxHeartbeats 400000 in
theorem rEnd_any (x : Ins) (h : x.Ok) (w : World) :
    Calls Try.prog 59 #[.agg x.cs.toArray] w fun e w' => e = .returned (.int .u64 x.fin) ∧ Below w.heap.size w w' := by
  have hc21 : (w.alloc (.cells x.cs.toArray 81)).cell? ⟨w.heap.size, 21, none⟩ = some (.int .u64 x.born) := by simp [h.hborn]
  have hc22 : (w.alloc (.cells x.cs.toArray 81)).cell? ⟨w.heap.size, 22, none⟩ = some (.int .u32 x.life) := by simp [h.hlife]
  have b0 := h.b0
  have b1 := h.b1
  have l0 := h.l0
  have l1 := h.l1
  go_enter Try.func59, Try.ntmps59
  go_wp2
  all_goals
    go_ret
    exact ⟨ret_int (by unfold Ins.fin; omega), (Below.refl _ _).alloc (Nat.le_refl _) _⟩

theorem pow_ge (i : Nat) : (i : Int) < 2 ^ i := by
  have h := Nat.lt_two_pow_self (n := i)
  exact_mod_cast h
theorem pow_zero_of (life : Int) (h0 : 0 ≤ life) (i n : Nat) (h : life / 2 ^ i ≤ 0) (hi : i ≤ n) : life / 2 ^ n = 0 := by
  obtain ⟨d, rfl⟩ : ∃ d, n = i + d := ⟨n - i, by omega⟩
  have h1 : life / 2 ^ i = 0 := by have := (pow_bd life h0 i).1; omega
  rw [Int.pow_add, ← Int.ediv_ediv_of_nonneg (Int.pow_nonneg (by omega)), h1, Int.zero_ediv]
theorem pow_64 (life : Int) (h0 : 0 ≤ life) (h1 : life ≤ 18446744073709551615) : life / 2 ^ 64 ≤ 0 := by
  have : life / 2 ^ 64 < 1 := Int.ediv_lt_of_lt_mul (by decide) (by omega)
  omega
/-- Halved till nothing is left, or as often as was asked. -/
theorem share_end (life over : Int) (i : Nat) (h0 : 0 ≤ life) (h1 : life ≤ 18446744073709551615) (ho : 0 ≤ over) (hi : (i : Int) ≤ over + 1) (hi64 : i ≤ 64) (h : over < i ∨ life / 2 ^ i ≤ 0) :
    life / 2 ^ i = life / 2 ^ (min 64 (over + 1).toNat) := by
  by_cases h2 : over < i
  · rw [show min 64 (over + 1).toNat = i by omega]
  · have h3 : life / 2 ^ i ≤ 0 := by rcases h with h | h; · omega
                                     · exact h
    rw [pow_zero_of life h0 i i h3 (Nat.le_refl _), pow_zero_of life h0 i _ h3 (by omega)]

set_option maxHeartbeats 400000 in
theorem rShare_hi (life rank k : Int) (h0 : 0 ≤ life) (h1 : life ≤ 18446744073709551615) (r0 : -9223372036854775808 ≤ rank) (r1 : rank ≤ 9223372036854775807) (k0 : -9223372036854775808 ≤ k) (k1 : k ≤ 9223372036854775807) (h : k ≤ rank) (w : World) :
    Calls Try.prog 30 #[.int .u64 life, .int .i64 rank, .int .i64 k] w fun e w' => e = .returned (.int .u64 (life / 2 ^ (min 64 (rank - k + 1).toNat))) ∧ w = w' := by
  have hd : IntKind.u64.wrap (IntKind.u64.wrap rank - IntKind.u64.wrap k) = rank - k := by simp only [IntKind.wrap_u64]; omega
  obtain ⟨over, hov⟩ : ∃ over, rank - k = over := ⟨_, rfl⟩
  rw [hov] at hd ⊢
  go_enter Try.func30, Try.ntmps30
  go_wp2
  go_loopw [0, 8] (fun l i wr => ∃ n : Nat, n ≤ 64 ∧ (n : Int) ≤ over + 1 ∧ i = .int .u64 n ∧ l = .int .u64 (life / 2 ^ n) ∧ w = wr) (fun _ i _ => 64 - (intOf i).toNat)
  case atStart => exact ⟨0, by omega, by omega, rfl, by simp, by first | rfl | trivial⟩
  case round =>
    obtain ⟨n, hn, hk, rfl, rfl, rfl⟩ := hrel
    obtain ⟨p0, p1⟩ := pow_bd life h0 n
    have p2 : life / 2 ^ n ≤ 18446744073709551615 := by omega
    by_cases hle : (n : Int) ≤ over
    · by_cases hpos : 0 < life / 2 ^ n
      · have hn64 : n < 64 := by
          rcases Nat.lt_or_ge n 64 with h | h
          · exact h
          · obtain rfl : n = 64 := by omega
            have := pow_64 life h0 h1
            omega
        have hst := pow_step life n
        go_wp2
        go_roundw
        case rel => exact ⟨n + 1, by omega, by omega, by go_num, by rw [hst], by first | rfl | trivial⟩
        case measure => simp [intOf]; omega
      · have hE := Lib.hid (share_end life over n h0 h1 (by omega) hk hn (.inr (by omega)))
        go_wp2
        go_ret
        exact ⟨ret_int hE.out, rfl⟩
    · have hE := Lib.hid (share_end life over n h0 h1 (by omega) hk hn (.inl (by omega)))
      go_wp2
      go_ret
      exact ⟨ret_int hE.out, rfl⟩

set_option maxHeartbeats 400000 in
theorem rShare_any (life rank k : Int) (h0 : 0 ≤ life) (h1 : life ≤ 18446744073709551615) (r0 : -9223372036854775808 ≤ rank) (r1 : rank ≤ 9223372036854775807) (k0 : -9223372036854775808 ≤ k) (k1 : k ≤ 9223372036854775807) (w : World) :
    Calls Try.prog 30 #[.int .u64 life, .int .i64 rank, .int .i64 k] w fun e w' => e = .returned (.int .u64 (share life rank k)) ∧ w = w' := by
  unfold share
  by_cases h : rank < k
  · rw [if_pos h]
    go_enter Try.func30, Try.ntmps30
    go_wp2
    go_ret
    exact ⟨rfl, rfl⟩
  · rw [if_neg h]
    exact rShare_hi life rank k h0 h1 r0 r1 k0 k1 (by omega) w

set_option maxRecDepth 100000 in
set_option maxHeartbeats 400000 in
theorem rLast_any (a : Option Addr) (len cap : Nat) (l : List Ins) (w : World) (h : Insts w w.heap.size a len l) :
    Calls Try.prog 34 #[.slice a len cap] w fun e w' => e = .returned (.int .u64 (lastOf l)) ∧ Below w.heap.size w w' := by
  obtain ⟨hlen, hok, hbd, hat⟩ := h
  unfold maxLen at hbd
  have hl2 : len ≤ 9223372036854775807 := by omega
  have H := Lib.hid hlen
  have HA := Lib.hid hat
  clear hlen hat
  go_enter Try.func34, Try.ntmps34
  go_wp2
  go_loopw [3, 4] (fun n i wr => ∃ k : Nat, k ≤ len ∧ i = .int .i64 k ∧ n = .int .u64 (lastOf (l.take k)) ∧ Below w.heap.size w wr) (fun _ i _ => len - (intOf i).toNat)
  case atStart => exact ⟨0, by omega, rfl, rfl, Below.refl _ _⟩
  case round =>
    obtain ⟨k, hk, rfl, rfl, hb⟩ := hrel
    by_cases hlt : k < len
    · obtain ⟨x, hx⟩ : ∃ x, l[k]? = some x := ⟨l[k]'(by rw [← H.out]; exact hlt), List.getElem?_eq_getElem _⟩
      obtain ⟨ad, rfl, hab, hrow⟩ := HA.out k x hx
      have hxo := hok x (List.mem_of_getElem? hx)
      have hrow' := hrow.below hb (by rw [add_block]; exact hab)
      have hsz : ad.block < wr.heap.size := Nat.lt_of_lt_of_le hab hb.size
      have hfb : 0 ≤ x.fin ∧ x.fin ≤ 18446744073709551615 := by have := hxo.b0; have := hxo.l0; unfold Ins.fin; omega
      have hlb := lastOf_bd (l.take k) fun y hy => hok y (List.mem_of_mem_take hy)
      have HS := Lib.hid (lastOf_snoc hx)
      obtain ⟨hf0, hf1⟩ := hfb
      obtain ⟨hl0, hl1⟩ := hlb
      go_wp2_with (first
        | (refine wpList_load_agg (o := ⟨some 15, _, _, _, _, _⟩) rfl 81 _ rfl _ rfl x.cs hrow' (by rw [hxo.len]; exact isAgg_inst) ?_)
        | (go_at_call 59; refine (rEnd_any x hxo _).mono ?_; rintro e w' ⟨rfl, hb'⟩))
      all_goals
        go_roundw
        case rel => exact ⟨k + 1, by omega, by go_num, by rw [HS.out] <;> go_num, hb.trans (hb'.mono hb.size)⟩
        case measure => simp [intOf]; omega
    · go_wp2
      go_ret
      exact ⟨ret_int (by rw [List.take_of_length_le (by rw [← H.out]; omega)]), hb⟩

set_option maxRecDepth 100000 in
set_option maxHeartbeats 400000 in
theorem rUntil_any (a : Option Addr) (len cap : Nat) (l : List Ins) (now rank k : Int) (n0 : 0 ≤ now) (n1 : now ≤ 18446744073709551615) (r0 : -9223372036854775808 ≤ rank) (r1 : rank ≤ 9223372036854775807) (k0 : -9223372036854775808 ≤ k) (k1 : k ≤ 9223372036854775807)
    (w : World) (h : Insts w w.heap.size a len l) :
    Calls Try.prog 36 #[.slice a len cap, .int .u64 now, .int .i64 rank, .int .i64 k] w fun e w' => e = .returned (.int .u64 (untilOf l now rank k)) ∧ Below w.heap.size w w' := by
  obtain ⟨l0, l1⟩ := lastOf_bd l h.ok
  have s0 : 0 ≤ lastOf l - min (lastOf l) now := by omega
  have s1 : lastOf l - min (lastOf l) now ≤ 18446744073709551615 := by omega
  obtain ⟨t0, t1⟩ := share_bd (lastOf l - min (lastOf l) now) rank k s0
  have t2 : share (lastOf l - min (lastOf l) now) rank k ≤ 18446744073709551615 := by omega
  go_enter Try.func36, Try.ntmps36
  go_wp2_with fail
  refine (rLast_any a len cap l _ h).mono ?_; rintro e w1 ⟨rfl, hb1⟩
  go_wp2_with fail
  refine (rSub_any _ now l0 l1 n0 n1 _).mono ?_; rintro e w2 ⟨rfl, rfl⟩
  go_wp2_with fail
  refine (rShare_any _ rank k s0 s1 r0 r1 k0 k1 _).mono ?_; rintro e w2 ⟨rfl, rfl⟩
  go_wp2_with fail
  refine (rAdd_any now _ n0 n1 t0 t2 _).mono ?_; rintro e w2 ⟨rfl, rfl⟩
  go_wp2_with fail
  go_ret
  exact ⟨rfl, hb1⟩
end Go.Proofs.Ytgdiajhegmdfgaa

/-
  Two regions of the reference's Sort by distance: an id's distance appended, whatever order is drawn. Conditions: as each theorem says.
-/
namespace Go.Proofs.Ytgdiajhegmdfgaa
open Go.RowKit Go.Sort Go.Lib

/-- Appended; what stood there stands. -/
theorem run_append_keep {sl T : TypeId} (h : IdTy sl T) (w : World) (base : Nat) (v : Value) (d e : Array Id20) (hown : OwnIds T w base v d) (q : Option Addr) (c : Nat) (hrow : IdRow w q e) (hn : d.size + e.size ≤ 500000) (hb : base ≤ w.heap.size) (ty : TypeId) :
    ∃ v' w', (Builtin.append_ #[sl, sl] ty #[v, .slice q e.size c]).run Try.prog w = .ok v' w' ∧ OwnIds T w' base v' (d ++ e) ∧ Below base w w' ∧
      OwnIds T w' base v d := by
  obtain ⟨i, hi, hz, hs, hby⟩ := info_parts h.i
  have hml : d.size + e.size ≤ maxLen := by simp [maxLen]; omega
  have hbd : (d.size + e.size) * 20 ≤ 140737488355328 := by omega
  have hzs : (Value.agg (bytesV (List.replicate 20 0)).toArray).cells.size = 20 := by simp [Value.cells, bytesV_length]
  by_cases he : e.size = 0
  · have e0 : e = #[] := by simpa using he
    subst e0
    exact ⟨v, w, run_append_zero h w base v d hown q c ty, by simpa using hown, Below.refl _ _, hown⟩
  · cases q with
    | none => exact absurd (by rw [hrow.none_ rfl]; rfl) he
    | some ad =>
      have hnews := hrow.row ad rfl
      rcases hown.2 with ⟨rfl, h2⟩ | ⟨g, cap, cur, rfl, hg1, hg2, hg3, hg4, hg5, hg6⟩
      · obtain ⟨v', w', r1, r2, r3, _, _⟩ := run_append_own_at (P := Try.prog) w base sl ty T i _ 20 20 h.u hi hz hs hby hzs (by omega) _ d.size _ hown ad e.size c (idsV e).toList (idsV_len e) hnews (idsV_one e) hml hbd hb
        have hbl : Below w.heap.size w w' := (Below.refl _ _).grown r3 (Nat.le_refl _) (fun k hk => by cases hk)
        refine ⟨v', w', r1, ?_, hbl.mono hb, hown.below hbl⟩
        unfold OwnIds
        rw [idsV_append, Array.size_append]
        exact r2
      · by_cases hfit : d.size + e.size ≤ cap
        · obtain ⟨w', r1, r2, r3⟩ := run_append_fits (P := Try.prog) w base sl ty T i 20 h.u hi hs g d.size cap _ hown ad e.size c (idsV e).toList (idsV_len e) hnews (idsV_one e) hfit
          refine ⟨_, w', r1, ?_, (Below.refl _ _).grown r3 hb (fun k hk => by obtain rfl := Option.some.inj hk; exact hg1), ?_⟩
          case refine_2 =>
            refine ⟨hown.1, ?_⟩
            rcases r2.2 with ⟨k1, _⟩ | ⟨g', cap', cur', k1, k2, k3, k4, k5, k6, k7⟩
            · cases k1
            · injection k1 with e1 e2 e3
              injection e1 with e1
              injection e1 with e1
              subst e1
              subst e3
              refine Or.inr ⟨g, cap, cur', rfl, k2, k3, hg3, k5, k6, ?_⟩
              have h1 : (idsV d).toList = ((idsV d).toList ++ (idsV e).toList).take (d.size * 20) := by rw [List.take_left' (idsV_len d)]
              rw [h1, ← k7, List.take_take, Nat.min_eq_left (by omega)]
          unfold OwnIds
          rw [idsV_append, Array.size_append]
          exact r2
        · have holds : ∀ j u, (idsV d).toList[j]? = some u → w.cell? ((⟨g, 0, none⟩ : Addr).add j) = some u := by
            intro j u hj
            refine Row.of_block hg2 j u ?_
            rw [← hg6, List.getElem?_take] at hj
            split at hj
            · exact hj
            · cases hj
          obtain ⟨v', w', r1, r2, r3⟩ := run_append_arg_grows (P := Try.prog) w sl ty T i _ 20 20 h.u hi hz hs hby hzs (by omega) ⟨g, 0, none⟩ d.size cap (idsV d).toList (idsV_len d) holds ad e.size c (idsV e).toList (idsV_len e) hnews (by omega) hml hbd
          have hbl : Below w.heap.size w w' := (Below.refl _ _).grown r3 (Nat.le_refl _) (fun k hk => by cases hk)
          refine ⟨v', w', r1, ?_, hbl.mono hb, hown.below hbl⟩
          have r2' : OwnIds T w' w.heap.size v' (d ++ e) := by
            unfold OwnIds
            rw [idsV_append, Array.size_append]
            exact r2
          exact r2'.mono hb

/-- .. as an operation. -/
theorem wp_append_keep {sl T : TypeId} (h : IdTy sl T) {w : World} {o : Oper} {a : Act} {K : Act → World → Prop} {Q : Exit → Act → World → Prop} (s x : Operand) (ho : o.op = .call { callee := .builtin .append, args := #[s, x], argTypes := #[sl, sl] })
    (base : Nat) (v : Value) (d e : Array Id20) (hs : a.eval s = v) (hown : OwnIds T w base v d) (q : Option Addr) (c : Nat) (hx : a.eval x = .slice q e.size c) (hrow : IdRow w q e) (hn : d.size + e.size ≤ 500000) (hb : base ≤ w.heap.size)
    (hK : ∀ v' w', OwnIds T w' base v' (d ++ e) → Below base w w' → OwnIds T w' base v d → K (a.put o.dst v') w') : o.wp Try.prog a w K Q := by
  obtain ⟨v', w', r1, r2, r3, r4⟩ := run_append_keep h w base v d e hown q c hrow hn hb o.type
  unfold Oper.wp
  simp [execOp, ho, resolve, invoke, builtin, hs, hx, r1, Result.andThen]
  exact hK _ _ r2 r3 r4

/-- An id's distance, as an id. -/
def xorI (t : List UInt8) (ht : t.length = 20) (x : Id20) : Id20 := ⟨xorB t x.1, by have := x.2; rw [xorB_length t x.1 (by omega), ht]⟩
def usesX : Nat → List Nat
  | 4 => [2, 3] | 5 => [4] | 6 => [1, 5] | 7 => [6] | 8 => [0, 7] | 9 => [8] | _ => []
def ancX : Nat → List Nat
  | 4 => [2, 3] | 5 => [4, 2, 3] | 6 => [1, 5, 4, 2, 3] | 7 => [6, 1, 5, 4, 2, 3] | 8 => [0, 7, 6, 1, 5, 4, 2, 3] | 9 => [0, 1, 2, 3, 4, 5, 6, 7, 8] | _ => []
def finX : Nat → Bool := fun i => i == 9
theorem needXb : ((List.range 10).all fun k => (List.range 10).all fun i => !(k != i && needB 10 usesX ancX finX k i) || i != 8) = true := by decide +kernel
theorem needX (k : Nat) (hk : k < 10) (i : Nat) (hi : i < 10) (hne : k ≠ i) (h : needB 10 usesX ancX finX k i = true) : i ≠ 8 := by
  have h1 := List.all_eq_true.1 (List.all_eq_true.1 needXb k (List.mem_range.2 hk)) i (List.mem_range.2 hi)
  rw [h] at h1
  simpa [hne] using h1
/-- What each operation yields. -/
def phiX (B : Nat) (vo : Value) (ad : Addr) (size cap : Nat) (t : List UInt8) (k : Nat) (x y : Id20) (E : Array Id20) : Nat → Value → World → Prop
  | 0 => fun v _ => v = vo
  | 1 => fun v _ => v = .agg (bytesV t).toArray
  | 2 => fun v _ => v = .slice (some ad) size cap
  | 3 => fun v _ => v = .int .i64 k
  | 4 => fun v _ => v = .pointer (some (ad.add (k * 20)))
  | 5 => fun v _ => v = .agg (bytesV x.1).toArray
  | 6 => fun v _ => v = .agg (bytesV y.1).toArray
  | 7 => fun v w => ∃ g, v = .slice (some ⟨g, 0, none⟩) 1 1 ∧ IdRow w (some ⟨g, 0, none⟩) #[y] ∧ g < w.heap.size
  | _ => fun v w => OwnIds 35 w B v (E ++ #[y])
def laterX (B : Nat) (vo : Value) (E : Array Id20) : Nat → World → World → Prop := fun j w w' => Below B w w' ∧ OwnIds 35 w' B vo E ∧ (j ≠ 8 → Below w.heap.size w w')

def opsX5 : List Oper := [{ dst := some 15, op := Op.move (Operand.tmp 5), type := 30, pos := "ref.go:15", after := #[], guard := none }, { dst := some 16, op := Op.load 35 (Operand.tmp 2), type := 35, pos := "ref.go:15", after := #[], guard := none }, { dst := some 17, op := Op.move (Operand.tmp 1), type := 30, pos := "ref.go:15", after := #[], guard := none }, { dst := some 18, op := Op.move (Operand.tmp 6), type := 3, pos := "ref.go:15", after := #[], guard := none }, { dst := some 19, op := Op.indexAddr 30 (Operand.tmp 17) (Operand.tmp 18), type := 0, pos := "ref.go:15", after := #[{ on := 2, ground := Ground.data }, { on := 3, ground := Ground.data }], guard := none }, { dst := some 20, op := Op.load 35 (Operand.tmp 19), type := 35, pos := "ref.go:15", after := #[{ on := 4, ground := Ground.data }], guard := none }, { dst := some 21, op := Op.call { callee := Callee.value (Operand.func 48), args := #[Operand.tmp 16, Operand.tmp 20], argTypes := #[35, 35] }, type := 35, pos := "ref.go:15", after := #[{ on := 1, ground := Ground.data }, { on := 5, ground := Ground.data }], guard := none }, { dst := some 22, op := Op.buildSlice 30 1 #[(0, Operand.tmp 21)], type := 30, pos := "ref.go:15", after := #[{ on := 6, ground := Ground.data }], guard := none }, { dst := some 23, op := Op.call { callee := Callee.builtin Builtin.append, args := #[Operand.tmp 15, Operand.tmp 22], argTypes := #[30, 30] }, type := 30, pos := "ref.go:15", after := #[{ on := 0, ground := Ground.data }, { on := 7, ground := Ground.data }, { on := 6, ground := Ground.chain }], guard := none }, { dst := some 5, op := Op.assign (Operand.tmp 23), type := 30, pos := "ref.go:15", after := #[{ on := 8, ground := Ground.data }, { on := 8, ground := Ground.chain }, { on := 0, ground := Ground.phase }, { on := 1, ground := Ground.phase }, { on := 2, ground := Ground.phase }, { on := 3, ground := Ground.phase }, { on := 4, ground := Ground.phase }, { on := 5, ground := Ground.phase }, { on := 6, ground := Ground.phase }, { on := 7, ground := Ground.phase }, { on := 8, ground := Ground.phase }], guard := none }]
theorem agreeX5 (t i : Nat) (k : Nat) (ok : Oper) (hk : opsX5[k]? = some ok) (hd : ok.dst = some t) (h : opsX5.all (fun o => o.dst != some t || (depsOf o).contains i) = true) : i ∈ depsOf ok := by
  have h1 := List.all_eq_true.1 h ok (List.mem_of_getElem? hk)
  rw [hd] at h1
  simpa using h1

set_option maxRecDepth 100000 in
set_option maxHeartbeats 2000000 in
theorem regionX5 {id : Nat} {Q : Exit → Act → World → Prop} {a0 : Act} {W : World} (t : List UInt8) (ht : t.length = 20) (B b2 : Nat) (vo : Value) (E : Array Id20) (ad : Addr) (d : Array Id20) (cap k : Nat) (x : Id20)
    (eo : a0.eval (.tmp 5) = vo) (e2 : a0.eval (.tmp 2) = .pointer (some ⟨b2, 0, none⟩)) (el : a0.eval (.tmp 1) = .slice (some ad) d.size cap) (ei : a0.eval (.tmp 6) = .int .i64 k) (hsz : a0.tmps.size = 42)
    (ho : OwnIds 35 W B vo E) (hB : B ≤ W.heap.size) (h2 : Row W ⟨b2, 0, none⟩ (bytesV t)) (l2 : b2 < B) (hk : k < d.size) (hx : d[k]! = x) (hd : IdRow W (some ad) d) (hdb : ad.block < B) (hl : E.size < 499999)
    (hK : ∀ (vs : Nat → Value) (w' : World), Below B W w' → OwnIds 35 w' B (vs 9) (E ++ #[xorI t ht x]) → Q .normal (putList opsX5 0 vs a0) w') :
    (Code.region id opsX5.toArray true).wp Try.prog Q a0 W := by
  have harg : ∀ w, Below B W w → Row w (ad.add (k * 20)) (bytesV x.1) := fun w hw => by
    rw [← hx]; exact (hd.below hw (fun a ha => by obtain rfl := Option.some.inj ha; exact hdb)).at rfl hk
  have hszX : opsX5.length = 10 := rfl
  have aT : IsAgg Try.prog 35 (bytesV t).length := by rw [bytes_len ht]; exact aggR3
  have hLr : ∀ i w, OwnIds 35 w B vo E → laterX B vo E i w w := fun i w h => ⟨Below.refl _ _, h, fun _ => Below.refl _ _⟩
  have hLb : ∀ i w w', Below B W w → OwnIds 35 w B vo E → Below w.heap.size w w' → laterX B vo E i w w' := fun i w w' hC ho hb => ⟨hb.mono (Nat.le_trans hB hC.size), ho.below hb, fun _ => hb⟩
  refine wp_region_assert usesX ancX finX (fun w => Below B W w ∧ OwnIds 35 w B vo E) (laterX B vo E) (phiX B vo ad d.size cap t k x (xorI t ht x) E) (by kernel_rfl) (by rw [hsz]; decide +kernel) (by decide +kernel) ⟨below_drewN (Below.refl _ _) 1, ho⟩ (fun j w w' h hL => ⟨h.1.trans hL.1, hL.2.1⟩) ?_ ?_ ?_
  · intro k' i hk' hi hne hneed v w w' hC h hL
    rw [hszX] at hk' hi hneed
    have hb := hL.2.2 (needX k' hk' i hi hne hneed)
    match k', hk' with
    | 0, _ => exact h
    | 1, _ => exact h
    | 2, _ => exact h
    | 3, _ => exact h
    | 4, _ => exact h
    | 5, _ => exact h
    | 6, _ => exact h
    | 7, _ => obtain ⟨g, h1, h2, h3⟩ := h; exact ⟨g, h1, h2.below hb (fun a ha => by obtain rfl := Option.some.inj ha; exact h3), Nat.lt_of_lt_of_le h3 hb.size⟩
    | 8, _ => exact OwnIds.below h hb
    | 9, _ => exact OwnIds.below h hb
    | m + 10, hm => exact absurd hm (by omega)
  · refine ⟨?_, ?_, ?_, ?_, ?_, ?_, ?_, ?_, ?_, ?_, trivial⟩
    · -- out
      intro a w hC hag hdp K hKK
      unfold Oper.wp
      rw [exec_move (.tmp 5) rfl]
      refine hKK _ _ ?_ (hLr _ _ hC.2)
      show a.eval (.tmp 5) = _
      rw [hag 5 (fun k ok hk hd => agreeX5 5 _ k ok hk hd (by decide +kernel)), eo]
    · -- t
      intro a w hC hag hdp K hKK
      exact wp_load_agg _ _ rfl ⟨b2, 0, none⟩ ((hag 2 (fun k ok hk hd => agreeX5 2 _ k ok hk hd (by decide +kernel))).trans e2) (bytesV t) (h2.below hC.1 l2) aT (hKK _ _ rfl (hLr _ _ hC.2))
    · -- l
      intro a w hC hag hdp K hKK
      unfold Oper.wp
      rw [exec_move (.tmp 1) rfl]
      refine hKK _ _ ?_ (hLr _ _ hC.2)
      show a.eval (.tmp 1) = _
      rw [hag 1 (fun k ok hk hd => agreeX5 1 _ k ok hk hd (by decide +kernel)), el]
    · -- i
      intro a w hC hag hdp K hKK
      unfold Oper.wp
      rw [exec_move (.tmp 6) rfl]
      refine hKK _ _ ?_ (hLr _ _ hC.2)
      show a.eval (.tmp 6) = _
      rw [hag 6 (fun k ok hk hd => agreeX5 6 _ k ok hk hd (by decide +kernel)), ei]
    · -- its place
      intro a w hC hag hdp K hKK
      obtain ⟨vp, hp, tp⟩ := hdp 2 (by decide) _ rfl
      have up := tp 17 rfl
      obtain ⟨vr, hr, tr⟩ := hdp 3 (by decide) _ rfl
      have ur := tr 18 rfl
      unfold Oper.wp
      rw [exec_index idTyR (.tmp 17) (.tmp 18) rfl ad d.size cap k (up.trans hp) (ur.trans hr) hk]
      exact hKK _ _ rfl (hLr _ _ hC.2)
    · -- the id
      intro a w hC hag hdp K hKK
      obtain ⟨vp, hp, tp⟩ := hdp 4 (by decide) _ rfl
      have up := tp 19 rfl
      exact wp_load_agg _ _ rfl (ad.add (k * 20)) (up.trans hp) (bytesV x.1) (harg w hC.1) (by rw [bytes_len x.2]; exact aggR3) (hKK _ _ rfl (hLr _ _ hC.2))
    · -- Xor
      intro a w hC hag hdp K hKK
      obtain ⟨vp, hp, tp⟩ := hdp 1 (by decide) _ rfl
      have up := tp 16 rfl
      obtain ⟨vr, hr, tr⟩ := hdp 5 (by decide) _ rfl
      have ur := tr 20 rfl
      refine wp_call 48 _ _ rfl (enters_of Try.func48 (by kernel_rfl) rfl) ?_
      have e : (#[Operand.tmp 16, Operand.tmp 20].map a.eval) = #[.agg (bytesV t).toArray, .agg (bytesV x.1).toArray] := by
        rw [show (#[Operand.tmp 16, Operand.tmp 20].map a.eval) = #[a.eval (.tmp 16), a.eval (.tmp 20)] from by simp, up, ur, show vp = _ from hp, show vr = _ from hr]
      rw [e]
      refine (ref_Xor t x.1 ht x.2 w).mono ?_
      rintro e' w' ⟨rfl, hb⟩
      exact ⟨_, rfl, hKK _ _ rfl (hLb _ _ _ hC.1 hC.2 hb)⟩
    · -- []ID{it}
      intro a w hC hag hdp K hKK
      obtain ⟨vp, hp, tp⟩ := hdp 6 (by decide) _ rfl
      have up := tp 21 rfl
      have hb : Below w.heap.size w (w.alloc (.cells (idsV #[xorI t ht x]) 35)) := (Below.refl _ _).alloc (Nat.le_refl _) _
      refine wp_build_one idTyR _ rfl (xorI t ht x) (up.trans hp) (hKK _ _ ⟨_, rfl, ⟨(fun h => by cases h), fun b hb' => ?_⟩, by simp⟩ (hLb _ _ _ hC.1 hC.2 hb))
      obtain rfl := Option.some.inj hb'
      exact Row.of_block (heap_alloc_new _ _)
    · -- append
      intro a w hC hag hdp K hKK
      obtain ⟨vp, hp, tp⟩ := hdp 0 (by decide) _ rfl
      have up := tp 15 rfl
      obtain ⟨vr, hr, tr⟩ := hdp 7 (by decide) _ rfl
      have ur := tr 22 rfl
      obtain ⟨g, hg1, hg2, hg3⟩ := hr
      refine wp_append_keep idTyR (.tmp 15) (.tmp 22) rfl B vo E #[xorI t ht x] (up.trans hp) hC.2 (some ⟨g, 0, none⟩) 1 (by rw [show a.eval (.tmp 22) = vr from ur, hg1]; rfl) hg2 (by simp; omega) (Nat.le_trans hB hC.1.size) ?_
      intro v' w' h1 h2 h3
      exact hKK v' w' h1 ⟨h2, h3, fun h => absurd rfl h⟩
    · -- out =
      intro a w hC hag hdp K hKK
      obtain ⟨vp, hp, tp⟩ := hdp 8 (by decide) _ rfl
      have up := tp 23 rfl
      unfold Oper.wp
      rw [exec_assign (.tmp 23) rfl]
      exact hKK _ _ (by rw [up]; exact hp) (hLr _ _ hC.2)
  · intro vs w' hC hf
    exact hK vs w' hC.1 (hf 9 (by rw [hszX]; decide) rfl)

def opsX11 : List Oper := [{ dst := some 32, op := Op.move (Operand.tmp 7), type := 30, pos := "ref.go:20", after := #[], guard := none }, { dst := some 33, op := Op.load 35 (Operand.tmp 2), type := 35, pos := "ref.go:20", after := #[], guard := none }, { dst := some 34, op := Op.move (Operand.tmp 5), type := 30, pos := "ref.go:20", after := #[], guard := none }, { dst := some 35, op := Op.move (Operand.tmp 8), type := 3, pos := "ref.go:20", after := #[], guard := none }, { dst := some 36, op := Op.indexAddr 30 (Operand.tmp 34) (Operand.tmp 35), type := 0, pos := "ref.go:20", after := #[{ on := 2, ground := Ground.data }, { on := 3, ground := Ground.data }], guard := none }, { dst := some 37, op := Op.load 35 (Operand.tmp 36), type := 35, pos := "ref.go:20", after := #[{ on := 4, ground := Ground.data }], guard := none }, { dst := some 38, op := Op.call { callee := Callee.value (Operand.func 48), args := #[Operand.tmp 33, Operand.tmp 37], argTypes := #[35, 35] }, type := 35, pos := "ref.go:20", after := #[{ on := 1, ground := Ground.data }, { on := 5, ground := Ground.data }], guard := none }, { dst := some 39, op := Op.buildSlice 30 1 #[(0, Operand.tmp 38)], type := 30, pos := "ref.go:20", after := #[{ on := 6, ground := Ground.data }], guard := none }, { dst := some 40, op := Op.call { callee := Callee.builtin Builtin.append, args := #[Operand.tmp 32, Operand.tmp 39], argTypes := #[30, 30] }, type := 30, pos := "ref.go:20", after := #[{ on := 0, ground := Ground.data }, { on := 7, ground := Ground.data }, { on := 6, ground := Ground.chain }], guard := none }, { dst := some 7, op := Op.assign (Operand.tmp 40), type := 30, pos := "ref.go:20", after := #[{ on := 8, ground := Ground.data }, { on := 8, ground := Ground.chain }, { on := 0, ground := Ground.phase }, { on := 1, ground := Ground.phase }, { on := 2, ground := Ground.phase }, { on := 3, ground := Ground.phase }, { on := 4, ground := Ground.phase }, { on := 5, ground := Ground.phase }, { on := 6, ground := Ground.phase }, { on := 7, ground := Ground.phase }, { on := 8, ground := Ground.phase }], guard := none }]
theorem agreeX11 (t i : Nat) (k : Nat) (ok : Oper) (hk : opsX11[k]? = some ok) (hd : ok.dst = some t) (h : opsX11.all (fun o => o.dst != some t || (depsOf o).contains i) = true) : i ∈ depsOf ok := by
  have h1 := List.all_eq_true.1 h ok (List.mem_of_getElem? hk)
  rw [hd] at h1
  simpa using h1

set_option maxRecDepth 100000 in
set_option maxHeartbeats 2000000 in
theorem regionX11 {id : Nat} {Q : Exit → Act → World → Prop} {a0 : Act} {W : World} (t : List UInt8) (ht : t.length = 20) (B b2 : Nat) (vo : Value) (E : Array Id20) (ad : Addr) (d : Array Id20) (cap k : Nat) (x : Id20)
    (eo : a0.eval (.tmp 7) = vo) (e2 : a0.eval (.tmp 2) = .pointer (some ⟨b2, 0, none⟩)) (el : a0.eval (.tmp 5) = .slice (some ad) d.size cap) (ei : a0.eval (.tmp 8) = .int .i64 k) (hsz : a0.tmps.size = 42)
    (ho : OwnIds 35 W B vo E) (hB : B ≤ W.heap.size) (h2 : Row W ⟨b2, 0, none⟩ (bytesV t)) (l2 : b2 < B) (hk : k < d.size) (hx : d[k]! = x) (hd : IdRow W (some ad) d) (hdb : ad.block < B) (hl : E.size < 499999)
    (hK : ∀ (vs : Nat → Value) (w' : World), Below B W w' → OwnIds 35 w' B (vs 9) (E ++ #[xorI t ht x]) → Q .normal (putList opsX11 0 vs a0) w') :
    (Code.region id opsX11.toArray true).wp Try.prog Q a0 W := by
  have harg : ∀ w, Below B W w → Row w (ad.add (k * 20)) (bytesV x.1) := fun w hw => by
    rw [← hx]; exact (hd.below hw (fun a ha => by obtain rfl := Option.some.inj ha; exact hdb)).at rfl hk
  have hszX : opsX11.length = 10 := rfl
  have aT : IsAgg Try.prog 35 (bytesV t).length := by rw [bytes_len ht]; exact aggR3
  have hLr : ∀ i w, OwnIds 35 w B vo E → laterX B vo E i w w := fun i w h => ⟨Below.refl _ _, h, fun _ => Below.refl _ _⟩
  have hLb : ∀ i w w', Below B W w → OwnIds 35 w B vo E → Below w.heap.size w w' → laterX B vo E i w w' := fun i w w' hC ho hb => ⟨hb.mono (Nat.le_trans hB hC.size), ho.below hb, fun _ => hb⟩
  refine wp_region_assert usesX ancX finX (fun w => Below B W w ∧ OwnIds 35 w B vo E) (laterX B vo E) (phiX B vo ad d.size cap t k x (xorI t ht x) E) (by kernel_rfl) (by rw [hsz]; decide +kernel) (by decide +kernel) ⟨below_drewN (Below.refl _ _) 1, ho⟩ (fun j w w' h hL => ⟨h.1.trans hL.1, hL.2.1⟩) ?_ ?_ ?_
  · intro k' i hk' hi hne hneed v w w' hC h hL
    rw [hszX] at hk' hi hneed
    have hb := hL.2.2 (needX k' hk' i hi hne hneed)
    match k', hk' with
    | 0, _ => exact h
    | 1, _ => exact h
    | 2, _ => exact h
    | 3, _ => exact h
    | 4, _ => exact h
    | 5, _ => exact h
    | 6, _ => exact h
    | 7, _ => obtain ⟨g, h1, h2, h3⟩ := h; exact ⟨g, h1, h2.below hb (fun a ha => by obtain rfl := Option.some.inj ha; exact h3), Nat.lt_of_lt_of_le h3 hb.size⟩
    | 8, _ => exact OwnIds.below h hb
    | 9, _ => exact OwnIds.below h hb
    | m + 10, hm => exact absurd hm (by omega)
  · refine ⟨?_, ?_, ?_, ?_, ?_, ?_, ?_, ?_, ?_, ?_, trivial⟩
    · -- out
      intro a w hC hag hdp K hKK
      unfold Oper.wp
      rw [exec_move (.tmp 7) rfl]
      refine hKK _ _ ?_ (hLr _ _ hC.2)
      show a.eval (.tmp 7) = _
      rw [hag 7 (fun k ok hk hd => agreeX11 7 _ k ok hk hd (by decide +kernel)), eo]
    · -- t
      intro a w hC hag hdp K hKK
      exact wp_load_agg _ _ rfl ⟨b2, 0, none⟩ ((hag 2 (fun k ok hk hd => agreeX11 2 _ k ok hk hd (by decide +kernel))).trans e2) (bytesV t) (h2.below hC.1 l2) aT (hKK _ _ rfl (hLr _ _ hC.2))
    · -- l
      intro a w hC hag hdp K hKK
      unfold Oper.wp
      rw [exec_move (.tmp 5) rfl]
      refine hKK _ _ ?_ (hLr _ _ hC.2)
      show a.eval (.tmp 5) = _
      rw [hag 5 (fun k ok hk hd => agreeX11 5 _ k ok hk hd (by decide +kernel)), el]
    · -- i
      intro a w hC hag hdp K hKK
      unfold Oper.wp
      rw [exec_move (.tmp 8) rfl]
      refine hKK _ _ ?_ (hLr _ _ hC.2)
      show a.eval (.tmp 8) = _
      rw [hag 8 (fun k ok hk hd => agreeX11 8 _ k ok hk hd (by decide +kernel)), ei]
    · -- its place
      intro a w hC hag hdp K hKK
      obtain ⟨vp, hp, tp⟩ := hdp 2 (by decide) _ rfl
      have up := tp 34 rfl
      obtain ⟨vr, hr, tr⟩ := hdp 3 (by decide) _ rfl
      have ur := tr 35 rfl
      unfold Oper.wp
      rw [exec_index idTyR (.tmp 34) (.tmp 35) rfl ad d.size cap k (up.trans hp) (ur.trans hr) hk]
      exact hKK _ _ rfl (hLr _ _ hC.2)
    · -- the id
      intro a w hC hag hdp K hKK
      obtain ⟨vp, hp, tp⟩ := hdp 4 (by decide) _ rfl
      have up := tp 36 rfl
      exact wp_load_agg _ _ rfl (ad.add (k * 20)) (up.trans hp) (bytesV x.1) (harg w hC.1) (by rw [bytes_len x.2]; exact aggR3) (hKK _ _ rfl (hLr _ _ hC.2))
    · -- Xor
      intro a w hC hag hdp K hKK
      obtain ⟨vp, hp, tp⟩ := hdp 1 (by decide) _ rfl
      have up := tp 33 rfl
      obtain ⟨vr, hr, tr⟩ := hdp 5 (by decide) _ rfl
      have ur := tr 37 rfl
      refine wp_call 48 _ _ rfl (enters_of Try.func48 (by kernel_rfl) rfl) ?_
      have e : (#[Operand.tmp 33, Operand.tmp 37].map a.eval) = #[.agg (bytesV t).toArray, .agg (bytesV x.1).toArray] := by
        rw [show (#[Operand.tmp 33, Operand.tmp 37].map a.eval) = #[a.eval (.tmp 33), a.eval (.tmp 37)] from by simp, up, ur, show vp = _ from hp, show vr = _ from hr]
      rw [e]
      refine (ref_Xor t x.1 ht x.2 w).mono ?_
      rintro e' w' ⟨rfl, hb⟩
      exact ⟨_, rfl, hKK _ _ rfl (hLb _ _ _ hC.1 hC.2 hb)⟩
    · -- []ID{it}
      intro a w hC hag hdp K hKK
      obtain ⟨vp, hp, tp⟩ := hdp 6 (by decide) _ rfl
      have up := tp 38 rfl
      have hb : Below w.heap.size w (w.alloc (.cells (idsV #[xorI t ht x]) 35)) := (Below.refl _ _).alloc (Nat.le_refl _) _
      refine wp_build_one idTyR _ rfl (xorI t ht x) (up.trans hp) (hKK _ _ ⟨_, rfl, ⟨(fun h => by cases h), fun b hb' => ?_⟩, by simp⟩ (hLb _ _ _ hC.1 hC.2 hb))
      obtain rfl := Option.some.inj hb'
      exact Row.of_block (heap_alloc_new _ _)
    · -- append
      intro a w hC hag hdp K hKK
      obtain ⟨vp, hp, tp⟩ := hdp 0 (by decide) _ rfl
      have up := tp 32 rfl
      obtain ⟨vr, hr, tr⟩ := hdp 7 (by decide) _ rfl
      have ur := tr 39 rfl
      obtain ⟨g, hg1, hg2, hg3⟩ := hr
      refine wp_append_keep idTyR (.tmp 32) (.tmp 39) rfl B vo E #[xorI t ht x] (up.trans hp) hC.2 (some ⟨g, 0, none⟩) 1 (by rw [show a.eval (.tmp 39) = vr from ur, hg1]; rfl) hg2 (by simp; omega) (Nat.le_trans hB hC.1.size) ?_
      intro v' w' h1 h2 h3
      exact hKK v' w' h1 ⟨h2, h3, fun h => absurd rfl h⟩
    · -- out =
      intro a w hC hag hdp K hKK
      obtain ⟨vp, hp, tp⟩ := hdp 8 (by decide) _ rfl
      have up := tp 40 rfl
      unfold Oper.wp
      rw [exec_assign (.tmp 40) rfl]
      exact hKK _ _ (by rw [up]; exact hp) (hLr _ _ hC.2)
  · intro vs w' hC hf
    exact hK vs w' hC.1 (hf 9 (by rw [hszX]; decide) rfl)
end Go.Proofs.Ytgdiajhegmdfgaa

/-
  The reference's Sort by distance. Conditions: the id is of twenty bytes; fewer than half a million ids.
-/
namespace Go.Proofs.Ytgdiajhegmdfgaa
open Go.RowKit Go.Sort Go.Lib

/-- All distances, as ids. -/
def farA (t : List UInt8) (ht : t.length = 20) (d : Array Id20) (k : Nat) : Array Id20 := (d.extract 0 k).map (xorI t ht)
theorem farA_size (t : List UInt8) (ht : t.length = 20) (d : Array Id20) (k : Nat) (hk : k ≤ d.size) : (farA t ht d k).size = k := by
  unfold farA; simp; omega
theorem farA_succ (t : List UInt8) (ht : t.length = 20) (d : Array Id20) (k : Nat) (x : Id20) (hk : k < d.size) (hx : d[k]! = x) : farA t ht d k ++ #[xorI t ht x] = farA t ht d (k + 1) := by
  unfold farA
  rw [← extract_succ d k hk, Array.map_append, hx]
  simp
theorem farA_all (t : List UInt8) (ht : t.length = 20) (d : Array Id20) : farA t ht d d.size = d.map (xorI t ht) := by
  unfold farA; simp
theorem xorB_back : ∀ (t x : List UInt8), t.length = x.length → xorB t (xorB t x) = x
  | [], [], _ => rfl
  | [], _ :: _, h => by simp at h
  | _ :: _, [], h => by simp at h
  | a :: t, b :: x, h => by
    show (a ^^^ (a ^^^ b)) :: xorB t (xorB t x) = b :: x
    rw [xorB_back t x (by simpa using h), ← UInt8.xor_assoc, UInt8.xor_self, UInt8.zero_xor]
theorem xorI_back (t : List UInt8) (ht : t.length = 20) (x : Id20) : xorI t ht (xorI t ht x) = x := Subtype.ext (xorB_back t x.1 (by have := x.2; omega))
theorem farC_xorI (t z : List UInt8) (ht : t.length = 20) (hz : z = List.replicate 20 0) (x y : Id20) : farC t (xorI t ht x).1 (xorI t ht y).1 = farC z x.1 y.1 := by
  have hzx : ∀ u : Id20, xorB z u.1 = u.1 := fun u => by
    obtain ⟨l, hl⟩ := u
    subst hz
    match l, hl with
    | [_, _, _, _, _, _, _, _, _, _, _, _, _, _, _, _, _, _, _, _], _ => simp [xorB, List.replicate]
  unfold farC
  rw [hzx, hzx]
  show Lib.compareBytes (xorB t (xorB t x.1)) (xorB t (xorB t y.1)) = _
  rw [xorB_back t x.1 (by have := x.2; omega), xorB_back t y.1 (by have := y.2; omega)]
/-- Distances, sorted, and turned back. -/
theorem far_sorted (t : List UInt8) (ht : t.length = 20) (d : Array Id20) : (putAll (d.map (xorI t ht)) d.size).map (xorI t ht) = nearD t d := by
  have h1 := putAll_near (d.map (xorI t ht))
  rw [Array.size_map] at h1
  rw [h1]
  obtain ⟨z, hz⟩ : ∃ z, List.replicate 20 (0 : UInt8) = z := ⟨_, rfl⟩
  have hzl : z.length = 20 := by rw [← hz]; simp
  obtain ⟨a1, a2⟩ := nearD_spec z hzl (d.map (xorI t ht))
  obtain ⟨b1, b2⟩ := nearD_spec t ht d
  rw [hz]
  refine near_unique t ht _ _ ?_ b1 fun y => ?_
  · rw [List.pairwise_map]
    exact a1.imp fun {x y} h => by rw [farC_xorI t z ht hz.symm]; exact h
  · rw [b2, List.mem_map]
    constructor
    · rintro ⟨a, ha, rfl⟩
      rw [a2] at ha
      simp only [Array.toList_map, List.mem_map] at ha
      obtain ⟨b, hb, rfl⟩ := ha
      rwa [xorI_back]
    · intro hy
      refine ⟨xorI t ht y, (a2 _).2 ?_, xorI_back t ht y⟩
      simp only [Array.toList_map, List.mem_map]
      exact ⟨y, hy, rfl⟩

set_option maxRecDepth 100000 in
set_option maxHeartbeats 8000000 in
theorem ref04_Sort (t : List UInt8) (ht : t.length = 20) (p : Option Addr) (d : Array Id20) (cap : Nat) (w : World) (hp : IdRow w p d) (hpb : ∀ a, p = some a → a.block < w.heap.size) (hn : d.size < 499990) :
    Calls Try.prog 22 #[.agg (bytesV t).toArray, .slice p d.size cap] w fun e w' => ∃ v, e = .returned v ∧ OwnIds 35 w' w.heap.size v (nearD t d).toArray ∧ Below w.heap.size w w' := by
  have st := bytes_size ht
  have hb1 : Below w.heap.size w (w.alloc (.cells (bytesV t).toArray 35)) := (Below.refl _ _).alloc (Nat.le_refl _) _
  have HB := Lib.hid hb1
  have i1 : Hid (Row (w.alloc (.cells (bytesV t).toArray 35)) ⟨w.heap.size, 0, none⟩ (bytesV t)) := Lib.hid (Row.of_block (heap_alloc_new _ _))
  have hs1 : Hid ((w.alloc (.cells (bytesV t).toArray 35)).heap.size = w.heap.size + 1) := Lib.hid (by simp)
  have HP := Lib.hid (hp.below hb1 hpb)
  have HPB := Lib.hid hpb
  have HFS := Lib.hid (far_sorted t ht d)
  have HSZ := Lib.hid (farA_size t ht d)
  have HTL := Lib.hid ht
  clear hp hpb hb1
  go_enter Try.func22, Try.ntmps22
  go_wp2_with fail
  generalize (w.alloc (.cells (bytesV t).toArray 35)) = W at *
  go_loopw [5, 6] (fun s5 s6 wr => ∃ (k : Nat) (q : Option Addr) (c : Nat), s6 = .int .i64 k ∧ k ≤ d.size ∧ s5 = .slice q k c ∧ Hid (OwnIds 35 wr (w.heap.size + 1) (.slice q k c) (farA t HTL.out d k)) ∧ Hid (Below (w.heap.size + 1) W wr)) (fun _ s6 _ => d.size - (intOf s6).toNat)
  case atStart => exact ⟨0, none, 0, rfl, Nat.zero_le _, rfl, Lib.hid (by simpa [farA] using OwnIds.nil _ _ _), Lib.hid (Below.refl _ _)⟩
  case round =>
    obtain ⟨k, q, c, rfl, hk, rfl, HO, HBW⟩ := hrel
    by_cases hlt : k < d.size
    · obtain ⟨ad, rfl⟩ := HP.out.some_of (by omega)
      obtain ⟨x, hx⟩ : ∃ x, d[k]! = x := ⟨_, rfl⟩
      have HX := Lib.hid hx
      have hkd : (k : Int) < (d.size : Int) := by omega
      have hk5 : (k : Int) < 500000 := by omega
      clear hx
      go_wp2_with fail
      refine regionX5 t HTL.out (w.heap.size + 1) w.heap.size _ (farA t HTL.out d k) ad d cap k x rfl rfl rfl rfl rfl HO.out (by rw [← hs1.out]; exact HBW.out.size) (i1.out.below HBW.out (by simp)) (by omega) hlt HX.out (HP.out.below HBW.out (fun a ha => Nat.lt_succ_of_lt (HPB.out a ha))) (Nat.lt_succ_of_lt (HPB.out ad rfl)) (by rw [HSZ.out k hk]; omega) ?_
      intro vs w5 hb5 ho5
      rw [farA_succ t HTL.out d k x hlt HX.out] at ho5
      obtain ⟨q5, c5, hv5, _, _, _, _, _⟩ := ho5.form
      rw [HSZ.out (k + 1) hlt] at hv5
      rw [hv5] at ho5
      have HO5 := Lib.hid ho5
      have HB5 := Lib.hid (HBW.out.trans hb5)
      have HV5 := Lib.hid hv5
      clear ho5 hb5 hv5 HO HBW
      simp only [putList, opsX5]
      rw [HV5.out]
      go_wp2_with fail
      go_roundw
      case rel => exact ⟨k + 1, q5, c5, by go_num, by omega, by go_num, HO5, HB5⟩
      case measure => simp [intOf]; omega
    · have hke : k = d.size := by omega
      subst hke
      obtain ⟨E, hE⟩ : ∃ E, farA t HTL.out d d.size = E := ⟨_, rfl⟩
      have hEs : E.size = d.size := by rw [← hE]; exact HSZ.out _ (Nat.le_refl _)
      have hEm : E = d.map (xorI t HTL.out) := by rw [← hE]; exact farA_all t HTL.out d
      rw [hE] at HO
      have ho := HO.out
      obtain ⟨qf, cf, hvf, hrf, _, hqf, _, _⟩ := ho.form
      injection hvf with e1 e2 e3
      subst e1
      subst e3
      have hS := ref_Sort q E c wr hrf (fun a ha => (hqf a ha).2) (by omega)
      rw [hEs] at hS
      have HS := Lib.hid hS
      rw [← hEm] at HFS
      clear hS ho hrf hqf hE hEm HO hEs e2
      go_wp2_with fail
      refine HS.out.mono ?_
      rintro e w2 ⟨v2, rfl, ho2, hb2⟩
      obtain ⟨L, hL⟩ : ∃ L, putAll E d.size = L := ⟨_, rfl⟩
      rw [hL] at ho2 HFS
      obtain ⟨q2, c2, hv2, hr2, _, hq2, _, _⟩ := ho2.form
      have hLs : L.toArray.size = L.length := by simp
      have hLn : L.length ≤ d.size := by rw [← hL]; exact putAll_length E d.size
      rw [hLs] at hv2
      subst hv2
      have HR2 := Lib.hid hr2
      have HQ2 : Hid (∀ a, q2 = some a → a.block < w2.heap.size) := Lib.hid (fun a ha => (hq2 a ha).2)
      have HB2 : Hid (Below (w.heap.size + 1) W w2) := Lib.hid (HBW.out.trans (hb2.mono (by rw [← hs1.out]; exact HBW.out.size)))
      have HLN := Lib.hid hLn
      have HFM : Hid (farA t HTL.out L.toArray L.length = (nearD t d).toArray) := Lib.hid (by
        have h1 := farA_all t HTL.out L.toArray
        rw [hLs] at h1
        rw [h1, ← HFS.out]
        simp)
      have HSL : Hid (∀ k, k ≤ L.length → (farA t HTL.out L.toArray k).size = k) := Lib.hid (fun k hk => farA_size t HTL.out L.toArray k (by rw [hLs]; exact hk))
      clear ho2 hb2 hr2 hq2 hLs hLn hL HFS HS HBW HSZ
      go_wp2_with fail
      go_loopw [7, 8] (fun s7 s8 wr => ∃ (k : Nat) (q : Option Addr) (c : Nat), s8 = .int .i64 k ∧ k ≤ L.length ∧ s7 = .slice q k c ∧ Hid (OwnIds 35 wr w2.heap.size (.slice q k c) (farA t HTL.out L.toArray k)) ∧ Hid (Below w2.heap.size w2 wr)) (fun _ s8 _ => L.length - (intOf s8).toNat)
      case atStart => exact ⟨0, none, 0, rfl, Nat.zero_le _, rfl, Lib.hid (by simpa [farA] using OwnIds.nil _ _ _), Lib.hid (Below.refl _ _)⟩
      case round =>
        obtain ⟨k, q, c, rfl, hk, rfl, HO, HBW⟩ := hrel
        by_cases hlt : k < L.length
        · have hlt2 : k < L.toArray.size := by simpa using hlt
          obtain ⟨ad, rfl⟩ := HR2.out.some_of (by omega)
          obtain ⟨x, hx⟩ : ∃ x, L.toArray[k]! = x := ⟨_, rfl⟩
          have HX := Lib.hid hx
          have HK2 := Lib.hid hlt2
          have hkd : (k : Int) < (L.length : Int) := by omega
          have hk5 : (k : Int) < 500000 := by have := HLN.out; omega
          clear hx hlt2
          have hsz2 : Hid (w.heap.size + 1 ≤ w2.heap.size) := Lib.hid (by rw [← hs1.out]; exact HB2.out.size)
          go_wp2_with fail
          refine regionX11 t HTL.out w2.heap.size w.heap.size _ (farA t HTL.out L.toArray k) ad L.toArray _ k x rfl rfl rfl rfl rfl HO.out HBW.out.size ((i1.out.below HB2.out (by simp)).below HBW.out hsz2.out) (Nat.lt_of_lt_of_le (Nat.lt_succ_self _) hsz2.out) HK2.out HX.out (HR2.out.below HBW.out HQ2.out) (HQ2.out ad rfl) (by rw [HSL.out k hk]; have := HLN.out; omega) ?_
          intro vs w5 hb5 ho5
          rw [farA_succ t HTL.out L.toArray k x HK2.out HX.out] at ho5
          obtain ⟨q5, c5, hv5, _, _, _, _, _⟩ := ho5.form
          rw [HSL.out (k + 1) hlt] at hv5
          rw [hv5] at ho5
          have HO5 := Lib.hid ho5
          have HB5 := Lib.hid (HBW.out.trans hb5)
          have HV5 := Lib.hid hv5
          clear ho5 hb5 hv5 HO HBW
          simp only [putList, opsX11]
          rw [HV5.out]
          go_wp2_with fail
          go_roundw
          case rel => exact ⟨k + 1, q5, c5, by go_num, by omega, by go_num, HO5, HB5⟩
          case measure => simp [intOf]; omega
        · have hke : k = L.length := by omega
          subst hke
          rw [HFM.out] at HO
          go_wp2_with fail
          refine bodyPost_ret (results_tmp rfl _ _ _) rfl ?_
          refine ⟨_, rfl, HO.out.mono ?_, ?_⟩
          · have := HB2.out.size
            have := HB.out.size
            omega
          · exact (HB.out.trans (HB2.out.mono (Nat.le_succ _))).trans (HBW.out.mono (Nat.le_trans HB.out.size HB2.out.size))
end Go.Proofs.Ytgdiajhegmdfgaa

/-
  The reference's Least, Has and Rank. Conditions: the ids are of twenty bytes; fewer than half a million of them.
-/
namespace Go.Proofs.Ytgdiajhegmdfgaa
open Go.RowKit Go.Sort Go.Lib

theorem wpList_slice_h {sl T : TypeId} (h : IdTy sl T) {w : World} {ops : Array Oper} {rest : List Oper} {o : Oper} {a : Act} {Q : Exit → Act → World → Prop} (hgd : o.guard = none) (x y : Operand) (ho : o.op = .slice sl x none (some y) none) (q : Option Addr) (len c n : Nat) (hx : a.eval x = .slice q len c) (hy : a.eval y = .int .i64 (n : Int)) (hn : n ≤ c)
    (hK : wpList Try.prog ops Q rest (a.put o.dst (.slice (if c = 0 then q else q.map (·.add (0 * 20))) n c)) w) : wpList Try.prog ops Q (o :: rest) a w :=
  wpList_plain hgd fun K hk => by
    unfold Oper.wp
    rw [exec_slice_h h x y ho q len c n hx hy hn]
    exact hk _ _ hK
theorem headAddr (q : Option Addr) (c : Nat) : (if c = 0 then q else q.map (·.add (0 * 20))) = q := by
  split
  · rfl
  · cases q with
    | none => rfl
    | some a => show some (a.add (0 * 20)) = some a; rw [Nat.zero_mul, add_zero]

set_option maxRecDepth 100000 in
set_option maxHeartbeats 4000000 in
theorem ref04_Least (t : List UInt8) (ht : t.length = 20) (p : Option Addr) (d : Array Id20) (cap : Nat) (n : Int) (w : World) (hp : IdRow w p d) (hpb : ∀ a, p = some a → a.block < w.heap.size) (hn : d.size < 499990) :
    Calls Try.prog 24 #[.agg (bytesV t).toArray, .slice p d.size cap, .int .i64 n] w fun e w' => ∃ q c, e = .returned (.slice q ((nearD t d).take n.toNat).length c) ∧ IdRow w' q ((nearD t d).take n.toNat).toArray ∧ (∀ a, q = some a → a.block < w'.heap.size) ∧ Below w.heap.size w w' := by
  have st := bytes_size ht
  have haT : Hid (IsAgg Try.prog 35 (bytesV t).length) := Lib.hid (by rw [bytes_len ht]; exact aggR3)
  have i1 : Hid (Row (w.alloc (.cells (bytesV t).toArray 35)) ⟨w.heap.size, 0, none⟩ (bytesV t)) := Lib.hid (Row.of_block (heap_alloc_new _ _))
  have hb1 : Below w.heap.size w (w.alloc (.cells (bytesV t).toArray 35)) := (Below.refl _ _).alloc (Nat.le_refl _) _
  have hS := ref04_Sort t ht p d cap (w.alloc (.cells (bytesV t).toArray 35)) (hp.below hb1 hpb) (fun a ha => Nat.lt_of_lt_of_le (hpb a ha) hb1.size) hn
  have hdl := nearD_length t d
  obtain ⟨l, hl⟩ : ∃ l, nearD t d = l := ⟨_, rfl⟩
  rw [hl] at hS hdl ⊢
  have HS := Lib.hid hS
  have HB1 := Lib.hid hb1
  clear hp hpb hS hb1 hl
  go_enter Try.func24, Try.ntmps24
  go_wp2_with ((with_reducible show wpList _ _ _ (⟨some 8, _, _, _, _, _⟩ :: _) _ _); refine wpList_load_agg (o := ⟨some 8, _, _, _, _, _⟩) rfl _ (.tmp 3) rfl _ rfl (bytesV t) i1.out haT.out ?_)
  refine HS.out.mono ?_
  rintro e w1 ⟨v, rfl, ho, hb2⟩
  obtain ⟨q, c, hv, hr, _, hq, hlc, _⟩ := ho.form
  have hls : l.toArray.size = l.length := by simp
  rw [hls] at hv hlc
  subst hv
  have HB : Hid (Below w.heap.size w w1) := Lib.hid (HB1.out.trans (hb2.mono HB1.out.size))
  obtain ⟨m, hm⟩ : ∃ m : Nat, (m : Int) = max 0 (min n (l.length : Int)) := ⟨(max 0 (min n (l.length : Int))).toNat, by omega⟩
  have hm1 : m ≤ l.length := by omega
  have hm2 : m = ((l.take n.toNat)).length := by rw [List.length_take]; omega
  have hm3 : l.take m = l.take n.toNat := by
    rw [hm2, List.length_take, ← List.take_take, List.take_length]
  have HR := Lib.hid hr
  have HQ : Hid (∀ a, q = some a → a.block < w1.heap.size) := Lib.hid (fun a ha => (hq a ha).2)
  have HM1 := Lib.hid hm1
  have HM2 := Lib.hid hm2
  have HM3 := Lib.hid hm3
  have HLC := Lib.hid hlc
  have hm' : max 0 (min n (l.length : Int)) = (m : Int) := hm.symm
  clear ho hb2 hr hq hls hlc hm hm1 hm2 hm3 HS HB1 i1
  go_wp2_with ((with_reducible show wpList _ _ _ (⟨some 17, _, _, _, _, _⟩ :: _) _ _); refine wpList_slice_h idTyR (o := ⟨some 17, _, _, _, _, _⟩) rfl (.tmp 11) (.tmp 16) rfl q l.length c m rfl rfl (Nat.le_trans HM1.out HLC.out) ?_)
  refine bodyPost_ret (results_tmp rfl _ _ _) rfl ?_
  refine ⟨q, c, by rw [← HM2.out]; rfl, ?_, HQ.out, HB.out⟩
  have h := idrow_take HR.out m c HM1.out
  rwa [headAddr, HM3.out] at h

/-- The worlds of Has. -/
structure HasW (w0 : World) (p : Option Addr) (d : Array Id20) (x : Id20) (w : World) : Prop where
  row : IdRow w p d
  box : Row w ⟨w0.heap.size, 0, none⟩ (bytesV x.1)
  bel : Below w0.heap.size w0 w
theorem HasW.drew {w0 w : World} {p : Option Addr} {d : Array Id20} {x : Id20} (h : HasW w0 p d x w) : HasW w0 p d x w.drew := ⟨⟨h.row.none_, h.row.row⟩, h.box, below_drewN h.bel 1⟩

set_option maxRecDepth 100000 in
set_option maxHeartbeats 4000000 in
theorem ref04_Has (p : Option Addr) (d : Array Id20) (cap : Nat) (x : Id20) (w : World) (hp : IdRow w p d) (hpb : ∀ a, p = some a → a.block < w.heap.size) (hn : d.size < 500000) :
    Calls Try.prog 53 #[.slice p d.size cap, .agg (bytesV x.1).toArray] w fun e w' => e = .returned (.bool (decide (x ∈ d.toList))) ∧ Below w.heap.size w w' := by
  have sx := bytes_size x.2
  have HG : Hid (∀ x : Id20, IsAgg Try.prog 35 (bytesV x.1).length) := Lib.hid (fun x => by rw [bytes_len x.2]; exact aggR3)
  have hb1 : Below w.heap.size w (w.alloc (.cells (bytesV x.1).toArray 35)) := (Below.refl _ _).alloc (Nat.le_refl _) _
  have HW : Hid (HasW w p d x (w.alloc (.cells (bytesV x.1).toArray 35))) := Lib.hid ⟨hp.below hb1 hpb, Row.of_block (heap_alloc_new _ _), hb1⟩
  clear hp hpb hb1
  go_enter Try.func53, Try.ntmps53
  go_wp2_with fail
  go_loopw [5] (fun s5 wr => ∃ k : Nat, s5 = .int .i64 k ∧ k ≤ d.size ∧ Hid (HasW w p d x wr) ∧ Hid (∀ j, j < k → d[j]! ≠ x)) (fun s5 _ => d.size - (intOf s5).toNat)
  case atStart => exact ⟨0, rfl, Nat.zero_le _, HW, Lib.hid (fun j hj => by omega)⟩
  case round =>
    clear HW
    obtain ⟨k, rfl, hk, HW, HN⟩ := hrel
    by_cases hlt : k < d.size
    · obtain ⟨ad, rfl⟩ := HW.out.row.some_of (by omega)
      obtain ⟨y, hy⟩ : ∃ y, d[k]! = y := ⟨_, rfl⟩
      have HY := Lib.hid hy
      have hk1 : (k : Int) < (d.size : Int) := by omega
      have hq : ∀ w, (binOp .eql 35 (.agg (bytesV y.1).toArray) (.agg (bytesV x.1).toArray)).run Try.prog w = .ok (.bool (decide (y.1 = x.1))) w := fun w =>
        (info_parts infoByte).elim fun _ hi => eql_bytes w 20 Try.underlying35 Try.underlying5 plainByte cellsByte hi.1 y.1 x.1 y.2 x.2
      clear hy
      by_cases hxy : y = x
      · subst hxy
        rw [decide_eq_true rfl] at hq
        go_wp2_with fail
        refine wp_region_QL (HasW w (some ad) d y) (by kernel_rfl) (by kernel_rfl) HW.out.drew ?_
        repeat (first
          | (refine QL.load (o := ⟨some 15, _, _, _, _, _⟩) (by rfl) _ _ rfl _ rfl (bytesV y.1) (fun w h => h.row.atx hlt HY.out) (HG.out _) ?_)
          | (refine QL.load (o := ⟨some 16, _, _, _, _, _⟩) (by rfl) _ _ rfl _ rfl (bytesV y.1) (fun w h => h.box) (HG.out _) ?_)
          | (refine QL.step (fun K hK => ?_); go_simp
             first
               | (refine hK _ ?_; clear hK K)
               | (apply Exists.intro
                  refine ⟨fun w hw => ?_, hK _ ?_⟩
                  first
                    | with_reducible rfl
                  clear hK K)))
        refine QL.nil ?_
        intro w7 hC7
        clear HW
        have HW := Lib.hid hC7
        clear hC7
        go_wp2_with fail
        go_ret
        have hm : y ∈ d.toList := by
          rw [← HY.out, getElem!_pos _ k hlt]
          simp
        exact ⟨by simpa using hm, HW.out.bel⟩
      · have HXY : Hid (y ≠ x) := Lib.hid hxy
        rw [decide_eq_false (fun e => hxy (Subtype.ext e))] at hq
        clear hxy
        go_wp2_with fail
        refine wp_region_QL (HasW w (some ad) d x) (by kernel_rfl) (by kernel_rfl) HW.out.drew ?_
        repeat (first
          | (refine QL.load (o := ⟨some 15, _, _, _, _, _⟩) (by rfl) _ _ rfl _ rfl (bytesV y.1) (fun w h => h.row.atx hlt HY.out) (HG.out _) ?_)
          | (refine QL.load (o := ⟨some 16, _, _, _, _, _⟩) (by rfl) _ _ rfl _ rfl (bytesV x.1) (fun w h => h.box) (HG.out _) ?_)
          | (refine QL.step (fun K hK => ?_); go_simp
             first
               | (refine hK _ ?_; clear hK K)
               | (apply Exists.intro
                  refine ⟨fun w hw => ?_, hK _ ?_⟩
                  first
                    | with_reducible rfl
                  clear hK K)))
        refine QL.nil ?_
        intro w7 hC7
        clear HW
        have HW := Lib.hid hC7
        clear hC7
        go_wp2_with fail
        go_roundw
        case rel =>
          refine ⟨k + 1, by go_num, by omega, HW, Lib.hid (fun j hj => ?_)⟩
          by_cases e : j = k
          · rw [e, HY.out]; exact HXY.out
          · exact HN.out j (by omega)
        case measure => simp [intOf]; omega
    · have hk2 : k = d.size := by omega
      subst hk2
      go_wp2_with fail
      go_ret
      have hm : ¬ x ∈ d.toList := by
        intro h
        obtain ⟨i, hi, e⟩ := List.mem_iff_getElem.1 h
        have hi' : i < d.size := by simpa using hi
        exact absurd (by rw [getElem!_pos _ i hi']; simpa using e) (HN.out i hi')
      exact ⟨by simpa using hm, HW.out.bel⟩
end Go.Proofs.Ytgdiajhegmdfgaa

/-
  The reference's Rank, and same. Conditions: the ids are of twenty bytes; fewer than half a million of them.
-/
namespace Go.Proofs.Ytgdiajhegmdfgaa
open Go.RowKit Go.Sort Go.Lib

/-- How many of the first k are nearer. -/
def cntB (t x : List UInt8) (l : List Id20) (k : Nat) : Nat := (l.take k).countP fun y => decide (farC t y.1 x < 0)
theorem cntB_le (t x : List UInt8) (l : List Id20) (k : Nat) : cntB t x l k ≤ k := Nat.le_trans List.countP_le_length (by simp; omega)
theorem cntB_succ (t x : List UInt8) (l : List Id20) (k : Nat) (y : Id20) (h : l[k]? = some y) : cntB t x l (k + 1) = cntB t x l k + (if farC t y.1 x < 0 then 1 else 0) := by
  unfold cntB
  rw [List.take_add_one, h, List.countP_append]
  simp [List.countP_cons]
/-- It is the rank. -/
theorem cntB_rank (t : List UInt8) (l : List Id20) (x : Id20) (n : Nat) (h : RankIs t l x n) : ∀ k, k ≤ l.length → cntB t x.1 l k = min k n
  | 0, _ => by simp [cntB]
  | k + 1, hk => by
    obtain ⟨h1, h2, h3⟩ := h
    have hy : l[k]? = some l[k] := List.getElem?_eq_getElem (by omega)
    have he : l.toArray[k]! = l[k] := by rw [getElem!_pos _ k (by simp; omega)]; simp
    rw [cntB_succ t x.1 l k _ hy, cntB_rank t l x n ⟨h1, h2, h3⟩ k (by omega)]
    by_cases hkn : k < n
    · have := h2 k hkn
      rw [he] at this
      rw [if_pos this]; omega
    · have := h3 k (by omega) (by omega)
      rw [he] at this
      rw [if_neg (by omega)]; omega

/-- The worlds of Rank. -/
structure RkW (w0 : World) (t x : List UInt8) (q : Option Addr) (l : List Id20) (w : World) : Prop where
  tb : Row w ⟨w0.heap.size, 0, none⟩ (bytesV t)
  xb : Row w ⟨w0.heap.size + 1, 0, none⟩ (bytesV x)
  lo : w0.heap.size + 1 < w.heap.size
  row : IdRow w q l.toArray
  rowb : ∀ a, q = some a → a.block < w.heap.size
  bel : Below w0.heap.size w0 w
theorem RkW.below {w0 w w' : World} {t x : List UInt8} {q : Option Addr} {l : List Id20} (h : RkW w0 t x q l w) (hb : Below w.heap.size w w') : RkW w0 t x q l w' :=
  ⟨h.tb.below hb (Nat.lt_of_succ_lt h.lo), h.xb.below hb h.lo, Nat.lt_of_lt_of_le h.lo hb.size, h.row.below hb h.rowb, fun a ha => Nat.lt_of_lt_of_le (h.rowb a ha) hb.size, h.bel.trans (hb.mono h.bel.size)⟩
theorem RkW.drew {w0 w : World} {t x : List UInt8} {q : Option Addr} {l : List Id20} (h : RkW w0 t x q l w) : RkW w0 t x q l w.drew := ⟨h.tb, h.xb, h.lo, ⟨h.row.none_, h.row.row⟩, h.rowb, below_drewN h.bel 1⟩

set_option maxRecDepth 100000 in
set_option maxHeartbeats 8000000 in
theorem ref04_Rank (t : List UInt8) (ht : t.length = 20) (x : Id20) (p : Option Addr) (d : Array Id20) (cap : Nat) (w : World) (hp : IdRow w p d) (hpb : ∀ a, p = some a → a.block < w.heap.size) (hn : d.size < 499990) :
    Calls Try.prog 26 #[.agg (bytesV t).toArray, .agg (bytesV x.1).toArray, .slice p d.size cap] w fun e w' => e = .returned (.int .i64 (cntB t x.1 (nearD t d) (nearD t d).length : Nat)) ∧ Below w.heap.size w w' := by
  have st := bytes_size ht
  have sx := bytes_size x.2
  have haT : Hid (IsAgg Try.prog 35 (bytesV t).length) := Lib.hid (by rw [bytes_len ht]; exact aggR3)
  have HG : Hid (∀ x : Id20, IsAgg Try.prog 35 (bytesV x.1).length) := Lib.hid (fun x => by rw [bytes_len x.2]; exact aggR3)
  have hb2 : Below w.heap.size w ((w.alloc (.cells (bytesV t).toArray 35)).alloc (.cells (bytesV x.1).toArray 35)) := ((Below.refl _ _).alloc (Nat.le_refl _) _).alloc (by simp) _
  have h3 : Hid (Row ((w.alloc (.cells (bytesV t).toArray 35)).alloc (.cells (bytesV x.1).toArray 35)) ⟨w.heap.size, 0, none⟩ (bytesV t)) := Lib.hid (BB.row (T := 35) (BB.alloc (l := t) (heap_alloc_new _ _) _))
  have h4 : Hid (Row ((w.alloc (.cells (bytesV t).toArray 35)).alloc (.cells (bytesV x.1).toArray 35)) ⟨w.heap.size + 1, 0, none⟩ (bytesV x.1)) := Lib.hid (BB.row (T := 35) (heap_alloc2_new _ _ _))
  have hs2 : Hid (((w.alloc (.cells (bytesV t).toArray 35)).alloc (.cells (bytesV x.1).toArray 35)).heap.size = w.heap.size + 1 + 1) := Lib.hid (by simp)
  have hS := ref04_Sort t ht p d cap _ (hp.below hb2 hpb) (fun a ha => Nat.lt_of_lt_of_le (hpb a ha) hb2.size) hn
  have hdl := nearD_length t d
  obtain ⟨l, hl⟩ : ∃ l, nearD t d = l := ⟨_, rfl⟩
  rw [hl] at hS hdl ⊢
  have HS := Lib.hid hS
  have HB := Lib.hid hb2
  have HTL := Lib.hid ht
  clear hp hpb hS hb2 hl
  go_enter Try.func26, Try.ntmps26
  go_wp2_with ((with_reducible show wpList _ _ _ (⟨some 10, _, _, _, _, _⟩ :: _) _ _); refine wpList_load_agg (o := ⟨some 10, _, _, _, _, _⟩) rfl _ (.tmp 3) rfl _ rfl (bytesV t) h3.out haT.out ?_)
  refine HS.out.mono ?_
  rintro e w1 ⟨v, rfl, ho, hb⟩
  obtain ⟨q, c, hv, hr, _, hq, _, _⟩ := ho.form
  have hls : l.toArray.size = l.length := by simp
  rw [hls] at hv
  subst hv
  have HW : Hid (RkW w t x.1 q l w1) := Lib.hid ⟨h3.out.below hb (by rw [hs2.out]; show w.heap.size < w.heap.size + 1 + 1; omega), h4.out.below hb (by rw [hs2.out]; show w.heap.size + 1 < w.heap.size + 1 + 1; omega), Nat.lt_of_lt_of_le (by rw [hs2.out]; omega) hb.size, hr, fun a ha => (hq a ha).2, HB.out.trans (hb.mono HB.out.size)⟩
  have hl5 : l.length < 499990 := by omega
  clear ho hb hr hq hls h3 h4 hs2 HS HB
  go_wp2_with fail
  go_loopw [7, 9] (fun s7 s9 wr => ∃ k : Nat, s9 = .int .i64 k ∧ k ≤ l.length ∧ s7 = .int .i64 (cntB t x.1 l k : Nat) ∧ Hid (RkW w t x.1 q l wr)) (fun _ s9 _ => l.length - (intOf s9).toNat)
  case atStart => exact ⟨0, rfl, Nat.zero_le _, by simp [cntB], HW⟩
  case round =>
    clear HW
    obtain ⟨k, rfl, hk, rfl, HW⟩ := hrel
    by_cases hlt : k < l.length
    · obtain ⟨y, hy⟩ : ∃ y, l[k]? = some y := ⟨l[k], List.getElem?_eq_getElem hlt⟩
      have HY := Lib.hid hy
      have HYA := Lib.hid (toArray_at' hy)
      obtain ⟨aq, rfl⟩ := HW.out.row.some_of (by simpa using Nat.lt_of_le_of_lt (Nat.zero_le _) hlt)
      have hk1 : (k : Int) < (l.length : Int) := by omega
      have HCM : Hid (∀ w, Calls Try.prog 15 #[.agg (bytesV t).toArray, .agg (bytesV y.1).toArray, .agg (bytesV x.1).toArray] w fun e w' => e = .returned (.int .i64 (farC t y.1 x.1)) ∧ Below w.heap.size w w') := Lib.hid (fun w => ref04_Cmp t y.1 x.1 HTL.out y.2 x.2 w)
      have hC := cntB_succ t x.1 l k y hy
      have hcl := cntB_le t x.1 l k
      obtain ⟨n, hn'⟩ : ∃ n, cntB t x.1 l k = n := ⟨_, rfl⟩
      rw [hn'] at hC hcl ⊢
      have HC := Lib.hid hC
      generalize farC t y.1 x.1 = r at HCM HC
      have hn5 : (n : Int) < 499990 := by omega
      have hk5 : (k : Int) < 499990 := by omega
      clear hy hC hn' hcl
      by_cases hr : r < 0
      · have hrd : decide (r < 0) = true := decide_eq_true hr
        have HR := Lib.hid hr
        clear hr
        go_wp2_with fail
        refine wp_region_QL (RkW w t x.1 (some aq) l) (by kernel_rfl) (by kernel_rfl) HW.out.drew ?_
        repeat (first
          | (refine QL.load (o := ⟨some 19, _, _, _, _, _⟩) (by rfl) _ _ rfl _ rfl (bytesV t) (fun w h => h.tb) haT.out ?_)
          | (refine QL.load (o := ⟨some 23, _, _, _, _, _⟩) (by rfl) _ _ rfl _ rfl (bytesV y.1) (fun w h => h.row.atx HYA.out.1 HYA.out.2) (HG.out _) ?_)
          | (refine QL.load (o := ⟨some 24, _, _, _, _, _⟩) (by rfl) _ _ rfl _ rfl (bytesV x.1) (fun w h => h.xb) (HG.out _) ?_)
          | (refine QL.step (fun K hK => ?_); go_simp
             first
               | (refine hK _ ?_; clear hK K)
               | (apply Exists.intro
                  refine ⟨fun w hw => ?_, hK _ ?_⟩
                  first
                    | with_reducible rfl
                    | (go_at_call 15; refine (HCM.out _).mono ?_; rintro e w' ⟨rfl, hbx⟩; exact ⟨rfl, hw.below hbx⟩)
                  clear hK K)))
        refine QL.nil ?_
        intro w7 hC7
        clear HW
        have HW := Lib.hid hC7
        clear hC7
        go_wp2_with fail
        go_roundw
        case rel => exact ⟨k + 1, by go_num, by omega, by rw [HC.out, if_pos HR.out]; go_num, HW⟩
        case measure => simp [intOf]; omega
      · have hrd : decide (r < 0) = false := decide_eq_false hr
        have HR := Lib.hid hr
        clear hr
        go_wp2_with fail
        refine wp_region_QL (RkW w t x.1 (some aq) l) (by kernel_rfl) (by kernel_rfl) HW.out.drew ?_
        repeat (first
          | (refine QL.load (o := ⟨some 19, _, _, _, _, _⟩) (by rfl) _ _ rfl _ rfl (bytesV t) (fun w h => h.tb) haT.out ?_)
          | (refine QL.load (o := ⟨some 23, _, _, _, _, _⟩) (by rfl) _ _ rfl _ rfl (bytesV y.1) (fun w h => h.row.atx HYA.out.1 HYA.out.2) (HG.out _) ?_)
          | (refine QL.load (o := ⟨some 24, _, _, _, _, _⟩) (by rfl) _ _ rfl _ rfl (bytesV x.1) (fun w h => h.xb) (HG.out _) ?_)
          | (refine QL.step (fun K hK => ?_); go_simp
             first
               | (refine hK _ ?_; clear hK K)
               | (apply Exists.intro
                  refine ⟨fun w hw => ?_, hK _ ?_⟩
                  first
                    | with_reducible rfl
                    | (go_at_call 15; refine (HCM.out _).mono ?_; rintro e w' ⟨rfl, hbx⟩; exact ⟨rfl, hw.below hbx⟩)
                  clear hK K)))
        refine QL.nil ?_
        intro w7 hC7
        clear HW
        have HW := Lib.hid hC7
        clear hC7
        go_wp2_with fail
        go_roundw
        case rel => exact ⟨k + 1, by go_num, by omega, by rw [HC.out, if_neg (by have := HR.out; omega), Nat.add_zero], HW⟩
        case measure => simp [intOf]; omega
    · have hk2 : k = l.length := by omega
      subst hk2
      go_wp2_with fail
      go_ret
      exact ⟨rfl, HW.out.bel⟩

/-- The worlds of same. -/
structure SmW (w0 : World) (pa pb : Option Addr) (d : Array Id20) (w : World) : Prop where
  a : IdRow w pa d
  b : IdRow w pb d
  bel : Below w0.heap.size w0 w
theorem SmW.below {w0 w w' : World} {pa pb : Option Addr} {d : Array Id20} (ha : ∀ a, pa = some a → a.block < w0.heap.size) (hb : ∀ a, pb = some a → a.block < w0.heap.size) (h : SmW w0 pa pb d w) (hw : Below w.heap.size w w') : SmW w0 pa pb d w' :=
  ⟨h.a.below hw (fun a q => Nat.lt_of_lt_of_le (ha a q) h.bel.size), h.b.below hw (fun a q => Nat.lt_of_lt_of_le (hb a q) h.bel.size), h.bel.trans (hw.mono h.bel.size)⟩
structure SmX (w0 : World) (pa pb : Option Addr) (d : Array Id20) (g : Nat) (x : Id20) (w : World) : Prop where
  law : SmW w0 pa pb d w
  box : Row w ⟨g, 0, none⟩ (bytesV x.1)
theorem SmX.drew {w0 w : World} {pa pb : Option Addr} {d : Array Id20} {g : Nat} {x : Id20} (h : SmX w0 pa pb d g x w) : SmX w0 pa pb d g x w.drew := ⟨⟨⟨h.law.a.none_, h.law.a.row⟩, ⟨h.law.b.none_, h.law.b.row⟩, below_drewN h.law.bel 1⟩, h.box⟩

set_option maxRecDepth 100000 in
set_option maxHeartbeats 4000000 in
theorem law_same (pa pb : Option Addr) (d : Array Id20) (ca cb : Nat) (w : World) (ha : IdRow w pa d) (hab : ∀ a, pa = some a → a.block < w.heap.size) (hb : IdRow w pb d) (hbb : ∀ a, pb = some a → a.block < w.heap.size) (hn : d.size < 500000) :
    Calls Try.prog 20 #[.slice pa d.size ca, .slice pb d.size cb] w fun e w' => e = .returned (.bool true) ∧ Below w.heap.size w w' := by
  have HG : Hid (∀ x : Id20, IsAgg Try.prog 34 (bytesV x.1).length) := Lib.hid (fun x => by rw [bytes_len x.2]; exact aggID)
  have HGR : Hid (∀ x : Id20, IsAgg Try.prog 35 (bytesV x.1).length) := Lib.hid (fun x => by rw [bytes_len x.2]; exact aggR3)
  have HW : Hid (SmW w pa pb d w) := Lib.hid ⟨ha, hb, Below.refl _ _⟩
  have HA := Lib.hid hab
  have HBB := Lib.hid hbb
  clear ha hb hab hbb
  go_enter Try.func20, Try.ntmps20
  go_wp2_with fail
  go_loopw [14] (fun s14 wr => ∃ k : Nat, s14 = .int .i64 k ∧ k ≤ d.size ∧ Hid (SmW w pa pb d wr)) (fun s14 _ => d.size - (intOf s14).toNat)
  case atStart => exact ⟨0, rfl, Nat.zero_le _, HW⟩
  case round =>
    clear HW
    obtain ⟨k, rfl, hk, HW⟩ := hrel
    by_cases hlt : k < d.size
    · obtain ⟨aa, rfl⟩ := HW.out.a.some_of (by omega)
      obtain ⟨ab, rfl⟩ := HW.out.b.some_of (by omega)
      obtain ⟨x, hx⟩ : ∃ x, d[k]! = x := ⟨_, rfl⟩
      have HX := Lib.hid hx
      have hkd : (k : Int) < (d.size : Int) := by omega
      have hk5 : (k : Int) < 500000 := by omega
      have hq : ∀ w, (binOp .neq 35 (.agg (bytesV x.1).toArray) (.agg (bytesV x.1).toArray)).run Try.prog w = .ok (.bool false) w := fun w => by
        rw [(info_parts infoByte).elim fun _ hi => neq_bytes w 20 Try.underlying35 Try.underlying5 plainByte cellsByte hi.1 x.1 x.1 x.2 x.2]
        simp
      have hr : Hid (Row wr (aa.add (k * 20)) (bytesV x.1)) := Lib.hid (HW.out.a.atx hlt hx)
      have HV : Hid (SmX w (some aa) (some ab) d wr.heap.size x (wr.alloc (.cells (bytesV x.1).toArray 34))) := Lib.hid ⟨HW.out.below HA.out HBB.out ((Below.refl _ _).alloc (Nat.le_refl _) _), Row.of_block (heap_alloc_new _ _)⟩
      clear hx HW
      go_wp2_with (first
        | ((with_reducible show wpList _ _ _ (⟨some 18, _, _, _, _, _⟩ :: _) _ _); refine wpList_load_agg (o := ⟨some 18, _, _, _, _, _⟩) rfl _ (.tmp 17) rfl _ rfl (bytesV x.1) hr.out (HG.out _) ?_)
        | ((with_reducible show wpList _ _ _ (⟨none, _, _, _, _, _⟩ :: _) _ _); refine wpList_store_new (o := ⟨none, _, _, _, _, _⟩) rfl _ (.tmp 6) (.tmp 18) rfl _ _ rfl (bytesV x.1) rfl 20 (by kernel_rfl) (bytes_len x.2) rfl (bytesV_one _) ?_))
      refine wp_region_QL (SmX w (some aa) (some ab) d wr.heap.size x) (by kernel_rfl) (by kernel_rfl) HV.out.drew ?_
      repeat (first
        | (refine QL.load (o := ⟨some 19, _, _, _, _, _⟩) (by rfl) _ _ rfl _ rfl (bytesV x.1) (fun w h => h.box) (HG.out _) ?_)
        | (refine QL.load (o := ⟨some 23, _, _, _, _, _⟩) (by rfl) _ _ rfl _ rfl (bytesV x.1) (fun w h => h.law.b.atx hlt HX.out) (HGR.out _) ?_)
        | (refine QL.step (fun K hK => ?_); go_simp
           first
             | (refine hK _ ?_; clear hK K)
             | (apply Exists.intro
                refine ⟨fun w hw => ?_, hK _ ?_⟩
                first
                  | with_reducible rfl
                clear hK K)))
      refine QL.nil ?_
      intro w7 hC7
      have HW : Hid (SmW w (some aa) (some ab) d w7) := Lib.hid hC7.law
      clear hC7 HV hr
      go_wp2_with fail
      go_roundw
      case rel => exact ⟨k + 1, by go_num, by omega, HW⟩
      case measure => simp [intOf]; omega
    · have hk2 : k = d.size := by omega
      subst hk2
      go_wp2_with fail
      go_ret
      exact ⟨rfl, HW.out.bel⟩
end Go.Proofs.Ytgdiajhegmdfgaa

/-
  A slice of ids read as data, opened. Conditions: as the theorem says.
-/
namespace Go.Proofs.Ytgdiajhegmdfgaa
open Go.ChangeShapes Go.WideShapes Go.ChangeAt Go.RowKit Go.Deep

theorem okWide_block {P : Program} {w : World} {r : Reach} {base : Nat} {t e : TypeId} (ht : P.underlying t = some (.slice e)) {a : Addr} {len cap : Nat} (h : Value.okWide P w r base t (.slice (some a) len cap)) : a.block < w.heap.size := by
  simp only [Value.okWide, Cell.okWide, Cell.ok, ht] at h
  obtain ⟨_, _, _, _, row, cells, hs, _⟩ := h
  rcases Nat.lt_or_ge a.block w.heap.size with h1 | h1
  · exact h1
  · simp [World.shape?, Array.getElem?_eq_none h1] at hs

section
variable {H : Type} {enc : TypeId × Value → H} {w : World} {base : Nat} {spare : Nat → Bool} {held : Bool}
theorem open_ids {fuel : Nat} {A : Option Addr} {len cap : Nat} {x : DataW H × List MemPlace} (h : DataW.trod enc Try.prog w base spare held fuel 28 [.slice A len cap] = some x) :
    ∃ d : Array Id20, len = d.size ∧ len ≤ cap ∧ cap ≤ maxLen ∧ IdRow w A d := by
  obtain ⟨l, hl, hlc, hcm, hnone, _, hrow⟩ := open_rows (size := 20) encId (fun _ => True) Try.underlying28 (by kernel_rfl) (by omega) (fun y _ => encId_length y) default
    (fun n cs x hx => by
      obtain ⟨m, hm, he⟩ := open_IDcells hx
      exact ⟨⟨m, hm⟩, he.symm, trivial⟩) h
  refine ⟨l.toArray, by simpa using hl, hlc, hcm, fun ha => ?_, fun ad had j v hv => ?_⟩
  · have := (hnone ha).1
    rw [hl] at this
    have hl0 : l = [] := List.eq_nil_of_length_eq_zero this
    simp [hl0]
  · have hj : j < l.toArray.size * 20 := by
      have := (List.getElem?_eq_some_iff.1 hv).1
      rwa [idsV_len] at this
    have hi : j / 20 < l.length := by simp at hj; omega
    obtain ⟨ad', ha', _, hr⟩ := hrow (j / 20) l[j / 20] (List.getElem?_eq_getElem hi)
    obtain rfl : ad = ad' := Option.some.inj (had.symm.trans ha')
    have hg := idsV_get l.toArray (j / 20) (j % 20) (by simpa using hi) (by omega)
    rw [show j / 20 * 20 + j % 20 = j by omega, ← Array.getElem?_toList, hv, getElem!_pos _ _ (by simpa using hi)] at hg
    have := hr (j % 20) v (by simpa using hg.symm)
    rwa [add_add, show j / 20 * 20 + j % 20 = j by omega] at this
end
end Go.Proofs.Ytgdiajhegmdfgaa

/-
  A slice of contacts that reads as data, opened to its cells. Conditions: none.
-/
namespace Go.Proofs.Ytgdiajhegmdfgaa
open Go.ChangeShapes Go.WideShapes Go.ChangeAt Go.RowKit Go.Deep

/-- A contact as its cells, and its id. -/
structure Con where
  cs : List Value
  id : Id20
structure Con.Ok (x : Con) : Prop where
  len : x.cs.length = 22
  hid : x.cs.take 20 = bytesV x.id.1
  one : ∀ v ∈ x.cs, v.oneCell' = true
theorem Con.Ok.at {x : Con} (h : x.Ok) {i : Nat} (hi : i < 20) : x.cs[i]? = (bytesV x.id.1)[i]? := by
  rw [← h.hid, List.getElem?_take, if_pos hi]
/-- A slice of contacts that came in. -/
structure Cons (w : World) (B : Nat) (a : Option Addr) (len : Nat) (l : List Con) : Prop where
  len : len = l.length
  ok : ∀ x ∈ l, x.Ok
  bd : l.length ≤ maxLen
  at_ : ∀ i x, l[i]? = some x → ∃ ad, a = some ad ∧ ad.block < B ∧ Row w (ad.add (i * 22)) x.cs
theorem Cons.later {w W : World} {a : Option Addr} {len : Nat} {l : List Con} (h : Cons w w.heap.size a len l) (hb : Below w.heap.size w W) : Cons W W.heap.size a len l :=
  ⟨h.len, h.ok, h.bd, fun i x hx => by
    obtain ⟨ad, e, hl, hr⟩ := h.at_ i x hx
    exact ⟨ad, e, Nat.lt_of_lt_of_le hl hb.size, hr.below hb (by rw [add_block]; exact hl)⟩⟩

section
variable {H : Type} {enc : TypeId × Value → H} {w : World} {base : Nat} {spare : Nat → Bool} {held : Bool}

theorem con_cells : Try.prog.cellsOf 85 = 22 := by kernel_rfl

theorem two_of {cs : List Value} (hl : cs.length = 2) {v0 v1 : Value} (h0 : cs[0]? = some v0) (h1 : cs[1]? = some v1) : cs = [v0, v1] := by
  match cs, hl with
  | [a, b], _ =>
    obtain rfl := Option.some.inj h0
    obtain rfl := Option.some.inj h1
    rfl

theorem open_addr {fuel : Nat} {cs : List Value} {x : DataW H × List MemPlace} (h : DataW.trod enc Try.prog w base spare held fuel 83 cs = some x) : ∃ a b : Int, cs = [.int .u32 a, .int .u16 b] := by
  obtain ⟨xs, n, _, _, hlen, hxl, hf⟩ := DataW.trod_struct Try.underlying83 h
  have h2 : cs.length = 2 := hlen.trans (by kernel_rfl)
  have hx : ∀ (i : Nat), i < 2 → ∃ z, xs[i]? = some z := fun i hi => ⟨xs[i]'(by rw [hxl]; exact hi), List.getElem?_eq_getElem _⟩
  have c2 : Try.prog.cellsOf 78 = 1 := by kernel_rfl
  have c4 : Try.prog.cellsOf 79 = 1 := by kernel_rfl
  obtain ⟨z0, h0⟩ := hx 0 (by omega)
  obtain ⟨z1, h1⟩ := hx 1 (by omega)
  have g0 : DataW.trod enc Try.prog w base spare held n 78 ((cs.drop 0).take (Try.prog.cellsOf 78)) = some z0 := (hf 0 _ rfl).trans h0
  have g1 : DataW.trod enc Try.prog w base spare held n 79 ((cs.drop 1).take (Try.prog.cellsOf 79)) = some z1 := (hf 1 _ rfl).trans h1
  rw [c2] at g0
  rw [c4] at g1
  obtain ⟨a, e0, _, _⟩ := DataW.trod_int Try.underlying78 g0
  obtain ⟨b, e1, _, _⟩ := DataW.trod_int Try.underlying79 g1
  exact ⟨a, b, two_of h2 (drop_take_one e0) (drop_take_one e1)⟩

theorem open_con {fuel : Nat} {cs : List Value} {x : DataW H × List MemPlace} (h : DataW.trod enc Try.prog w base spare held fuel 85 cs = some x) :
    ∃ y : Con, y.cs = cs ∧ y.Ok := by
  obtain ⟨xs, n, _, _, hlen, hxl, hf⟩ := DataW.trod_struct Try.underlying85 h
  rw [con_cells] at hlen
  have hx : ∀ (i : Nat), i < 2 → ∃ z, xs[i]? = some z := fun i hi => ⟨xs[i]'(by rw [hxl]; exact hi), List.getElem?_eq_getElem _⟩
  have c6 : Try.prog.cellsOf 34 = 20 := by kernel_rfl
  have c7 : Try.prog.cellsOf 83 = 2 := by kernel_rfl
  obtain ⟨z0, h0⟩ := hx 0 (by omega)
  obtain ⟨z1, h1⟩ := hx 1 (by omega)
  have g0 : DataW.trod enc Try.prog w base spare held n 34 ((cs.drop 0).take (Try.prog.cellsOf 34)) = some z0 := (hf 0 _ rfl).trans h0
  have g1 : DataW.trod enc Try.prog w base spare held n 83 ((cs.drop 20).take (Try.prog.cellsOf 83)) = some z1 := (hf 1 _ rfl).trans h1
  rw [c6, List.drop_zero] at g0
  rw [c7] at g1
  obtain ⟨bs, hbl, hbs⟩ := open_IDcells g0
  obtain ⟨a, b, hab⟩ := open_addr g1
  have hcs : cs = bytesV bs ++ [.int .u32 a, .int .u16 b] := by
    rw [← hbs, ← hab, List.take_of_length_le (l := cs.drop 20) (by simp; omega), List.take_append_drop]
  refine ⟨⟨cs, ⟨bs, hbl⟩⟩, rfl, hlen, hbs, fun v hv => ?_⟩
  rw [hcs] at hv
  rcases List.mem_append.1 hv with hv | hv
  · exact bytesV_one _ v hv
  · simp only [List.mem_cons, List.not_mem_nil, or_false] at hv
    rcases hv with rfl | rfl <;> rfl

theorem open_cons {a : Option Addr} {len cap : Nat} {d : DataW H} {p : List MemPlace} (h : DataW.Trod enc Try.prog w base spare held 54 (.slice a len cap) d p) :
    ∃ l, Cons w w.heap.size a len l := by
  obtain ⟨fuel, hf⟩ := h
  rcases open_slice Try.underlying54 hf with ⟨hcs, _⟩ | ⟨ad, len', cap', m, n, D, Pl, hcs, _, hl, hm, hmm, _, hi⟩
  · simp only [Value.cells, List.cons.injEq, Value.slice.injEq, and_true] at hcs
    obtain ⟨rfl, rfl, rfl⟩ := hcs
    exact ⟨[], rfl, by simp, by simp, by simp⟩
  · simp only [Value.cells, List.cons.injEq, Value.slice.injEq, and_true] at hcs
    obtain ⟨rfl, rfl, rfl⟩ := hcs
    have hmlen : len ≤ m := by rw [hmm]; split <;> omega
    rw [con_cells] at hi
    have hall : ∀ i, i < len → ∃ y : Con, y.Ok ∧ Row w (ad.add (i * 22)) y.cs := by
      intro i hlt
      obtain ⟨cs', hc, ht⟩ := hi i (by omega)
      obtain ⟨y, hy, hok⟩ := open_con ht
      obtain ⟨_, hcl, hat⟩ := World.cells?_some hc
      refine ⟨y, hok, fun j v hv => ?_⟩
      rw [hy] at hv
      have hj : j < 22 := by
        have := (List.getElem?_eq_some_iff.1 hv).1
        omega
      rw [hat j hj, hv]
    let f : Nat → Con := fun i => if h : i < len then Classical.choose (hall i h) else ⟨[], noId⟩
    have hfs : ∀ i, i < len → (f i).Ok ∧ Row w (ad.add (i * 22)) (f i).cs := by
      intro i h
      have := Classical.choose_spec (hall i h)
      simp only [f, dif_pos h]
      exact this
    refine ⟨(List.range len).map f, by simp, ?_, by simpa using Nat.le_trans hl hm, ?_⟩
    · intro x hx
      obtain ⟨i, hi', rfl⟩ := List.mem_map.1 hx
      exact (hfs i (List.mem_range.1 hi')).1
    · intro i x hx
      rw [List.getElem?_map] at hx
      have hlt : i < len := by
        by_cases h : i < len
        · exact h
        · rw [List.getElem?_eq_none (by simpa using h)] at hx; cases hx
      rw [List.getElem?_range hlt] at hx
      obtain rfl := Option.some.inj hx
      obtain ⟨hok, hrow⟩ := hfs i hlt
      refine ⟨ad, rfl, ?_, hrow⟩
      obtain ⟨v, hv⟩ : ∃ v, (f i).cs[21]? = some v := ⟨(f i).cs[21]'(by rw [hok.len]; omega), List.getElem?_eq_getElem _⟩
      have := block_lt_of_cell (hrow 21 v hv)
      rw [add_block, add_block] at this
      exact this
end
end Go.Proofs.Ytgdiajhegmdfgaa

/-
  What decay.Rank and signpostref21.Rank compute, of a slice of contacts that came in. Conditions: at most sixty contacts.
-/
namespace Go.Proofs.Ytgdiajhegmdfgaa
open Go.RowKit Go.Sort Go.Lib

def idsOf (l : List Con) : Array Id20 := (l.map Con.id).toArray
theorem idsOf_size (l : List Con) : (idsOf l).size = l.length := by simp [idsOf]
theorem idsOf_snoc {l : List Con} {k : Nat} {x : Con} (hx : l[k]? = some x) : idsOf (l.take k) ++ #[x.id] = idsOf (l.take (k + 1)) := by
  unfold idsOf
  rw [List.take_add_one, hx]
  simp
/-- How many are nearer. -/
def rkN (t o : List UInt8) (l : List Con) : Nat := cntB t o (nearD t (idsOf l)) (nearD t (idsOf l)).length
theorem rkN_of {t : List UInt8} {o : Id20} {l : List Con} {n : Nat} (h : RankIs t (nearD t (idsOf l)) o n) : n = rkN t o.1 l := by
  unfold rkN
  rw [cntB_rank t _ o n h _ (Nat.le_refl _)]
  have := h.1
  omega
theorem rkN_le (t o : List UInt8) (l : List Con) : rkN t o l ≤ l.length := by
  have h1 := cntB_le t o (nearD t (idsOf l)) (nearD t (idsOf l)).length
  have h2 := nearD_length t (idsOf l)
  rw [idsOf_size] at h2
  unfold rkN
  omega

theorem aggCon : IsAgg Try.prog 85 22 := ⟨_, Try.underlying85, rfl, by kernel_rfl⟩
theorem Con.Ok.row {x : Con} (h : x.Ok) {w : World} {a : Addr} (hr : Row w a x.cs) : Row w a (bytesV x.id.1) := by
  have := hr.part 0 20
  rw [List.drop_zero, h.hid] at this
  exact this

/-- The worlds of Rank. -/
structure DkW (w0 : World) (o t : List UInt8) (a : Option Addr) (len : Nat) (l : List Con) (w : World) : Prop where
  ob : Row w ⟨w0.heap.size, 0, none⟩ (bytesV o)
  tb : Row w ⟨w0.heap.size + 1, 0, none⟩ (bytesV t)
  lo : w0.heap.size + 2 ≤ w.heap.size
  con : Cons w w0.heap.size a len l
  bel : Below w0.heap.size w0 w
theorem DkW.below {w0 w w' : World} {o t : List UInt8} {a : Option Addr} {len : Nat} {l : List Con} (h : DkW w0 o t a len l w) (hb : Below (w0.heap.size + 2) w w') : DkW w0 o t a len l w' :=
  ⟨h.ob.below hb (by show w0.heap.size < w0.heap.size + 2; omega), h.tb.below hb (by show w0.heap.size + 1 < w0.heap.size + 2; omega), Nat.le_trans h.lo hb.size,
    ⟨h.con.len, h.con.ok, h.con.bd, fun i x hx => by
      obtain ⟨ad, e, hl, hr⟩ := h.con.at_ i x hx
      exact ⟨ad, e, hl, hr.below hb (by rw [add_block]; omega)⟩⟩,
    h.bel.trans (hb.mono (by omega))⟩
theorem DkW.start {w : World} {a : Option Addr} {len : Nat} {l : List Con} (h : Cons w w.heap.size a len l) (o t : List UInt8) (To Tt : TypeId) :
    DkW w o t a len l ((w.alloc (.cells (bytesV o).toArray To)).alloc (.cells (bytesV t).toArray Tt)) := by
  have hb2 : Below w.heap.size w ((w.alloc (.cells (bytesV o).toArray To)).alloc (.cells (bytesV t).toArray Tt)) := ((Below.refl _ _).alloc (Nat.le_refl _) _).alloc (by simp) _
  refine ⟨BB.row (T := To) (BB.alloc (l := o) (heap_alloc_new _ _) _), BB.row (T := Tt) (heap_alloc2_new _ _ _), by simp, ⟨h.len, h.ok, h.bd, fun i x hx => ?_⟩, hb2⟩
  obtain ⟨ad, e, hl, hr⟩ := h.at_ i x hx
  exact ⟨ad, e, hl, hr.below hb2 (by rw [add_block]; exact hl)⟩

/-- An empty slice of ids with room. -/
theorem run_make_room {sl T : TypeId} (h : IdTy sl T) (n : Nat) (hn : n ≤ 500000) (w : World) :
    ∃ cur : Array Value, cur.size = n * 20 ∧ (Instr.makeSlice sl (.int .i64 0) (.int .i64 (n : Int))).run Try.prog w = .ok (.slice (some ⟨w.heap.size, 0, none⟩) 0 n) (w.alloc (.cells cur T)) := by
  obtain ⟨i, hi, hz, hs, hb⟩ := info_parts h.i
  have h := run_makeSlice (P := Try.prog) w sl T i _ h.u hi hz .i64 .i64 0 (n : Int) (by omega) (by omega) (by rw [hs]; omega) (by rw [hb]; omega) (by omega)
  rw [hs, Int.toNat_natCast] at h
  exact ⟨_, by simp [madeCells], h⟩
theorem OwnIds.room {T : TypeId} {w : World} {base n : Nat} {cur : Array Value} (hc : cur.size = n * 20) (hn : n ≤ 500000) (hb : base ≤ w.heap.size) : OwnIds T (w.alloc (.cells cur T)) base (.slice (some ⟨w.heap.size, 0, none⟩) 0 n) #[] :=
  ⟨by rw [idsV_len], Or.inr ⟨w.heap.size, n, cur, rfl, hb, heap_alloc_new _ _, Nat.zero_le _, by simp [maxLen]; omega, hc, by rw [idsV_nil]; simp⟩⟩
theorem wpList_make_room {sl T : TypeId} (h : IdTy sl T) (w : World) {ops : Array Oper} {rest : List Oper} {o : Oper} {a : Act} {Q : Exit → Act → World → Prop}
    (hg : o.guard = none) (l c : Operand) (hop : o.op = Op.makeSlice sl l c) (n : Nat) (hl : a.eval l = .int .i64 0) (hc : a.eval c = .int .i64 (n : Int)) (hn : n ≤ 500000)
    (hK : ∀ w' : World, OwnIds T w' w.heap.size (.slice (some ⟨w.heap.size, 0, none⟩) 0 n) #[] → Below w.heap.size w w' → wpList Try.prog ops Q rest (a.put o.dst (.slice (some ⟨w.heap.size, 0, none⟩) 0 n)) w') :
    wpList Try.prog ops Q (o :: rest) a w := by
  obtain ⟨cur, hcs, hrun⟩ := run_make_room h n hn w
  refine wpList_plain hg fun K hK' => ?_
  unfold Oper.wp
  simp [execOp, hop, hl, hc, hrun, Result.andThen]
  exact hK' _ _ (hK _ (OwnIds.room hcs hn (Nat.le_refl _)) ((Below.refl _ _).alloc (Nat.le_refl _) _))

set_option maxRecDepth 100000 in
set_option maxHeartbeats 4000000 in
theorem decay_Rank (o : Id20) (t : List UInt8) (ht : t.length = 20) (a : Option Addr) (len cap : Nat) (l : List Con) (w : World) (h : Cons w w.heap.size a len l) (hn : len ≤ 60) :
    Calls Try.prog 31 #[.agg (bytesV o.1).toArray, .agg (bytesV t).toArray, .slice a len cap] w fun e w' => e = .returned (.int .i64 (rkN t o.1 l : Nat)) ∧ Below w.heap.size w w' := by
  have st := bytes_size ht
  have so := bytes_size o.2
  have HG : Hid (∀ x : Id20, IsAgg Try.prog 34 (bytesV x.1).length) := Lib.hid (fun x => by rw [bytes_len x.2]; exact aggID)
  have haT : Hid (IsAgg Try.prog 34 (bytesV t).length) := Lib.hid (by rw [bytes_len ht]; exact aggID)
  have HW0 : Hid (DkW w o.1 t a len l ((w.alloc (.cells (bytesV o.1).toArray 34)).alloc (.cells (bytesV t).toArray 34))) := Lib.hid (DkW.start h o.1 t _ _)
  have HTL := Lib.hid ht
  have HL := Lib.hid h.len
  have HOK := Lib.hid h.ok
  have hs2 : Hid (((w.alloc (.cells (bytesV o.1).toArray 34)).alloc (.cells (bytesV t).toArray 34)).heap.size = w.heap.size + 2) := Lib.hid (by simp)
  clear h
  go_enter Try.func31, Try.ntmps31
  go_wp2_with ((with_reducible show wpList _ _ _ (⟨some 12, _, _, _, _, _⟩ :: _) _ _)
               refine wpList_make_room idTyA _ (o := ⟨some 12, _, _, _, _, _⟩) rfl (.const (.int .i64 0)) (.tmp 11) rfl len rfl rfl (by omega) ?_
               intro w1 hown hbel)
  have hown := hown.mono (base := w.heap.size + 2) (by rw [hs2.out]; omega)
  rw [World.size_alloc, World.size_alloc] at hown
  have HO1 := Lib.hid hown
  have HW1 : Hid (DkW w o.1 t a len l w1) := Lib.hid (HW0.out.below (by rw [hs2.out] at hbel; exact hbel))
  clear hown hbel hs2 HW0
  go_loopw [7, 15] (fun s7 s15 wr => ∃ k : Nat, s15 = .int .i64 k ∧ k ≤ len ∧ Hid (OwnIds 34 wr (w.heap.size + 2) s7 (idsOf (l.take k))) ∧ Hid (DkW w o.1 t a len l wr)) (fun _ s15 _ => len - (intOf s15).toNat)
  case atStart => exact ⟨0, rfl, Nat.zero_le _, HO1, HW1⟩
  case round =>
    clear HO1 HW1
    obtain ⟨k, rfl, hk, HO, HW⟩ := hrel
    by_cases hlt : k < len
    · obtain ⟨x, hx⟩ : ∃ x, l[k]? = some x := ⟨l[k]'(by rw [← HL.out]; exact hlt), List.getElem?_eq_getElem _⟩
      obtain ⟨ad, rfl, hab, hrow⟩ := HW.out.con.at_ k x hx
      have hxo := Lib.hid (HOK.out x (List.mem_of_getElem? hx))
      have hsn := Lib.hid (idsOf_snoc hx)
      have hr : Hid (Row wr (ad.add (k * 22)) x.cs) := Lib.hid hrow
      have hag : Hid (IsAgg Try.prog 85 x.cs.length) := Lib.hid (by rw [hxo.out.len]; exact aggCon)
      have hnew : Hid (Row (wr.alloc (.cells x.cs.toArray 85)) ⟨wr.heap.size, 0, none⟩ (bytesV x.id.1)) := Lib.hid (hxo.out.row (Row.of_block (heap_alloc_new _ _)))
      have hbw : Hid (Below wr.heap.size wr (wr.alloc (.cells x.cs.toArray 85))) := Lib.hid ((Below.refl _ _).alloc (Nat.le_refl _) _)
      have HO2 := Lib.hid ((HO.out.below hbw.out).below ((Below.refl _ _).alloc (Nat.le_refl _) (.cells (idsV #[x.id]) 34)))
      have hrow3 : Hid (IdRow ((wr.alloc (.cells x.cs.toArray 85)).alloc (.cells (idsV #[x.id]) 34)) (some ⟨(wr.alloc (.cells x.cs.toArray 85)).heap.size, 0, none⟩) #[x.id]) := Lib.hid ⟨(fun h => by cases h), (fun a ha => by
        obtain rfl := Option.some.inj ha
        exact Row.of_block (heap_alloc_new _ _))⟩
      have HB3 : Hid (Below (w.heap.size + 2) wr ((wr.alloc (.cells x.cs.toArray 85)).alloc (.cells (idsV #[x.id]) 34))) := Lib.hid (((Below.refl _ _).alloc HW.out.lo _).alloc (by simp; have := HW.out.lo; omega) _)
      have hsz : Hid ((idsOf (l.take k)).size + (#[x.id] : Array Id20).size ≤ 500000) := Lib.hid (by rw [idsOf_size]; simp; omega)
      have hlo : Hid (w.heap.size + 2 ≤ ((wr.alloc (.cells x.cs.toArray 85)).alloc (.cells (idsV #[x.id]) 34)).heap.size) := Lib.hid (Nat.le_trans HW.out.lo HB3.out.size)
      clear hrow hab hx
      go_wp2_with (first
        | ((with_reducible show wpList _ _ _ (⟨some 18, _, _, _, _, _⟩ :: _) _ _); refine wpList_load_agg (o := ⟨some 18, _, _, _, _, _⟩) rfl _ (.tmp 17) rfl _ rfl x.cs hr.out hag.out ?_)
        | ((with_reducible show wpList _ _ _ (⟨none, _, _, _, _, _⟩ :: _) _ _); refine wpList_store_new (o := ⟨none, _, _, _, _, _⟩) rfl _ (.tmp 9) (.tmp 18) rfl _ _ rfl x.cs rfl 22 (by kernel_rfl) hxo.out.len rfl hxo.out.one ?_)
        | ((with_reducible show wpList _ _ _ (⟨some 21, _, _, _, _, _⟩ :: _) _ _); refine wpList_load_agg (o := ⟨some 21, _, _, _, _, _⟩) rfl _ (.tmp 20) rfl _ rfl (bytesV x.id.1) hnew.out (HG.out _) ?_)
        | ((with_reducible show wpList _ _ _ (⟨some 22, _, _, _, _, _⟩ :: _) _ _); refine wpList_build_one idTyA (o := ⟨some 22, _, _, _, _, _⟩) rfl _ rfl x.id rfl ?_)
        | ((with_reducible show wpList _ _ _ (⟨some 23, _, _, _, _, _⟩ :: _) _ _)
           refine wpList_append_ids idTyA (o := ⟨some 23, _, _, _, _, _⟩) rfl (.tmp 19) (.tmp 22) rfl (w.heap.size + 2) _ (idsOf (l.take k)) #[x.id] (by rfl) HO2.out (some ⟨(wr.alloc (.cells x.cs.toArray 85)).heap.size, 0, none⟩) 1 (by rfl) hrow3.out hsz.out hlo.out ?_
           intro v' w' hown hbel))
      go_roundw
      case rel =>
        refine ⟨k + 1, by go_num, by omega, Lib.hid ?_, Lib.hid (HW.out.below (HB3.out.trans hbel))⟩
        rw [← hsn.out]
        exact hown
      case measure => simp [intOf]; omega
    · have hk2 : k = len := by omega
      subst hk2
      rw [show l.take k = l by rw [HL.out]; exact List.take_length] at HO
      obtain ⟨q, c, hv, hrow, _, hq, _, _⟩ := HO.out.form
      subst hv
      have HR := metric_Rank t HTL.out o q (idsOf l) c wr hrow (fun b hb => (hq b hb).2) (by rw [idsOf_size, ← HL.out]; omega)
      have HR := Lib.hid HR
      have h3 := Lib.hid HW.out.ob
      have h4 := Lib.hid HW.out.tb
      clear hrow hq
      go_wp2_with (first
        | ((with_reducible show wpList _ _ _ (⟨some 25, _, _, _, _, _⟩ :: _) _ _); refine wpList_load_agg (o := ⟨some 25, _, _, _, _, _⟩) rfl _ (.tmp 4) rfl _ rfl (bytesV t) h4.out haT.out ?_)
        | ((with_reducible show wpList _ _ _ (⟨some 26, _, _, _, _, _⟩ :: _) _ _); refine wpList_load_agg (o := ⟨some 26, _, _, _, _, _⟩) rfl _ (.tmp 3) rfl _ rfl (bytesV o.1) h3.out (HG.out o) ?_))
      refine HR.out.mono ?_
      rintro e w5 ⟨n, rfl, hri, hb5⟩
      have hne := rkN_of hri
      subst hne
      go_wp2_with fail
      go_ret
      exact ⟨rfl, HW.out.bel.trans (hb5.mono HW.out.bel.size)⟩

set_option maxRecDepth 100000 in
set_option maxHeartbeats 4000000 in
theorem ref21_Rank (o : Id20) (t : List UInt8) (ht : t.length = 20) (a : Option Addr) (len cap : Nat) (l : List Con) (w : World) (h : Cons w w.heap.size a len l) (hn : len ≤ 60) :
    Calls Try.prog 32 #[.agg (bytesV o.1).toArray, .agg (bytesV t).toArray, .slice a len cap] w fun e w' => e = .returned (.int .i64 (rkN t o.1 l : Nat)) ∧ Below w.heap.size w w' := by
  have st := bytes_size ht
  have so := bytes_size o.2
  have HG : Hid (∀ x : Id20, IsAgg Try.prog 34 (bytesV x.1).length) := Lib.hid (fun x => by rw [bytes_len x.2]; exact aggID)
  have haT : Hid (IsAgg Try.prog 34 (bytesV t).length) := Lib.hid (by rw [bytes_len ht]; exact aggID)
  have HW0 : Hid (DkW w o.1 t a len l ((w.alloc (.cells (bytesV o.1).toArray 34)).alloc (.cells (bytesV t).toArray 34))) := Lib.hid (DkW.start h o.1 t _ _)
  have HTL := Lib.hid ht
  have HL := Lib.hid h.len
  have HOK := Lib.hid h.ok
  clear h
  go_enter Try.func32, Try.ntmps32
  go_wp2_with fail
  go_loopw [7, 8] (fun s7 s8 wr => ∃ k : Nat, s8 = .int .i64 k ∧ k ≤ len ∧ Hid (OwnIds 35 wr (w.heap.size + 2) s7 (idsOf (l.take k))) ∧ Hid (DkW w o.1 t a len l wr)) (fun _ s8 _ => len - (intOf s8).toNat)
  case atStart => exact ⟨0, rfl, Nat.zero_le _, Lib.hid (OwnIds.nil _ _ _), HW0⟩
  case round =>
    clear HW0
    obtain ⟨k, rfl, hk, HO, HW⟩ := hrel
    by_cases hlt : k < len
    · obtain ⟨x, hx⟩ : ∃ x, l[k]? = some x := ⟨l[k]'(by rw [← HL.out]; exact hlt), List.getElem?_eq_getElem _⟩
      obtain ⟨ad, rfl, hab, hrow⟩ := HW.out.con.at_ k x hx
      have hxo := HOK.out x (List.mem_of_getElem? hx)
      have hsn := Lib.hid (idsOf_snoc hx)
      have hr : Hid (Row wr (ad.add (k * 22)) (bytesV x.id.1)) := Lib.hid (hxo.row hrow)
      have HO2 := Lib.hid (HO.out.below ((Below.refl _ _).alloc (Nat.le_refl _) (.cells (idsV #[x.id]) 35)))
      have hrow3 : Hid (IdRow (wr.alloc (.cells (idsV #[x.id]) 35)) (some ⟨wr.heap.size, 0, none⟩) #[x.id]) := Lib.hid ⟨(fun h => by cases h), (fun a ha => by
        obtain rfl := Option.some.inj ha
        exact Row.of_block (heap_alloc_new _ _))⟩
      have HB3 : Hid (Below (w.heap.size + 2) wr (wr.alloc (.cells (idsV #[x.id]) 35))) := Lib.hid ((Below.refl _ _).alloc HW.out.lo _)
      have hsz : Hid ((idsOf (l.take k)).size + (#[x.id] : Array Id20).size ≤ 500000) := Lib.hid (by rw [idsOf_size]; simp; omega)
      have hlo : Hid (w.heap.size + 2 ≤ (wr.alloc (.cells (idsV #[x.id]) 35)).heap.size) := Lib.hid (Nat.le_trans HW.out.lo HB3.out.size)
      clear hrow hab hx hxo
      go_wp2_with (first
        | ((with_reducible show wpList _ _ _ (⟨some 20, _, _, _, _, _⟩ :: _) _ _); refine wpList_load_agg (o := ⟨some 20, _, _, _, _, _⟩) rfl _ (.tmp 19) rfl _ rfl (bytesV x.id.1) hr.out (HG.out _) ?_)
        | ((with_reducible show wpList _ _ _ (⟨some 21, _, _, _, _, _⟩ :: _) _ _); refine wpList_build_one idTyR (o := ⟨some 21, _, _, _, _, _⟩) rfl _ rfl x.id rfl ?_)
        | ((with_reducible show wpList _ _ _ (⟨some 22, _, _, _, _, _⟩ :: _) _ _)
           refine wpList_append_ids idTyR (o := ⟨some 22, _, _, _, _, _⟩) rfl (.tmp 15) (.tmp 21) rfl (w.heap.size + 2) _ (idsOf (l.take k)) #[x.id] (by rfl) HO2.out (some ⟨wr.heap.size, 0, none⟩) 1 (by rfl) hrow3.out hsz.out hlo.out ?_
           intro v' w' hown hbel))
      go_roundw
      case rel =>
        refine ⟨k + 1, by go_num, by omega, Lib.hid ?_, Lib.hid (HW.out.below (HB3.out.trans hbel))⟩
        rw [← hsn.out]
        exact hown
      case measure => simp [intOf]; omega
    · have hk2 : k = len := by omega
      subst hk2
      rw [show l.take k = l by rw [HL.out]; exact List.take_length] at HO
      obtain ⟨q, c, hv, hrow, _, hq, _, _⟩ := HO.out.form
      subst hv
      have HR := Lib.hid (ref04_Rank t HTL.out o q (idsOf l) c wr hrow (fun b hb => (hq b hb).2) (by rw [idsOf_size, ← HL.out]; omega))
      have h3 := Lib.hid HW.out.ob
      have h4 := Lib.hid HW.out.tb
      clear hrow hq
      go_wp2_with (first
        | ((with_reducible show wpList _ _ _ (⟨some 23, _, _, _, _, _⟩ :: _) _ _); refine wpList_load_agg (o := ⟨some 23, _, _, _, _, _⟩) rfl _ (.tmp 4) rfl _ rfl (bytesV t) h4.out haT.out ?_)
        | ((with_reducible show wpList _ _ _ (⟨some 24, _, _, _, _, _⟩ :: _) _ _); refine wpList_load_agg (o := ⟨some 24, _, _, _, _, _⟩) rfl _ (.tmp 3) rfl _ rfl (bytesV o.1) h3.out (HG.out o) ?_))
      refine HR.out.mono ?_
      rintro e w5 ⟨rfl, hb5⟩
      go_wp2_with fail
      go_ret
      exact ⟨rfl, HW.out.bel.trans (hb5.mono HW.out.bel.size)⟩
end Go.Proofs.Ytgdiajhegmdfgaa

/-
  DecayTells walked: whatever the input, signpostlaw21.DecayTells returns true. Conditions: the arguments fit their kinds, and the slices read as data.
-/
namespace Go.Proofs.Ytgdiajhegmdfgaa
open Go.RowKit Go.Sort Go.Lib

/-- The worlds of the law. -/
structure DtW (w0 : World) (o t : List UInt8) (a : Option Addr) (len : Nat) (l : List Ins) (b : Option Addr) (n : Nat) (m : List Con) (w : World) : Prop where
  ob : Row w ⟨w0.heap.size, 0, none⟩ (bytesV o)
  tb : Row w ⟨w0.heap.size + 1, 0, none⟩ (bytesV t)
  lo : w0.heap.size + 2 ≤ w.heap.size
  ins : Insts w w.heap.size a len l
  con : Cons w w.heap.size b n m
  bel : Below w0.heap.size w0 w
theorem Insts.late {w W : World} {a : Option Addr} {len : Nat} {l : List Ins} (h : Insts w w.heap.size a len l) (hb : Below w.heap.size w W) : Insts W W.heap.size a len l :=
  ⟨h.len, h.ok, h.bd, fun i x hx => by
    obtain ⟨ad, e, hl, hr⟩ := h.at_ i x hx
    exact ⟨ad, e, Nat.lt_of_lt_of_le hl hb.size, hr.below hb (by rw [add_block]; exact hl)⟩⟩
theorem DtW.below {w0 w w' : World} {o t : List UInt8} {a : Option Addr} {len : Nat} {l : List Ins} {b : Option Addr} {n : Nat} {m : List Con} (h : DtW w0 o t a len l b n m w) (hb : Below w.heap.size w w') : DtW w0 o t a len l b n m w' :=
  ⟨h.ob.below hb (by have := h.lo; show w0.heap.size < w.heap.size; omega), h.tb.below hb (by have := h.lo; show w0.heap.size + 1 < w.heap.size; omega), Nat.le_trans h.lo hb.size, h.ins.late hb, h.con.later hb, h.bel.trans (hb.mono h.bel.size)⟩
theorem DtW.drew {w0 w : World} {o t : List UInt8} {a : Option Addr} {len : Nat} {l : List Ins} {b : Option Addr} {n : Nat} {m : List Con} (h : DtW w0 o t a len l b n m w) : DtW w0 o t a len l b n m w.drew :=
  ⟨h.ob, h.tb, h.lo, ⟨h.ins.len, h.ins.ok, h.ins.bd, h.ins.at_⟩, ⟨h.con.len, h.con.ok, h.con.bd, h.con.at_⟩, below_drewN h.bel 1⟩
theorem DtW.start {w : World} {a : Option Addr} {len : Nat} {l : List Ins} {b : Option Addr} {n : Nat} {m : List Con} (h1 : Insts w w.heap.size a len l) (h2 : Cons w w.heap.size b n m) (o t : List UInt8) (To Tt : TypeId) :
    DtW w o t a len l b n m ((w.alloc (.cells (bytesV o).toArray To)).alloc (.cells (bytesV t).toArray Tt)) := by
  have hb2 : Below w.heap.size w ((w.alloc (.cells (bytesV o).toArray To)).alloc (.cells (bytesV t).toArray Tt)) := ((Below.refl _ _).alloc (Nat.le_refl _) _).alloc (by simp) _
  exact ⟨BB.row (T := To) (BB.alloc (l := o) (heap_alloc_new _ _) _), BB.row (T := Tt) (heap_alloc2_new _ _ _), by simp, h1.late hb2, h2.later hb2, hb2⟩

set_option maxRecDepth 100000 in
set_option maxHeartbeats 4000000 in
theorem Tells_walk (life now rank k : Int) (a : Option Addr) (len cap : Nat) (l : List Ins) (b : Option Addr) (n capb : Nat) (m : List Con) (o : Id20) (t : List UInt8) (ht : t.length = 20) (w : World)
    (h0 : 0 ≤ life) (h1 : life ≤ 18446744073709551615) (n0 : 0 ≤ now) (n1 : now ≤ 18446744073709551615) (r0 : -9223372036854775808 ≤ rank) (r1 : rank ≤ 9223372036854775807)
    (k0 : -9223372036854775808 ≤ k) (k1 : k ≤ 9223372036854775807) (h : Insts w w.heap.size a len l) (hc : Cons w w.heap.size b n m) :
    Calls Try.prog 7 #[.int .u64 life, .int .u64 now, .int .i64 rank, .int .i64 k, .slice a len cap, .slice b n capb, .agg (bytesV o.1).toArray, .agg (bytesV t).toArray] w fun e w' => e = .returned (.bool true) ∧ Below w.heap.size w w' := by
  have st := bytes_size ht
  have so := bytes_size o.2
  have hn63 : (n : Int) ≤ 9223372036854775807 := by have := hc.bd; have := hc.len; unfold maxLen at *; omega
  have haO : Hid (IsAgg Try.prog 34 (bytesV o.1).length) := Lib.hid (by rw [bytes_len o.2]; exact aggID)
  have haT : Hid (IsAgg Try.prog 34 (bytesV t).length) := Lib.hid (by rw [bytes_len ht]; exact aggID)
  have HW : Hid (DtW w o.1 t a len l b n m ((w.alloc (.cells (bytesV o.1).toArray 34)).alloc (.cells (bytesV t).toArray 34))) := Lib.hid (DtW.start h hc o.1 t _ _)
  have hok := h.ok
  obtain ⟨l0, l1⟩ := lastOf_bd l hok
  have HLi : Hid (∀ W, DtW w o.1 t a len l b n m W → Calls Try.prog 27 #[.slice a len cap] W fun e w' => e = .returned (.bool (lightB l)) ∧ Below W.heap.size W w') := Lib.hid fun W hW => Light_any a len cap l W hW.ins
  have HV := Lib.hid (fun W => lives21 W)
  have HS1 := Lib.hid (fun W => Share_any life rank k h0 h1 r0 r1 k0 k1 W)
  have HS2 := Lib.hid (fun W => rShare_any life rank k h0 h1 r0 r1 k0 k1 W)
  have HL1 : Hid (∀ W, DtW w o.1 t a len l b n m W → Calls Try.prog 33 #[.slice a len cap] W fun e w' => e = .returned (.int .u64 (lastOf l)) ∧ Below W.heap.size W w') := Lib.hid fun W hW => Last_any a len cap l W hW.ins
  have HL2 : Hid (∀ W, DtW w o.1 t a len l b n m W → Calls Try.prog 34 #[.slice a len cap] W fun e w' => e = .returned (.int .u64 (lastOf l)) ∧ Below W.heap.size W w') := Lib.hid fun W hW => rLast_any a len cap l W hW.ins
  have HU1 : Hid (∀ W, DtW w o.1 t a len l b n m W → Calls Try.prog 35 #[.slice a len cap, .int .u64 now, .int .i64 rank, .int .i64 k] W fun e w' => e = .returned (.int .u64 (untilOf l now rank k)) ∧ Below W.heap.size W w') := Lib.hid fun W hW => Until_any a len cap l now rank k n0 n1 r0 r1 k0 k1 W hW.ins
  have HU2 : Hid (∀ W, DtW w o.1 t a len l b n m W → Calls Try.prog 36 #[.slice a len cap, .int .u64 now, .int .i64 rank, .int .i64 k] W fun e w' => e = .returned (.int .u64 (untilOf l now rank k)) ∧ Below W.heap.size W w') := Lib.hid fun W hW => rUntil_any a len cap l now rank k n0 n1 r0 r1 k0 k1 W hW.ins
  have HR1 : Hid (n ≤ 60 → ∀ W, DtW w o.1 t a len l b n m W → Calls Try.prog 31 #[.agg (bytesV o.1).toArray, .agg (bytesV t).toArray, .slice b n capb] W fun e w' => e = .returned (.int .i64 (rkN t o.1 m : Nat)) ∧ Below W.heap.size W w') := Lib.hid fun hn W hW => decay_Rank o t ht b n capb m W hW.con hn
  have HR2 : Hid (n ≤ 60 → ∀ W, DtW w o.1 t a len l b n m W → Calls Try.prog 32 #[.agg (bytesV o.1).toArray, .agg (bytesV t).toArray, .slice b n capb] W fun e w' => e = .returned (.int .i64 (rkN t o.1 m : Nat)) ∧ Below W.heap.size W w') := Lib.hid fun hn W hW => ref21_Rank o t ht b n capb m W hW.con hn
  clear h hc hok ht
  generalize lightB l = B at HLi
  generalize lastOf l = L at HL1 HL2 l0 l1
  generalize untilOf l now rank k = U at HU1 HU2
  generalize share life rank k = A at HS1 HS2
  generalize rkN t o.1 m = R at HR1 HR2
  cases B with
  | false =>
    go_enter Try.func7, Try.ntmps7
    go_wp2_with fail
    refine (HLi.out _ HW.out).mono ?_; rintro e w1 ⟨rfl, hb1⟩
    have HB := Lib.hid (HW.out.below hb1).bel
    go_wp2_with fail
    refine (HV.out _).mono ?_; rintro e w6 ⟨rfl, hb6⟩
    go_wp2_with fail
    go_ret
    exact ⟨rfl, HB.out.trans (hb6.mono HB.out.size)⟩
  | true =>
    by_cases hn : n ≤ 60
    · have hn60 : (n : Int) ≤ 60 := by omega
      have HR1 := Lib.hid (HR1.out hn)
      have HR2 := Lib.hid (HR2.out hn)
      go_enter Try.func7, Try.ntmps7
      go_wp2_with fail
      refine (HLi.out _ HW.out).mono ?_; rintro e w1 ⟨rfl, hb1⟩
      have HW1 := Lib.hid (HW.out.below hb1)
      clear HW hb1
      go_wp2_with fail
      refine wp_region_QL (DtW w o.1 t a len l b n m) (by kernel_rfl) (by kernel_rfl) HW1.out.drew ?_
      repeat (first
        | (refine QL.load (by rfl) _ _ rfl _ rfl (bytesV o.1) (fun w h => h.ob) haO.out ?_)
        | (refine QL.load (by rfl) _ _ rfl _ rfl (bytesV t) (fun w h => h.tb) haT.out ?_)
        | (refine QL.step (fun K hK => ?_); go_simp
           first
             | (refine hK _ ?_; clear hK K)
             | (apply Exists.intro
                refine ⟨fun w hw => ?_, hK _ ?_⟩
                first
                  | with_reducible rfl
                  | (go_at_call 29; refine (HS1.out _).mono ?_; rintro e w' ⟨rfl, hbx⟩; exact ⟨rfl, hw.below hbx⟩)
                  | (go_at_call 30; refine (HS2.out _).mono ?_; rintro e w' ⟨rfl, rfl⟩; exact ⟨rfl, hw⟩)
                  | (go_at_call 31; refine (HR1.out _ hw).mono ?_; rintro e w' ⟨rfl, hbx⟩; exact ⟨rfl, hw.below hbx⟩)
                  | (go_at_call 32; refine (HR2.out _ hw).mono ?_; rintro e w' ⟨rfl, hbx⟩; exact ⟨rfl, hw.below hbx⟩)
                  | (go_at_call 33; refine (HL1.out _ hw).mono ?_; rintro e w' ⟨rfl, hbx⟩; exact ⟨rfl, hw.below hbx⟩)
                  | (go_at_call 34; refine (HL2.out _ hw).mono ?_; rintro e w' ⟨rfl, hbx⟩; exact ⟨rfl, hw.below hbx⟩)
                  | (go_at_call 35; refine (HU1.out _ hw).mono ?_; rintro e w' ⟨rfl, hbx⟩; exact ⟨rfl, hw.below hbx⟩)
                  | (go_at_call 36; refine (HU2.out _ hw).mono ?_; rintro e w' ⟨rfl, hbx⟩; exact ⟨rfl, hw.below hbx⟩)
                  | (go_at_call 28; refine (HV.out _).mono ?_; rintro e w' ⟨rfl, hbx⟩; exact ⟨rfl, hw.below hbx⟩)
                clear hK K)))
      refine QL.nil ?_
      intro w7 hC7
      clear HW1
      have HW := Lib.hid hC7
      clear hC7
      go_wp2_with fail
      go_ret
      exact ⟨rfl, HW.out.bel⟩
    · have hn60 : 60 < (n : Int) := by omega
      go_enter Try.func7, Try.ntmps7
      go_wp2_with fail
      refine (HLi.out _ HW.out).mono ?_; rintro e w1 ⟨rfl, hb1⟩
      have HB := Lib.hid (HW.out.below hb1).bel
      go_wp2_with fail
      refine (HV.out _).mono ?_; rintro e w6 ⟨rfl, hb6⟩
      go_wp2_with fail
      go_ret
      exact ⟨rfl, HB.out.trans (hb6.mono HB.out.size)⟩
end Go.Proofs.Ytgdiajhegmdfgaa

/-
  A law is lifted out of its walk: if, in whatever memory the arguments read as data, the call returns true and turns nothing that was there, then the given row holds. Conditions: none of the program's own; the closed facts are asked of the caller.
-/
namespace Go.Proofs.Ytgdiajhegmdfgaa
open Go.ChangeShapes Go.WideShapes Go.ChangeAt Go.RowKit

namespace Lift

theorem own : ownKnob Try.prog.godebug = none := by kernel_rfl
theorem laidOut : laidOutB Try.prog = true := by kernel_rfl

section
variable {H : Type} {enc : TypeId × Value → H} {P : Program}

/-- All arguments read below the heap's old size as they did. -/
theorem trodAll_stays (hl : laidOutB P = true) {W W' : World} (hb : Below W.heap.size W W') :
    ∀ {ts : List TypeId} {vs : List Value} {ds : List (DataW H)} {ps : List MemPlace}, (ts.all fun t => P.readableRec t && decide (t < P.types.size)) = true →
      DataW.TrodAll enc P W 0 (fun _ => true) true ts vs ds ps → DataW.TrodAll enc P W' 0 (fun b => decide (b < W.heap.size)) true ts vs ds ps
  | [], [], [], _, _, h => h
  | [], _ :: _, _, _, _, h => h.elim
  | [], [], _ :: _, _, _, h => h.elim
  | _ :: _, [], _, _, _, h => h.elim
  | _ :: _, _ :: _, [], _, _, h => h.elim
  | t :: ts, v :: vs, d :: ds, ps, hr, ⟨p, q, h1, h2, e⟩ => by
    simp only [List.all_cons, Bool.and_eq_true, decide_eq_true_eq] at hr
    obtain ⟨⟨hr1, hr2⟩, hr3⟩ := hr
    have hlt : ∀ x ∈ p, x.block < W.heap.size := by obtain ⟨m, hm⟩ := h1; exact DataW.trod_lt m _ _ _ hm
    exact ⟨p, q, Below.trod hl hr1 hr2 h1 hb hlt, trodAll_stays hl hb hr3 h2, e⟩
end

/-- The lift of a law that answers one bool and whose specification hands all arguments back as they were. -/
theorem law {C : Checked} {f : FuncId} {fn : Func} {s : ChangeSpec} {tb n : Nat} {os : Os} {H : Type} {enc : TypeId × Value → H}
    (own : ownKnob C.prog.godebug = none) (started : os.Started) (noInit : C.prog.inits.idxOf? f = none) (hfn : C.prog.funcs[f]? = some fn)
    (hlaid : laidOutB C.prog = true) (hparams : (fn.params.toList.all fun t => C.prog.readableRec t && decide (t < C.prog.types.size)) = true)
    (hres : fn.resultTypes = #[tb]) (hb : C.prog.underlying tb = some .bool) (hn : fn.params.size = n)
    (hvars : s.vars = []) (hs : ∀ (ds : List (DataW H)), ds.length = n → s.fn H ds = { results := [.lit (.bool true)], args := ds })
    (witness : ∃ (w : World) (tape : Tape) (i : Input), w.os = os ∧ (w.forCall tape i).Shaped C.prog ∧ i.vars = [] ∧ Input.okWide C.prog (w.forCall tape i) .any w.heap.size f i ∧
      s.pre6 enc C.prog fn [] false (w.forCall tape i).memory i.args ∧ ({} : Assume).holds C.prog (lone (Frame.enter C.prog f i.args .normal) [] (w.forCall tape i)))
    (walk : ∀ (W : World) (base : Nat) (args : Array Value) (ds : List (DataW H)) (ps : List MemPlace),
      (∀ (j : Nat) t v, fn.params[j]? = some t → args[j]? = some v → Value.okWide C.prog W .any base t v) →
      DataW.TrodAll enc C.prog W 0 (fun _ => true) true fn.params.toList args.toList ds ps →
      (DataW.weightsEach C.prog fn.params.toList ds).all (· ≤ reachBytes) = true →
      Calls C.prog f args W fun e W' => e = .returned (.bool true) ∧ Below W.heap.size W W') :
    ReturnsInHanded {} C os f .any (s.pre6 enc C.prog fn [] false) (s.post enc C.prog fn false true false false) := by
  refine returnsInHanded_of_change_sized own started noInit hfn witness ?_
  intro W base args ds gs before hval hW _ hsz _
  have hW' := hW
  obtain ⟨p, q, hA, hV, rfl, _, _⟩ := hW
  rw [hvars] at hV
  obtain ⟨rfl, rfl⟩ := trodVars_none hV
  have hvt : s.plain.varTypes C.prog = [] := by simp [ChangeSpec.plain, DataSpec.varTypes, hvars]
  rw [hvt, List.append_nil, List.append_nil] at hsz
  have hlen : ∀ {ts : List TypeId} {vs : List Value} {ds : List (DataW H)} {ps : List MemPlace}, DataW.TrodAll enc C.prog W 0 (fun _ => true) true ts vs ds ps → ds.length = ts.length := by
    intro ts
    induction ts with
    | nil => intro vs ds ps h; obtain ⟨_, rfl, _⟩ := trodAll_nil h; rfl
    | cons t ts ih =>
      intro vs ds ps h
      obtain ⟨_, _, _, _, _, _, _, rfl, _, _, h2⟩ := trodAll_cons h
      simp [ih h2]
  have hd : ds.length = n := by rw [hlen hA, Array.length_toList, hn]
  refine (walk W base args ds p hval hA hsz).mono fun e W' ⟨he, bel⟩ => ⟨_, he, ?_⟩
  refine ⟨ds, [], _, [], p, [], hW', ?_, ?_, by rw [hvars, List.append_nil, hs ds hd]; exact rfl, bel.frame _, fun h => by cases h⟩
  · rw [List.append_nil, hs ds hd, hres]
    exact trodAll_mk1 (shut_bool hb _)
  · rw [List.append_nil, hs ds hd]
    exact trodAll_stays hlaid bel hparams hA
end Lift
end Go.Proofs.Ytgdiajhegmdfgaa

namespace Go.Proofs.Ytgdiajhegmdfgaa
open Go.ChangeShapes Go.WideShapes Go.ChangeAt Go.RowKit Go.Deep

set_option maxRecDepth 100000 in
theorem DecayTells_lifted (os : Os) (started : os.Started) (H : Type) (enc : TypeId × Value → H) :
    ReturnsInHanded {} Try.checked os 7 .any (Rows.decayTellsSpec.pre6 enc Try.prog Try.f7 Rows.decayTellsRow.domain false) (Rows.decayTellsSpec.post enc Try.prog Try.f7 false true false false) := by
  refine Lift.law (C := Try.checked) (n := 8) Lift.own started (by kernel_rfl) Try.func7 Lift.laidOut (by kernel_rfl) rfl Try.underlying4 rfl rfl ?_
    (ChangeSpec.witness6 (enc := enc) (C := Try.checked) false ⟨#[], #[.int .u64 0, .int .u64 0, .int .i64 0, .int .i64 0, .slice none 0 0, .slice none 0 0, .agg #[.int .u8 0, .int .u8 0, .int .u8 0, .int .u8 0, .int .u8 0, .int .u8 0, .int .u8 0, .int .u8 0, .int .u8 0, .int .u8 0, .int .u8 0, .int .u8 0, .int .u8 0, .int .u8 0, .int .u8 0, .int .u8 0, .int .u8 0, .int .u8 0, .int .u8 0, .int .u8 0], .agg #[.int .u8 0, .int .u8 0, .int .u8 0, .int .u8 0, .int .u8 0, .int .u8 0, .int .u8 0, .int .u8 0, .int .u8 0, .int .u8 0, .int .u8 0, .int .u8 0, .int .u8 0, .int .u8 0, .int .u8 0, .int .u8 0, .int .u8 0, .int .u8 0, .int .u8 0, .int .u8 0]], []⟩ 8 (by kernel_rfl) (by kernel_rfl) (by kernel_rfl) (by kernel_rfl)) ?_
  · intro ds hd
    match ds, hd with
    | [_, _, _, _, _, _, _, _], _ => rfl
  intro W base args ds ps hval0 hA _
  have hval : ∀ (j : Nat) t v, Try.f7.params[j]? = some t → args[j]? = some v → Value.okWide Try.prog W .any base t v := hval0
  rw [Try.params7] at hA hval
  obtain ⟨v0, vs0, d0, ds0, p0, q0, hargs, rfl, rfl, h0, r0⟩ := trodAll_cons hA
  obtain ⟨v1, vs1, d1, ds1, p1, q1, rfl, rfl, rfl, h1, r1⟩ := trodAll_cons r0
  obtain ⟨v2, vs2, d2, ds2, p2, q2, rfl, rfl, rfl, h2, r2⟩ := trodAll_cons r1
  obtain ⟨v3, vs3, d3, ds3, p3, q3, rfl, rfl, rfl, h3, r3⟩ := trodAll_cons r2
  obtain ⟨v4, vs4, d4, ds4, p4, q4, rfl, rfl, rfl, h4, r4⟩ := trodAll_cons r3
  obtain ⟨v5, vs5, d5, ds5, p5, q5, rfl, rfl, rfl, h5, r5⟩ := trodAll_cons r4
  obtain ⟨v6, vs6, d6, ds6, p6, q6, rfl, rfl, rfl, h6, r6⟩ := trodAll_cons r5
  obtain ⟨v7, vs7, d7, ds7, p7, q7, rfl, rfl, rfl, h7, r7⟩ := trodAll_cons r6
  obtain ⟨rfl, rfl, rfl⟩ := trodAll_nil r7
  obtain rfl : args = #[v0, v1, v2, v3, v4, v5, v6, v7] := by cases args; simp_all
  obtain ⟨a0, rfl, rfl, rfl, w0⟩ := open_int Try.underlying22 (hval 0 22 v0 rfl rfl) h0
  obtain ⟨a1, rfl, rfl, rfl, w1⟩ := open_int Try.underlying22 (hval 1 22 v1 rfl rfl) h1
  obtain ⟨a2, rfl, rfl, rfl, w2⟩ := open_int Try.underlying3 (hval 2 3 v2 rfl rfl) h2
  obtain ⟨a3, rfl, rfl, rfl, w3⟩ := open_int Try.underlying3 (hval 3 3 v3 rfl rfl) h3
  obtain ⟨ad, len, cap, rfl⟩ := okWide_slice Try.underlying53 (hval 4 53 v4 rfl rfl)
  obtain ⟨l, hl⟩ := open_insts h4
  obtain ⟨bd, lenb, capb, rfl⟩ := okWide_slice Try.underlying54 (hval 5 54 v5 rfl rfl)
  obtain ⟨m, hm⟩ := open_cons h5
  obtain ⟨o, ho, rfl⟩ := open_ID (hval 6 34 v6 rfl rfl) h6
  obtain ⟨t, ht, rfl⟩ := open_ID (hval 7 34 v7 rfl rfl) h7
  have b0 := wf_u64 w0
  have b1 := wf_u64 w1
  have b2 := wf_i64 w2
  have b3 := wf_i64 w3
  exact Tells_walk a0 a1 a2 a3 ad len cap l bd lenb capb m ⟨o, ho⟩ t ht W b0.1 b0.2 b1.1 b1.2 b2.1 b2.2 b3.1 b3.2 hl hm

theorem DecayTells_holds : Rows.DecayTellsSaid :=
  OpenClaim.holds_of_wide 7 Try.f7 rfl rfl rfl rfl rfl rfl rfl ⟨rfl, rfl, rfl, rfl, rfl⟩ rfl rfl rfl rfl rfl (by kernel_rfl) Try.func7 (by kernel_rfl)
    (of_decide_eq_true (by kernel_rfl)) (by unfold Func.isWrapper; first | (rw [if_pos (by decide +kernel)]; kernel_rfl) | (rw [if_neg (by decide +kernel)]; exact ⟨rfl, rfl⟩))
    (fun os started H enc _ => DecayTells_lifted os started H enc)
#print axioms DecayTells_holds
end Go.Proofs.Ytgdiajhegmdfgaa
