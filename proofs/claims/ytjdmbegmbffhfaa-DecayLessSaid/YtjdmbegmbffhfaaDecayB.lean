/-
  What decay.Last computes, of a slice of instances that came in. Conditions: the slice reads as data.
-/
import Derived.Test.YtjdmbegmbffhfaaDecayA
namespace Go.Proofs.Ytjdmbegmbffhfaa
open Go.RowKit

/-- A slice of instances that came in. -/
structure Insts (w : World) (B : Nat) (a : Option Addr) (len : Nat) (l : List Ins) : Prop where
  len : len = l.length
  ok : ∀ x ∈ l, x.Ok
  bd : l.length ≤ maxLen
  at_ : ∀ i x, l[i]? = some x → ∃ ad, a = some ad ∧ ad.block < B ∧ Row w (ad.add (i * 28)) x.cs

def lastOf (l : List Ins) : Int := l.foldl (fun m x => max m x.fin) 0

theorem isAgg_inst : IsAgg Try.prog 99 28 := ⟨_, Try.underlying99, rfl, by kernel_rfl⟩

theorem lastOf_bd (l : List Ins) (h : ∀ x ∈ l, x.Ok) : 0 ≤ lastOf l ∧ lastOf l ≤ 18446744073709551615 := by
  have key : ∀ (l : List Ins) (m : Int), (∀ x ∈ l, x.Ok) → 0 ≤ m → m ≤ 18446744073709551615 → 0 ≤ l.foldl (fun m x => max m x.fin) m ∧ l.foldl (fun m x => max m x.fin) m ≤ 18446744073709551615 := by
    intro l
    induction l with
    | nil => intro m _ h0 h1; exact ⟨h0, h1⟩
    | cons x l ih =>
      intro m hx h0 h1
      have hk := hx x (by simp)
      have := hk.b0
      have := hk.l0
      refine ih _ (fun y hy => hx y (by simp [hy])) ?_ ?_ <;> (show _ ≤ _) <;> dsimp only [Ins.fin] <;> omega
  exact key l 0 h (by omega) (by omega)

theorem lastOf_snoc {l : List Ins} {k : Nat} {x : Ins} (hx : l[k]? = some x) : lastOf (l.take (k + 1)) = max (lastOf (l.take k)) x.fin := by
  rw [List.take_add_one, hx]
  simp [lastOf]

set_option maxRecDepth 100000 in
set_option maxHeartbeats 400000 in
theorem Last_any (a : Option Addr) (len cap : Nat) (l : List Ins) (w : World) (h : Insts w w.heap.size a len l) :
    Calls Try.prog 17 #[.slice a len cap] w fun e w' => e = .returned (.int .u64 (lastOf l)) ∧ Below w.heap.size w w' := by
  obtain ⟨hlen, hok, hbd, hat⟩ := h
  unfold maxLen at hbd
  have hl2 : len ≤ 9223372036854775807 := by omega
  have H := Lib.hid hlen
  have HA := Lib.hid hat
  clear hlen hat
  go_enter Try.func17, Try.ntmps17
  go_wp2
  go_loopw [2, 4, 7] (fun n _ i wr => ∃ k : Nat, k ≤ len ∧ i = .int .i64 k ∧ n = .int .u64 (lastOf (l.take k)) ∧ Below w.heap.size w wr) (fun _ _ i _ => len - (intOf i).toNat)
  case atStart => exact ⟨0, by omega, rfl, rfl, Below.refl _ _⟩
  case round =>
    obtain ⟨k, hk, rfl, rfl, hb⟩ := hrel
    by_cases hlt : k < len
    · obtain ⟨x, hx⟩ : ∃ x, l[k]? = some x := ⟨l[k]'(by rw [← H.out]; exact hlt), List.getElem?_eq_getElem _⟩
      obtain ⟨ad, rfl, hab, hrow⟩ := HA.out k x hx
      have hxo := hok x (List.mem_of_getElem? hx)
      have hrow' := hrow.below hb (by rw [add_block]; exact hab)
      have hsz : ad.block < wr.heap.size := Nat.lt_of_lt_of_le hab hb.size
      have hnew : Row (wr.alloc (.cells x.cs.toArray 99)) ⟨wr.heap.size, 0, none⟩ x.cs := Row.of_block (heap_alloc_new wr _)
      have hfb : 0 ≤ x.fin ∧ x.fin ≤ 18446744073709551615 := by have := hxo.b0; have := hxo.l0; unfold Ins.fin; omega
      have hlb := lastOf_bd (l.take k) fun y hy => hok y (List.mem_of_mem_take hy)
      have HS := Lib.hid (lastOf_snoc hx)
      obtain ⟨hf0, hf1⟩ := hfb
      obtain ⟨hl0, hl1⟩ := hlb
      go_wp2_with (first
        | (refine wpList_load_agg (o := ⟨some 10, _, _, _, _, _⟩) rfl 99 _ rfl _ rfl x.cs hrow' (by rw [hxo.len]; exact isAgg_inst) ?_)
        | (refine wpList_store_new (o := ⟨none, _, _, _, _, _⟩) rfl 99 _ _ rfl _ _ rfl x.cs rfl 28 (by kernel_rfl) hxo.len rfl hxo.one ?_)
        | (refine wpList_load_agg (o := ⟨some 12, _, _, _, _, _⟩) rfl 99 _ rfl _ rfl x.cs hnew (by rw [hxo.len]; exact isAgg_inst) ?_)
        | (go_at_call 62; refine (End_any x hxo _).mono ?_; rintro e w' ⟨rfl, hb'⟩))
      all_goals
        go_roundw
        case rel => exact ⟨k + 1, by omega, by go_num, by rw [HS.out]; go_num, (hb.alloc hb.size _).trans (hb'.mono (by simp; have := hb.size; omega))⟩
        case measure => simp [intOf]; omega
    · go_wp2
      go_ret
      exact ⟨ret_int (by rw [List.take_of_length_le (by rw [← H.out]; omega)]), hb⟩
end Go.Proofs.Ytjdmbegmbffhfaa
