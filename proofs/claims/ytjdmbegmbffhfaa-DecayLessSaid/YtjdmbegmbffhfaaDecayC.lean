/-
  What decay.Until, signpostlaw12.Light and signpostlaw21.lives compute. Conditions: the arguments fit their kinds, and the slice reads as data.
-/
import Derived.Test.YtjdmbegmbffhfaaDecayB
namespace Go.Proofs.Ytjdmbegmbffhfaa
open Go.RowKit

def untilOf (l : List Ins) (now rank k : Int) : Int := min (now + share (lastOf l - min (lastOf l) now) rank k) 18446744073709551615

set_option maxRecDepth 100000 in
set_option maxHeartbeats 400000 in
theorem Until_any (a : Option Addr) (len cap : Nat) (l : List Ins) (now rank k : Int) (n0 : 0 ≤ now) (n1 : now ≤ 18446744073709551615) (r0 : -9223372036854775808 ≤ rank) (r1 : rank ≤ 9223372036854775807) (k0 : -9223372036854775808 ≤ k) (k1 : k ≤ 9223372036854775807)
    (w : World) (h : Insts w w.heap.size a len l) :
    Calls Try.prog 18 #[.slice a len cap, .int .u64 now, .int .i64 rank, .int .i64 k] w fun e w' => e = .returned (.int .u64 (untilOf l now rank k)) ∧ Below w.heap.size w w' := by
  obtain ⟨l0, l1⟩ := lastOf_bd l h.ok
  have s0 : 0 ≤ lastOf l - min (lastOf l) now := by omega
  have s1 : lastOf l - min (lastOf l) now ≤ 18446744073709551615 := by omega
  obtain ⟨t0, t1⟩ := share_bd (lastOf l - min (lastOf l) now) rank k s0
  have t2 : share (lastOf l - min (lastOf l) now) rank k ≤ 18446744073709551615 := by omega
  go_enter Try.func18, Try.ntmps18
  go_wp2_with fail
  refine (Last_any a len cap l _ h).mono ?_; rintro e w1 ⟨rfl, hb1⟩
  go_wp2_with fail
  refine (Sub_any _ now l0 l1 n0 n1 _).mono ?_; rintro e w2 ⟨rfl, rfl⟩
  go_wp2_with fail
  refine (Share_any _ rank k s0 s1 r0 r1 k0 k1 _).mono ?_; rintro e w2 ⟨rfl, hb2⟩
  go_wp2_with fail
  refine (Add_any now _ n0 n1 t0 t2 _).mono ?_; rintro e w2 ⟨rfl, rfl⟩
  go_wp2_with fail
  go_ret
  exact ⟨rfl, hb1.trans (hb2.mono hb1.size)⟩

def lightB (l : List Ins) : Bool := (l.all fun x => decide (x.tgt.size ≤ 300)) && decide (l.length ≤ 40)

theorem light_false {l : List Ins} {k : Nat} {x : Ins} (hx : l[k]? = some x) (h : ¬ x.tgt.size ≤ 300) : lightB l = false := by
  have : (l.all fun x => decide (x.tgt.size ≤ 300)) = false := by
    rw [List.all_eq_false]
    exact ⟨x, List.mem_of_getElem? hx, by simpa using h⟩
  simp [lightB, this]
theorem all_take {l : List Ins} {k : Nat} {x : Ins} (hx : l[k]? = some x) (h : x.tgt.size ≤ 300) (hk : (l.take k).all (fun x => decide (x.tgt.size ≤ 300)) = true) : (l.take (k + 1)).all (fun x => decide (x.tgt.size ≤ 300)) = true := by
  rw [List.take_add_one, hx]
  simp only [Option.toList_some, List.all_append, List.all_cons, List.all_nil, Bool.and_eq_true, decide_eq_true_eq, and_true]
  exact ⟨hk, h⟩

set_option maxRecDepth 100000 in
set_option maxHeartbeats 400000 in
theorem Light_any (a : Option Addr) (len cap : Nat) (l : List Ins) (w : World) (h : Insts w w.heap.size a len l) :
    Calls Try.prog 14 #[.slice a len cap] w fun e w' => e = .returned (.bool (lightB l)) ∧ Below w.heap.size w w' := by
  obtain ⟨hlen, hok, hbd, hat⟩ := h
  unfold maxLen at hbd
  have hl2 : len ≤ 9223372036854775807 := by omega
  have H := Lib.hid hlen
  have HA := Lib.hid hat
  clear hlen hat
  go_enter Try.func14, Try.ntmps14
  go_wp2
  go_loopw [4, 7] (fun _ i wr => ∃ k : Nat, k ≤ len ∧ i = .int .i64 k ∧ Hid ((l.take k).all (fun x => decide (x.tgt.size ≤ 300)) = true) ∧ Below w.heap.size w wr) (fun _ i _ => len - (intOf i).toNat)
  case atStart => exact ⟨0, by omega, rfl, rfl, Below.refl _ _⟩
  case round =>
    obtain ⟨k, hk, rfl, HK, hb⟩ := hrel
    by_cases hlt : k < len
    · obtain ⟨x, hx⟩ : ∃ x, l[k]? = some x := ⟨l[k]'(by rw [← H.out]; exact hlt), List.getElem?_eq_getElem _⟩
      obtain ⟨ad, rfl, hab, hrow⟩ := HA.out k x hx
      have hxo := hok x (List.mem_of_getElem? hx)
      have hrow' := hrow.below hb (by rw [add_block]; exact hab)
      have hsz : ad.block < wr.heap.size := Nat.lt_of_lt_of_le hab hb.size
      have hnew : Row (wr.alloc (.cells x.cs.toArray 99)) ⟨wr.heap.size, 0, none⟩ x.cs := Row.of_block (heap_alloc_new wr _)
      have htg : (wr.alloc (.cells x.cs.toArray 99)).cell? ⟨wr.heap.size, 27, none⟩ = some (.string x.tgt) := by simp [hxo.htgt]
      have hts := hxo.tsize
      unfold maxLen at hts
      have HX := Lib.hid hx
      clear hx
      by_cases h300 : x.tgt.size ≤ 300
      · go_wp2_with (first
          | (refine wpList_load_agg (o := ⟨some 10, _, _, _, _, _⟩) rfl 99 _ rfl _ rfl x.cs hrow' (by rw [hxo.len]; exact isAgg_inst) ?_)
          | (refine wpList_store_new (o := ⟨none, _, _, _, _, _⟩) rfl 99 _ _ rfl _ _ rfl x.cs rfl 28 (by kernel_rfl) hxo.len rfl hxo.one ?_))
        go_roundw
        case rel => exact ⟨k + 1, by omega, by go_num, Lib.hid (all_take HX.out h300 HK.out), hb.alloc hb.size _⟩
        case measure => simp [intOf]; omega
      · go_wp2_with (first
          | (refine wpList_load_agg (o := ⟨some 10, _, _, _, _, _⟩) rfl 99 _ rfl _ rfl x.cs hrow' (by rw [hxo.len]; exact isAgg_inst) ?_)
          | (refine wpList_store_new (o := ⟨none, _, _, _, _, _⟩) rfl 99 _ _ rfl _ _ rfl x.cs rfl 28 (by kernel_rfl) hxo.len rfl hxo.one ?_))
        go_ret
        exact ⟨ret_bool (light_false HX.out h300).symm, hb.alloc hb.size _⟩
    · go_wp2
      go_ret
      refine ⟨ret_bool ?_, hb⟩
      have hk2 := HK.out
      rw [List.take_of_length_le (by rw [← H.out]; omega)] at hk2
      rw [lightB, hk2, ← H.out, Bool.true_and]
      exact Bool.eq_iff_iff.2 (by simp; omega)

set_option maxHeartbeats 400000 in
theorem lives21 (w : World) : Calls Try.prog 15 #[] w fun e w' => e = .returned (.bool true) ∧ Below w.heap.size w w' := by
  have e1 : share 100 3 4 = 100 := by decide
  have e2 : share 100 4 4 = 50 := by decide
  have e3 : share 100 6 4 = 12 := by decide
  go_enter Try.func15, Try.ntmps15
  go_wp2_with fail
  refine (Share_any 100 3 4 (by omega) (by omega) (by omega) (by omega) (by omega) (by omega) _).mono ?_; rintro e w1 ⟨rfl, hb1⟩
  go_wp2_with fail
  refine (Share_any 100 4 4 (by omega) (by omega) (by omega) (by omega) (by omega) (by omega) _).mono ?_; rintro e w2 ⟨rfl, hb2⟩
  go_wp2_with fail
  refine (Share_any 100 6 4 (by omega) (by omega) (by omega) (by omega) (by omega) (by omega) _).mono ?_; rintro e w3 ⟨rfl, hb3⟩
  go_wp2_with fail
  go_ret
  exact ⟨rfl, hb1.trans ((hb2.trans (hb3.mono hb2.size)).mono hb1.size)⟩
end Go.Proofs.Ytjdmbegmbffhfaa
