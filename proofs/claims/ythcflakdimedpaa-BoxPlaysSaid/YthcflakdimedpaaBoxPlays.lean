/-
  BoxPlays: whatever the input, signpostlaw42.BoxPlays returns true and leaves its arguments as they were. Conditions: none.
-/
import Derived.Test.YthcflakdimedpaaBoxE
import Derived.Test.YthcflakdimedpaaOpen
import Derived.Test.YthcflakdimedpaaLift
namespace Go.Proofs.Ythcflakdimedpaa
open Go.ChangeShapes Go.WideShapes Go.ChangeAt Go.RowKit Go.Deep Go.Conc

set_option maxHeartbeats 1000000 in
set_option maxRecDepth 20000 in
theorem Box_dark (most other : Int) (A : Option Addr) (len cap : Nat) (w : World) (hlen : (len : Int) ≤ 9223372036854775807) (h : 60 < (len : Int) ∨ other < 1 ∨ 50 < other) :
    Calls Try.prog 3 #[.int .i64 most, .int .i64 other, .slice A len cap] w fun e w' => e = .returned (.bool true) ∧ Below w.heap.size w w' := by
  have hc : 60 < (len : Int) ∨ ((len : Int) ≤ 60 ∧ other < 1) ∨ ((len : Int) ≤ 60 ∧ 1 ≤ other ∧ 50 < other) := by omega
  rcases hc with h1 | ⟨h1, h2⟩ | ⟨h1, h2, h3⟩
  all_goals
    clear h
    go_enter Try.func3, Try.ntmps3
    go_wp2_with fail
    refine (lives42 _).mono ?_; rintro e w3 ⟨rfl, hb3⟩
    go_wp2_with fail
    go_ret
    exact ⟨rfl, hb3⟩

set_option maxHeartbeats 1000000 in
set_option maxRecDepth 20000 in
theorem Box_bad (most : Int) (other : Nat) (A : Option Addr) (len cap : Nat) (w : World) (h60 : (len : Int) ≤ 60) (ho0 : 1 ≤ other) (ho1 : other ≤ 50) (h : most < 1 ∨ 65536 < most) :
    Calls Try.prog 3 #[.int .i64 most, .int .i64 (other : Int), .slice A len cap] w fun e w' => e = .returned (.bool true) ∧ Below w.heap.size w w' := by
  have hc : most < 1 ∨ (1 ≤ most ∧ 65536 < most) := by omega
  have g1 : (1 : Int) ≤ (other : Int) := by omega
  have g2 : (other : Int) ≤ 50 := by omega
  have H := Lib.hid h
  clear h
  rcases hc with h1 | ⟨h1, h2⟩
  all_goals
    go_enter Try.func3, Try.ntmps3
    go_wp2_with fail
    refine (box_New_bad most H.out _).mono ?_; rintro e w1 ⟨rfl, rfl⟩
    go_wp2_with fail
    refine (box_New_good other ho0 (by omega) _).mono ?_; rintro e w2 ⟨gb, cb, rfl, hbb, hb2, hgb, hcb⟩
    clear hbb
    go_wp2_with fail
    refine (lives42 _).mono ?_; rintro e w3 ⟨rfl, hb3⟩
    go_wp2_with fail
    go_ret
    exact ⟨rfl, hb2.trans (hb3.mono hb2.size)⟩

theorem Box_walk (most other : Int) (A : Option Addr) (len cap : Nat) (l : List OpB) (w : World) (h : OpsB w A len l) :
    Calls Try.prog 3 #[.int .i64 most, .int .i64 other, .slice A len cap] w fun e w' => e = .returned (.bool true) ∧ Below w.heap.size w w' := by
  have hlen : len ≤ 9223372036854775807 := by
    have h1 := h.bd
    have h2 := h.len
    unfold maxLen at h1
    omega
  by_cases hd : 60 < (len : Int) ∨ other < 1 ∨ 50 < other
  · exact Box_dark most other A len cap w (by omega) hd
  · obtain ⟨o, rfl⟩ := Int.eq_ofNat_of_zero_le (show 0 ≤ other by omega)
    by_cases hb : most < 1 ∨ 65536 < most
    · exact Box_bad most o A len cap w (by omega) (by omega) (by omega) hb
    · obtain ⟨m, rfl⟩ := Int.eq_ofNat_of_zero_le (show 0 ≤ most by omega)
      exact Box_loop m o A len cap l w w (by omega) (by omega) (by omega) (by omega) h (by omega) rfl

section
variable {H : Type} {enc : TypeId × Value → H} {w : World} {base : Nat} {spare : Nat → Bool} {held : Bool}

theorem three_cells {cs : List Value} {a b c : Value} (h : cs.length = 3) (h0 : cs[0]? = some a) (h1 : cs[1]? = some b) (h2 : cs[2]? = some c) : [a, b, c] = cs := by
  rcases cs with _ | ⟨x, _ | ⟨y, _ | ⟨z, _ | ⟨u, r⟩⟩⟩⟩
  all_goals simp_all

theorem open_intcell (n : Nat) (cs : List Value) (x : DataW H × List MemPlace) (h : DataW.trod enc Try.prog w base spare held n 3 cs = some x) : ∃ y : Int, [Value.int .i64 y] = cs ∧ (Lit.int .i64 y).wf = true := by
  obtain ⟨y, e, _, hw⟩ := DataW.trod_int Try.underlying3 h
  exact ⟨y, e.symm, hw⟩

theorem ints_flat (ad : Addr) (l : List Int) (h : ∀ i y, l[i]? = some y → Row w (ad.add (i * 1)) [.int .i64 y]) : Row w ad (ints l) := by
  intro j v hv
  simp only [ints, List.getElem?_map, Option.map_eq_some_iff] at hv
  obtain ⟨y, hy, rfl⟩ := hv
  have := h j y hy 0 _ rfl
  rwa [add_add, Nat.mul_one, Nat.add_zero] at this

theorem open_opb (n : Nat) (cs : List Value) (x : DataW H × List MemPlace) (h : DataW.trod enc Try.prog w base spare held n 28 cs = some x) : ∃ y : OpB, y.cs = cs ∧ y.Ok w := by
  obtain ⟨xs, n', _, _, hlen, hxl, hf⟩ := DataW.trod_struct Try.underlying28 h
  have hl3 : cs.length = 3 := hlen.trans (by kernel_rfl)
  have hx : ∀ (i : Nat), i < 3 → ∃ z, xs[i]? = some z := fun i hi => ⟨xs[i]'(by rw [hxl]; exact hi), List.getElem?_eq_getElem _⟩
  have c1 : Try.prog.cellsOf 3 = 1 := by kernel_rfl
  have c2 : Try.prog.cellsOf 26 = 1 := by kernel_rfl
  obtain ⟨z0, h0⟩ := hx 0 (by omega)
  obtain ⟨z1, h1⟩ := hx 1 (by omega)
  obtain ⟨z2, h2⟩ := hx 2 (by omega)
  have g0 : DataW.trod enc Try.prog w base spare held n' 3 ((cs.drop 0).take (Try.prog.cellsOf 3)) = some z0 := (hf 0 _ rfl).trans h0
  have g1 : DataW.trod enc Try.prog w base spare held n' 3 ((cs.drop 1).take (Try.prog.cellsOf 3)) = some z1 := (hf 1 _ rfl).trans h1
  have g2 : DataW.trod enc Try.prog w base spare held n' 26 ((cs.drop 2).take (Try.prog.cellsOf 26)) = some z2 := (hf 2 _ rfl).trans h2
  rw [c1] at g0 g1
  rw [c2] at g2
  obtain ⟨kind, e0, _, w0⟩ := DataW.trod_int Try.underlying3 g0
  obtain ⟨nn, e1, _, w1⟩ := DataW.trod_int Try.underlying3 g1
  obtain ⟨A, len, cap, e2⟩ : ∃ A len cap, (cs.drop 2).take 1 = [Value.slice A len cap] := by
    rcases open_slice Try.underlying26 g2 with ⟨hcs, _⟩ | ⟨ad, len', cap', m, n, D, Pl, hcs, _⟩
    · exact ⟨_, _, _, hcs⟩
    · exact ⟨_, _, _, hcs⟩
  rw [e2] at g2
  obtain ⟨l, rfl, hlc, hcm, hnone, hok, hrow⟩ := open_rows (size := 1) (fun y : Int => [Value.int .i64 y]) (fun y => (Lit.int .i64 y).wf = true) Try.underlying26 (by kernel_rfl) (by omega) (fun _ _ => rfl) 0 open_intcell g2
  refine ⟨⟨kind, nn, A, cap, l⟩, ?_, ⟨fun ha => List.eq_nil_of_length_eq_zero (hnone ha).1, fun ad ha => ints_flat ad l fun i y hy => ?_⟩, (wf_i64 w1).1, (wf_i64 w1).2, hlc, hcm, fun ad ha hne => ?_⟩
  · have d0 := drop_take_one e0
    have d1 := drop_take_one e1
    have d2 := drop_take_one e2
    exact three_cells hl3 d0 d1 d2
  · obtain ⟨ad', ha', _, hr⟩ := hrow i y hy
    obtain rfl : ad = ad' := Option.some.inj ((show some ad = A from ha.symm).trans ha')
    exact hr
  · cases l with
    | nil => exact absurd rfl hne
    | cons y l =>
      obtain ⟨ad', ha', hlt, _⟩ := hrow 0 y rfl
      obtain rfl : ad = ad' := Option.some.inj ((show some ad = A from ha.symm).trans ha')
      exact hlt
end

set_option maxRecDepth 100000 in
theorem BoxPlays_lifted (os : Os) (started : os.Started) (H : Type) (enc : TypeId × Value → H) :
    ReturnsInHanded {} Try.checked os 3 .any (Rows.boxPlaysSpec.pre6 enc Try.prog Try.f3 Rows.boxPlaysRow.domain false) (Rows.boxPlaysSpec.post enc Try.prog Try.f3 false true false false) := by
  refine Lift.law (C := Try.checked) (n := 3) Lift.own started (by kernel_rfl) Try.func3 Lift.laidOut (by kernel_rfl) rfl Try.underlying4 rfl rfl ?_
    (ChangeSpec.witness6 (enc := enc) (C := Try.checked) false ⟨#[], #[.int .i64 0, .int .i64 0, .slice none 0 0], []⟩ 8 (by kernel_rfl) (by kernel_rfl) (by kernel_rfl) (by kernel_rfl)) ?_
  · intro ds hd
    match ds, hd with
    | [_, _, _], _ => rfl
  intro W base args ds ps hval0 hA _
  have hval : ∀ (j : Nat) t v, Try.f3.params[j]? = some t → args[j]? = some v → Value.okWide Try.prog W .any base t v := hval0
  rw [Try.params3] at hA hval
  obtain ⟨v0, vs0, d0, ds0, p0, q0, hargs, rfl, rfl, h0, r0⟩ := trodAll_cons hA
  obtain ⟨v1, vs1, d1, ds1, p1, q1, rfl, rfl, rfl, h1, r1⟩ := trodAll_cons r0
  obtain ⟨v2, vs2, d2, ds2, p2, q2, rfl, rfl, rfl, h2, r2⟩ := trodAll_cons r1
  obtain ⟨rfl, rfl, rfl⟩ := trodAll_nil r2
  obtain rfl : args = #[v0, v1, v2] := by cases args; simp_all
  obtain ⟨a0, rfl, rfl, rfl, w0⟩ := open_int Try.underlying3 (hval 0 3 v0 rfl rfl) h0
  obtain ⟨a1, rfl, rfl, rfl, w1⟩ := open_int Try.underlying3 (hval 1 3 v1 rfl rfl) h1
  obtain ⟨ad, len, cap, rfl⟩ := okWide_slice Try.underlying22 (hval 2 22 v2 rfl rfl)
  obtain ⟨fuel, hf⟩ := h2
  obtain ⟨l, hl, hlc, hcm, _, hok, hrow⟩ := open_rows (size := 3) OpB.cs (fun y => y.Ok W) Try.underlying22 (by kernel_rfl) (by omega) (fun _ _ => rfl) ⟨0, 0, none, 0, []⟩ open_opb hf
  exact Box_walk a0 a1 ad len cap l W ⟨hl, by omega, fun i x hx => by
    obtain ⟨ad', ha, hlt, hr⟩ := hrow i x hx
    exact ⟨ad', ha, hlt, hr, hok x (List.mem_of_getElem? hx)⟩⟩

theorem BoxPlays_holds : Rows.BoxPlaysSaid :=
  OpenClaim.holds_of_wide 3 Try.f3 rfl rfl rfl rfl rfl rfl rfl ⟨rfl, rfl, rfl, rfl, rfl⟩ rfl rfl rfl rfl rfl (by kernel_rfl) Try.func3 (by kernel_rfl)
    (of_decide_eq_true (by kernel_rfl)) (by unfold Func.isWrapper; first | (rw [if_pos (by decide +kernel)]; kernel_rfl) | (rw [if_neg (by decide +kernel)]; exact ⟨rfl, rfl⟩))
    (fun os started H enc _ => BoxPlays_lifted os started H enc)
#print axioms BoxPlays_holds
end Go.Proofs.Ythcflakdimedpaa
