/-
  DecayLess: whatever the input, signpostlaw21.DecayLess returns true and leaves its arguments as they were. Conditions: none.
-/
import Derived.Test.YtjdmbegmbffhfaaDecayC
import Derived.Test.YtjdmbegmbffhfaaOpenIns
import Derived.Test.YtjdmbegmbffhfaaLift
namespace Go.Proofs.Ytjdmbegmbffhfaa
open Go.ChangeShapes Go.WideShapes Go.ChangeAt Go.RowKit

theorem share_less (life r o k : Int) (h0 : 0 ≤ life) (h : r ≤ o) : share life o k ≤ share life r k := by
  unfold share
  by_cases hr : r < k
  · rw [if_pos hr]
    split
    · omega
    · exact (pow_bd life h0 _).2
  · rw [if_neg hr, if_neg (by omega)]
    have hm : min 64 (r - k + 1).toNat ≤ min 64 (o - k + 1).toNat := by omega
    obtain ⟨d, hd⟩ : ∃ d, min 64 (o - k + 1).toNat = min 64 (r - k + 1).toNat + d := ⟨_, (Nat.add_sub_of_le hm).symm⟩
    rw [hd, Int.pow_add, ← Int.ediv_ediv_of_nonneg (Int.pow_nonneg (by omega))]
    exact (pow_bd _ (pow_bd life h0 _).1 _).2

theorem until_facts (l : List Ins) (hok : ∀ x ∈ l, x.Ok) (now rank k : Int) (n0 : 0 ≤ now) (n1 : now ≤ 18446744073709551615) :
    now ≤ untilOf l now rank k ∧ untilOf l now rank k ≤ 18446744073709551615 ∧ (lastOf l ≤ now → untilOf l now rank k = now) ∧ (now < lastOf l → untilOf l now rank k ≤ lastOf l) := by
  obtain ⟨l0, l1⟩ := lastOf_bd l hok
  obtain ⟨t0, t1⟩ := share_bd (lastOf l - min (lastOf l) now) rank k (by omega)
  unfold untilOf
  refine ⟨by omega, by omega, fun h => ?_, fun h => by omega⟩
  have : lastOf l - min (lastOf l) now = 0 := by omega
  omega

/-- What the four numbers of the law are to one another. -/
structure LessFacts (now rank other A B U L : Int) : Prop where
  hab : rank ≤ other → B ≤ A
  u0 : now ≤ U
  u1 : U ≤ 18446744073709551615
  low : L ≤ now → U = now
  high : now < L → U ≤ L
  l0 : 0 ≤ L
  l1 : L ≤ 18446744073709551615

set_option maxRecDepth 100000 in
set_option maxHeartbeats 1000000 in
theorem DecayLess_light (life now rank other k A B U L : Int) (a : Option Addr) (len cap : Nat) (w : World)
    (h1 : life ≤ 18446744073709551615) (n0 : 0 ≤ now) (n1 : now ≤ 18446744073709551615)
    (a0 : 0 ≤ A) (a1 : A ≤ life) (b0 : 0 ≤ B) (b1 : B ≤ life) (F : LessFacts now rank other A B U L)
    (cL : Hid (∀ W, Below w.heap.size w W → Calls Try.prog 14 #[.slice a len cap] W fun e w' => e = .returned (.bool true) ∧ Below W.heap.size W w'))
    (cA : Hid (∀ W, Calls Try.prog 16 #[.int .u64 life, .int .i64 rank, .int .i64 k] W fun e w' => e = .returned (.int .u64 A) ∧ Below W.heap.size W w'))
    (cB : Hid (∀ W, Calls Try.prog 16 #[.int .u64 life, .int .i64 other, .int .i64 k] W fun e w' => e = .returned (.int .u64 B) ∧ Below W.heap.size W w'))
    (cX : Hid (∀ W, Below w.heap.size w W → Calls Try.prog 17 #[.slice a len cap] W fun e w' => e = .returned (.int .u64 L) ∧ Below W.heap.size W w'))
    (cU : Hid (∀ W, Below w.heap.size w W → Calls Try.prog 18 #[.slice a len cap, .int .u64 now, .int .i64 rank, .int .i64 k] W fun e w' => e = .returned (.int .u64 U) ∧ Below W.heap.size W w')) :
    Calls Try.prog 3 #[.int .u64 life, .int .u64 now, .int .i64 rank, .int .i64 other, .int .i64 k, .slice a len cap] w fun e w' => e = .returned (.bool true) ∧ Below w.heap.size w w' := by
  obtain ⟨f1, f2, f3, f4, f5, l0, l1⟩ := F
  have u0 : 0 ≤ U := by omega
  have hA1 : A ≤ 18446744073709551615 := by omega
  have hB1 : B ≤ 18446744073709551615 := by omega
  have hq : ∀ c : Prop, [Decidable c] → c → decide c = true := fun c _ h => by simp [h]
  have hcase : (rank ≤ other ∧ B ≤ A ∨ other < rank) ∧ (L ≤ now ∧ (U == now) = true ∨ now < L ∧ U ≤ L) := by
    refine ⟨?_, ?_⟩
    · by_cases h : rank ≤ other
      · exact .inl ⟨h, f1 h⟩
      · exact .inr (by omega)
    · by_cases h : L ≤ now
      · exact .inl ⟨h, by rw [f4 h]; simp⟩
      · exact .inr ⟨by omega, f5 (by omega)⟩
  clear f1 f4 f5 hq
  obtain ⟨hc1, hc2⟩ := hcase
  rcases hc1 with ⟨c1, c2⟩ | c1 <;> rcases hc2 with ⟨c3, c4⟩ | ⟨c3, c4⟩
  all_goals
    go_enter Try.func3, Try.ntmps3
    go_wp2_with fail
    refine (cL.out _ (Below.refl _ _)).mono ?_; rintro e w1 ⟨rfl, hb1⟩
    go_wp2_with fail
    refine (cA.out _).mono ?_; rintro e w2 ⟨rfl, hb2⟩
    have hb2 := hb1.trans (hb2.mono hb1.size)
    go_wp2_with fail
    refine (cB.out _).mono ?_; rintro e w3 ⟨rfl, hb3⟩
    have hb3 := hb2.trans (hb3.mono hb2.size)
    go_wp2_with fail
    refine (cX.out _ hb3).mono ?_; rintro e w4 ⟨rfl, hb4⟩
    have hb4 := hb3.trans (hb4.mono hb3.size)
    go_wp2_with fail
    refine (cU.out _ hb4).mono ?_; rintro e w5 ⟨rfl, hb5⟩
    have hb5 := hb4.trans (hb5.mono hb4.size)
    go_wp2_with fail
    refine (lives21 _).mono ?_; rintro e w6 ⟨rfl, hb6⟩
    have hb6 := hb5.trans (hb6.mono hb5.size)
    go_wp2_with fail
    go_ret
    exact ⟨rfl, hb6⟩

theorem Insts.later {w W : World} {a : Option Addr} {len : Nat} {l : List Ins} (h : Insts w w.heap.size a len l) (hb : Below w.heap.size w W) : Insts W W.heap.size a len l :=
  ⟨h.len, h.ok, h.bd, fun i x hx => by
    obtain ⟨ad, e, hl, hr⟩ := h.at_ i x hx
    exact ⟨ad, e, Nat.lt_of_lt_of_le hl hb.size, hr.below hb (by rw [add_block]; exact hl)⟩⟩

set_option maxHeartbeats 400000 in
theorem DecayLess_dark (life now rank other k : Int) (a : Option Addr) (len cap : Nat) (w : World)
    (cL : Hid (∀ W, Below w.heap.size w W → Calls Try.prog 14 #[.slice a len cap] W fun e w' => e = .returned (.bool false) ∧ Below W.heap.size W w')) :
    Calls Try.prog 3 #[.int .u64 life, .int .u64 now, .int .i64 rank, .int .i64 other, .int .i64 k, .slice a len cap] w fun e w' => e = .returned (.bool true) ∧ Below w.heap.size w w' := by
  go_enter Try.func3, Try.ntmps3
  go_wp2_with fail
  refine (cL.out _ (Below.refl _ _)).mono ?_; rintro e w1 ⟨rfl, hb1⟩
  go_wp2_with fail
  refine (lives21 _).mono ?_; rintro e w6 ⟨rfl, hb6⟩
  go_wp2_with fail
  go_ret
  exact ⟨rfl, hb1.trans (hb6.mono hb1.size)⟩

theorem DecayLess_walk (life now rank other k : Int) (a : Option Addr) (len cap : Nat) (l : List Ins) (w : World)
    (h0 : 0 ≤ life) (h1 : life ≤ 18446744073709551615) (n0 : 0 ≤ now) (n1 : now ≤ 18446744073709551615) (r0 : -9223372036854775808 ≤ rank) (r1 : rank ≤ 9223372036854775807) (o0 : -9223372036854775808 ≤ other) (o1 : other ≤ 9223372036854775807)
    (k0 : -9223372036854775808 ≤ k) (k1 : k ≤ 9223372036854775807) (h : Insts w w.heap.size a len l) :
    Calls Try.prog 3 #[.int .u64 life, .int .u64 now, .int .i64 rank, .int .i64 other, .int .i64 k, .slice a len cap] w fun e w' => e = .returned (.bool true) ∧ Below w.heap.size w w' := by
  cases hl : lightB l with
  | false =>
    exact DecayLess_dark life now rank other k a len cap w (Lib.hid fun W hW => hl ▸ Light_any a len cap l W (h.later hW))
  | true =>
    obtain ⟨f1, f2, f3, f4⟩ := until_facts l h.ok now rank k n0 n1
    obtain ⟨l0, l1⟩ := lastOf_bd l h.ok
    obtain ⟨a0, a1⟩ := share_bd life rank k h0
    obtain ⟨b0, b1⟩ := share_bd life other k h0
    exact DecayLess_light life now rank other k (share life rank k) (share life other k) (untilOf l now rank k) (lastOf l) a len cap w h1 n0 n1 a0 a1 b0 b1
      ⟨share_less life rank other k h0, f1, f2, f3, f4, l0, l1⟩
      (Lib.hid fun W hW => hl ▸ Light_any a len cap l W (h.later hW))
      (Lib.hid fun W => Share_any life rank k h0 h1 r0 r1 k0 k1 W)
      (Lib.hid fun W => Share_any life other k h0 h1 o0 o1 k0 k1 W)
      (Lib.hid fun W hW => Last_any a len cap l W (h.later hW))
      (Lib.hid fun W hW => Until_any a len cap l now rank k n0 n1 r0 r1 k0 k1 W (h.later hW))

theorem wf_u64 {n : Int} (h : (Lit.int .u64 n).wf = true) : 0 ≤ n ∧ n ≤ 18446744073709551615 := by
  have hb := wf_bd h
  rwa [show IntKind.u64.min = 0 by decide, show IntKind.u64.max = 18446744073709551615 by decide] at hb
theorem wf_i64 {n : Int} (h : (Lit.int .i64 n).wf = true) : -9223372036854775808 ≤ n ∧ n ≤ 9223372036854775807 := by
  have hb := wf_bd h
  rwa [show IntKind.i64.min = -9223372036854775808 by decide, show IntKind.i64.max = 9223372036854775807 by decide] at hb

set_option maxRecDepth 100000 in
theorem DecayLess_lifted (os : Os) (started : os.Started) (H : Type) (enc : TypeId × Value → H) :
    ReturnsInHanded {} Try.checked os 3 .any (Rows.decayLessSpec.pre6 enc Try.prog Try.f3 Rows.decayLessRow.domain false) (Rows.decayLessSpec.post enc Try.prog Try.f3 false true false false) := by
  refine Lift.law (C := Try.checked) (n := 6) Lift.own started (by kernel_rfl) Try.func3 Lift.laidOut (by kernel_rfl) rfl Try.underlying4 rfl rfl ?_
    (ChangeSpec.witness6 (enc := enc) (C := Try.checked) false ⟨#[], #[.int .u64 0, .int .u64 0, .int .i64 0, .int .i64 0, .int .i64 0, .slice none 0 0], []⟩ 8 (by kernel_rfl) (by kernel_rfl) (by kernel_rfl) (by kernel_rfl)) ?_
  · intro ds hd
    match ds, hd with
    | [_, _, _, _, _, _], _ => rfl
  intro W base args ds ps hval0 hA _
  have hval : ∀ (j : Nat) t v, Try.f3.params[j]? = some t → args[j]? = some v → Value.okWide Try.prog W .any base t v := hval0
  rw [Try.params3] at hA hval
  obtain ⟨v0, vs0, d0, ds0, p0, q0, hargs, rfl, rfl, h0, r0⟩ := trodAll_cons hA
  obtain ⟨v1, vs1, d1, ds1, p1, q1, rfl, rfl, rfl, h1, r1⟩ := trodAll_cons r0
  obtain ⟨v2, vs2, d2, ds2, p2, q2, rfl, rfl, rfl, h2, r2⟩ := trodAll_cons r1
  obtain ⟨v3, vs3, d3, ds3, p3, q3, rfl, rfl, rfl, h3, r3⟩ := trodAll_cons r2
  obtain ⟨v4, vs4, d4, ds4, p4, q4, rfl, rfl, rfl, h4, r4⟩ := trodAll_cons r3
  obtain ⟨v5, vs5, d5, ds5, p5, q5, rfl, rfl, rfl, h5, r5⟩ := trodAll_cons r4
  obtain ⟨rfl, rfl, rfl⟩ := trodAll_nil r5
  obtain rfl : args = #[v0, v1, v2, v3, v4, v5] := by cases args; simp_all
  obtain ⟨a0, rfl, rfl, rfl, w0⟩ := open_int Try.underlying22 (hval 0 22 v0 rfl rfl) h0
  obtain ⟨a1, rfl, rfl, rfl, w1⟩ := open_int Try.underlying22 (hval 1 22 v1 rfl rfl) h1
  obtain ⟨a2, rfl, rfl, rfl, w2⟩ := open_int Try.underlying3 (hval 2 3 v2 rfl rfl) h2
  obtain ⟨a3, rfl, rfl, rfl, w3⟩ := open_int Try.underlying3 (hval 3 3 v3 rfl rfl) h3
  obtain ⟨a4, rfl, rfl, rfl, w4⟩ := open_int Try.underlying3 (hval 4 3 v4 rfl rfl) h4
  obtain ⟨ad, len, cap, rfl⟩ := okWide_slice Try.underlying23 (hval 5 23 v5 rfl rfl)
  obtain ⟨l, hl⟩ := open_insts h5
  have b0 := wf_u64 w0
  have b1 := wf_u64 w1
  have b2 := wf_i64 w2
  have b3 := wf_i64 w3
  have b4 := wf_i64 w4
  exact DecayLess_walk a0 a1 a2 a3 a4 ad len cap l W b0.1 b0.2 b1.1 b1.2 b2.1 b2.2 b3.1 b3.2 b4.1 b4.2 hl

theorem DecayLess_holds : Rows.DecayLessSaid :=
  OpenClaim.holds_of_wide 3 Try.f3 rfl rfl rfl rfl rfl rfl rfl ⟨rfl, rfl, rfl, rfl, rfl⟩ rfl rfl rfl rfl rfl (by kernel_rfl) Try.func3 (by kernel_rfl)
    (of_decide_eq_true (by kernel_rfl)) (by unfold Func.isWrapper; first | (rw [if_pos (by decide +kernel)]; kernel_rfl) | (rw [if_neg (by decide +kernel)]; exact ⟨rfl, rfl⟩))
    (fun os started H enc _ => DecayLess_lifted os started H enc)
#print axioms DecayLess_holds
end Go.Proofs.Ytjdmbegmbffhfaa
