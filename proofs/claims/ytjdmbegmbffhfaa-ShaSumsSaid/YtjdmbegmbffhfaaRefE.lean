/-
  The walk of ShaSums. Conditions: the argument reads as bytes.
-/
import Derived.Test.YtjdmbegmbffhfaaRefD
import Derived.Test.YtjdmbegmbffhfaaShaL
import Derived.Test.YtjdmbegmbffhfaaIdEq
namespace Go.Proofs.Ytjdmbegmbffhfaa
open Go.RowKit

set_option maxRecDepth 100000 in
set_option maxHeartbeats 1600000 in
theorem Sums_walk (A : Option Addr) (len cap : Nat) (l : List UInt8) (hlen : len = l.length) (hll : len ≤ maxLen) (n : Nat) (hn : n ≤ 18446744073709551615) (w : World) (h : Bytes w A l) :
    Calls Try.prog 4 #[.slice A len cap, .int .u64 (n : Int)] w fun e w' => e = .returned (.bool true) ∧ Below w.heap.size w w' := by
  unfold maxLen at hll
  by_cases hbig : (3000 : Int) < (len : Int)
  · clear h hlen
    go_enter Try.func4, Try.ntmps4
    go_wp2_with fail
    refine (lives02 _).mono ?_; rintro e w3 ⟨rfl, hb3⟩
    go_wp2_with fail
    go_ret
    exact ⟨rfl, hb3⟩
  · have hlb : len ≤ 1048576 := by omega
    have s1 := fun w' (hb : Below w.heap.size w w') => sha_Sum A cap l len hlen hlb w' (h.below hb)
    have s2 := fun w' (hb : Below w.heap.size w w') => ref_Sum A cap l len hlen hlb w' (h.below hb)
    have heq := fun w' => eql_ID w' (shaB l) (shaB l) (shaB_length l) (shaB_length l)
    simp only [decide_true] at heq
    generalize (bytesV (shaB l)).toArray = X at *
    have S1 := Lib.hid s1
    have S2 := Lib.hid s2
    have p1 := fun w' => sha_Pad n hn w'
    have p2 := fun w' => ref_Pad n hn w'
    have cv := fun w' v base => conv_bytes w' v base (padB n)
    generalize padB n = P at *
    generalize (⟨P.toArray⟩ : ByteArray) = S at *
    have P1 := Lib.hid p1
    have P2 := Lib.hid p2
    have CV := Lib.hid cv
    clear s1 s2 p1 p2 cv h hlen
    go_enter Try.func4, Try.ntmps4
    go_wp2_with fail
    go_region_law (first
      | (go_simp; go_at_call 20; refine (S1.out w.drew ⟨rfl, rfl, rfl, Nat.le_refl _, fun _ _ => rfl⟩).mono ?_; rintro e w1 ⟨rfl, hb1⟩; replace hb1 : Below w.heap.size w w1 := ⟨hb1.os, hb1.tape, hb1.output, hb1.size, hb1.block⟩)
      | (go_simp; go_at_call 21; refine (S2.out _ hb1).mono ?_; rintro e w2 ⟨rfl, hb2⟩; replace hb2 := hb1.trans (hb2.mono hb1.size))
      | (go_simp; go_at_call 22; refine (P1.out _).mono ?_; rintro e w3 ⟨v3, rfl, hsl3, hb3⟩; have hb3' := hb2.trans (hb3.mono hb2.size); have hc3 := CV.out _ _ _ hsl3)
      | (go_simp; go_at_call 23; refine (P2.out _).mono ?_; rintro e w4 ⟨v4, rfl, hsl4, hb4⟩; have hb4' := hb3'.trans (hb4.mono hb3'.size); have hc4 := CV.out _ _ _ hsl4; have hc5 := CV.out _ _ _ (SL.later hsl3 hb4))
      | (go_simp; go_at_call 19; refine (lives02 _).mono ?_; rintro e w5 ⟨rfl, hb5⟩; have hb5' := hb4'.trans (hb5.mono hb4'.size)))
    all_goals
      go_wp2_with fail
      go_ret
      exact ⟨rfl, hb5'⟩
end Go.Proofs.Ytjdmbegmbffhfaa
