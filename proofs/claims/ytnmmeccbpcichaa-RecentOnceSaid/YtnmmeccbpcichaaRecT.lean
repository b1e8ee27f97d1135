/-
  A list's All at int keys, and signpostlaw18.told: all keys, the oldest first. Conditions: at most a hundred keys.
-/
import Derived.RangeFuncNested
import Derived.RangeFuncBound
import Derived.RangeFuncCalls
import Derived.RangeFuncLeaves
import Derived.RangeFuncBox
import Derived.Shelf.Abstract
import Derived.Shelf.RegionOpen
import Derived.WalkKit
import Derived.OwnWalkIn
import Derived.TacticsInMore
import Derived.LoopNIn
import Derived.LoopIn
import Derived.Maps.AppendAt
import Derived.Test.YtnmmeccbpcichaaRecIC
namespace Go.Proofs.Ytnmmeccbpcichaa
open Go.RowKit Go.Shelf

attribute [local go_sem] Oper.semAt_some

set_option maxRecDepth 100000 in
set_option maxHeartbeats 1000000 in
theorem recI_iter (n : Nat) (hn : 1 ≤ n) (l Bn n₀ p : Nat) (most : Int) (ns : List (kitI.α × Nat)) (J Jx : List KeyI → World → Prop) (h1 : 1 ≤ most)
    (hY : ∀ pre x W, J pre W → pre.length < ns.length → YieldAt Fence.wide (n - 1) Try.prog l #[.int .i64 x.1] W fun e W' =>
      (e = .returned (.bool true) ∧ J (pre ++ [x]) W' ∧ Below n₀ W W') ∨ (e = .returned (.bool false) ∧ Jx (pre ++ [x]) W'))
    (W : World) (hBn : W.cell? ⟨Bn, 0, none⟩ = some (.pointer (some ⟨p, 0, none⟩))) (c0 : W.cell? ⟨p, 0, none⟩ = some (.int .i64 most)) (c2 : W.cell? ⟨p, 2, none⟩ = some (bp (hd ns none))) (hF : From kitI n₀ W (hd ns none) ns) (h0 : J [] W) :
    CallsIn Fence.wide n Try.prog 86 #[.func (.yield l) #[] #[], .pointer (some ⟨Bn, 0, none⟩)] W fun e W' => (∃ v, e = .returned v) ∧
      ((∃ ys, ys = ns.map (·.1) ∧ J ys W') ∨ (∃ pre, pre <+: ns.map (·.1) ∧ Jx pre W')) := by
  have HF := Lib.hid hF
  have HY := Lib.hid hY
  have HJ := Lib.hid h0
  have hN := Lib.hid (recI_none p most h1 W c0)
  clear hF hY h0
  refine callsIn_of_wp Try.func86 rfl trivial ?_ rfl
  simp only [Try.ntmps86, List.size_toArray, List.length_cons, List.length_nil, Nat.reduceAdd, Nat.reduceSub, Array.replicate_succ, Array.replicate_zero, List.push_toArray, List.append_toArray, List.nil_append, List.cons_append]
  gi_wp2_with (refine ⟨trivial, ?_⟩; gi_at_call 49; refine (callsIn_wide.2 hN.out).mono ?_; rintro e w' ⟨rfl, rfl⟩)
  gi_loopw [3] (fun q wr => ∃ (pre rest : List (kitI.α × Nat)) (b : Option Nat), q = bp b ∧ Hid (ns = pre ++ rest) ∧ Hid (From kitI n₀ wr b rest) ∧ Hid (J (pre.map (·.1)) wr))
    (fun q wr => leftOf kitI n₀ wr q)
  case atStart => exact ⟨[], ns, hd ns none, rfl, Lib.hid rfl, HF, HJ⟩
  case round =>
    obtain ⟨pre, rest, b, rfl, hx, hl, hJs⟩ := hrel
    cases rest with
    | nil =>
      have e : b = none := hl.out.1
      subst e
      rw [show bp none = Value.pointer none from rfl]
      gi_wp2
      go_end0
      exact ⟨⟨_, rfl⟩, .inl (by rw [hx.out, List.append_nil]; exact hJs.out)⟩
    | cons x rest =>
      have e : b = some x.2 := hl.out.1
      subst e
      obtain ⟨_, ⟨o, hseg⟩, hlt⟩ := hl.out
      rw [show bp (some x.2) = Value.pointer (some ⟨x.2, 0, none⟩) from rfl]
      obtain ⟨_, x1, _, _, xk⟩ := hseg.1.cells
      have hk0 : wr.cell? ⟨x.2, 0, none⟩ = some (.int .i64 x.1.1) := xk 0 (by decide)
      obtain ⟨fn, tmps, assign, body, hy, hR⟩ := HY.out _ x.1 wr hJs.out (by rw [hx.out]; simp)
      have HR := Lib.hid hR
      have HX1 : Hid (wr.cell? ⟨x.2, 2, none⟩ = some (bp (hd rest none))) := Lib.hid x1
      have HLT := Lib.hid hlt
      have HSEG := Lib.hid hseg
      clear xk x1 hseg hlt hR
      gi_wp2
      refine HR.out.mono ?_
      rintro e W3 (⟨rfl, hJ3, hk3⟩ | ⟨rfl, hJx3⟩)
      · have hq3 : W3.cell? ⟨x.2, 2, none⟩ = some (bp (hd rest none)) := (hk3.cell (p := ⟨x.2, 2, none⟩) (HLT.out x (by simp))).trans HX1.out
        have hF3 : From kitI n₀ W3 (hd rest none) rest := From.below hk3 ⟨rfl, ⟨_, HSEG.out.2⟩, fun y hy => HLT.out y (by simp [hy])⟩
        have HF3 := Lib.hid hF3
        have HJ3 := Lib.hid hJ3
        clear hF3 hJ3 hk3
        gi_wp2
        go_roundw
        case rel => exact ⟨pre ++ [x], rest, hd rest none, rfl, Lib.hid (by rw [hx.out]; simp), HF3, Lib.hid (by simpa using HJ3.out)⟩
        case measure => rw [leftOf_eq HF3.out, show Value.pointer (some ⟨x.2, 0, none⟩) = bp (some x.2) from rfl, leftOf_eq hl.out]; simp
      · gi_wp2
        refine bodyPost_ret (results_none rfl _ _ _) rfl ?_
        exact ⟨⟨_, rfl⟩, .inr ⟨pre.map (·.1) ++ [x.1], ⟨rest.map (·.1), by rw [hx.out]; simp⟩, hJx3⟩⟩

set_option maxHeartbeats 1000000 in
theorem recI_all (n : Nat) (p0 : Option Addr) (w : World) :
    CallsIn Fence.wide n Try.prog 52 #[.pointer p0] w fun e w' => e = .returned (.func (.func 86) #[] #[.pointer (some ⟨w.heap.size, 0, none⟩)]) ∧ w' = w.alloc (.cells #[.pointer p0] 24) := by
  refine callsIn_of_wp Try.func52 rfl trivial ?_ rfl
  simp only [Try.ntmps52, List.size_toArray, List.length_cons, List.length_nil, Nat.reduceAdd, Nat.reduceSub, Array.replicate_succ, Array.replicate_zero, List.push_toArray, List.append_toArray, List.nil_append, List.cons_append]
  gi_wp2
  go_ret
  exact ⟨rfl, rfl⟩

/-- All keys, the oldest first, as an iterator. -/
theorem recI_stops (n : Nat) (hn : 1 ≤ n) (Bn n₀ p m : Nat) (most : Int) (ns : List (kitI.α × Nat)) (D : DataW Unit) (w : World) (hBn : Bn < w.heap.size) (hn₀ : n₀ ≤ w.heap.size)
    (hc : w.cell? ⟨Bn, 0, none⟩ = some (.pointer (some ⟨p, 0, none⟩))) (hL : LstW kitI w p m most ns D) (hlt : ∀ i, foot p m ns i → i < n₀) :
    SeqStopsK Fence.wide n Try.prog 86 #[.pointer (some ⟨Bn, 0, none⟩)] (fun x : KeyI => #[Value.int .i64 x.1]) (Below n₀) (fun ys => ys = ns.map (·.1)) (fun pre => pre <+: ns.map (·.1)) ns.length w := fun l J Jx W hW _ _ hY h0 => by
  have hb : Below n₀ w W := hW.mono hn₀
  have hp : p < n₀ := hlt p (Or.inl rfl)
  exact recI_iter n hn l Bn n₀ p most ns J Jx hL.mo hY W ((hW.cell (p := ⟨Bn, 0, none⟩) hBn).trans hc) ((hb.cell (p := ⟨p, 0, none⟩) hp).trans hL.shape.cells.1) ((hb.cell (p := ⟨p, 2, none⟩) hp).trans hL.shape.cells.2.2.1)
    (From.below hb ⟨rfl, ⟨_, hL.shape.seg⟩, fun x hx => hlt _ (Or.inr (Or.inr (mem_blks hx)))⟩) h0
end Go.Proofs.Ytnmmeccbpcichaa
