/-
  The walk of IdentSorts. Conditions: fewer than half a million ids.
-/
import Derived.Test.YtjdmbegmbffhfaaSrtQ
import Derived.Test.YtjdmbegmbffhfaaIdC
namespace Go.Proofs.Ytjdmbegmbffhfaa
open Go.RowKit Go.Sort Go.Lib

/-- The worlds of the walk's loop. -/
structure LawW (w0 : World) (g : Nat) (r : List Id20) (q : Option Addr) (l : List Id20) (w : World) : Prop where
  a : IB w g (l ++ r).toArray
  b : IdRow w q l.toArray
  bb : ∀ a, q = some a → a.block < w.heap.size
  bel : Below w0.heap.size w0 w
theorem LawW.below {w0 w w' : World} {g : Nat} {r : List Id20} {q : Option Addr} {l : List Id20} (h : LawW w0 g r q l w) (hb : Below w.heap.size w w') : LawW w0 g r q l w' :=
  ⟨h.a.below hb, h.b.below hb h.bb, fun a ha => Nat.lt_of_lt_of_le (h.bb a ha) hb.size, h.bel.trans (hb.mono h.bel.size)⟩
/-- .. within a round. -/
structure RoundW (w0 : World) (g : Nat) (r : List Id20) (q : Option Addr) (l : List Id20) (B : Nat) (x : Id20) (w : World) : Prop where
  law : LawW w0 g r q l w
  box : Row w ⟨B, 0, none⟩ (bytesV x.1)
theorem RoundW.drew {w0 w : World} {g : Nat} {r : List Id20} {q : Option Addr} {l : List Id20} {B : Nat} {x : Id20} (h : RoundW w0 g r q l B x w) : RoundW w0 g r q l B x w.drew :=
  ⟨⟨h.law.a, ⟨h.law.b.none_, h.law.b.row⟩, h.law.bb, below_drewN h.law.bel 1⟩, h.box⟩

set_option maxRecDepth 100000 in
set_option maxHeartbeats 4000000 in
theorem Sorts_walk (p : Option Addr) (d : Array Id20) (cap : Nat) (w : World) (hp : IdRow w p d) (hpb : ∀ a, p = some a → a.block < w.heap.size) :
    Calls Try.prog 13 #[.slice p d.size cap] w fun e w' => e = .returned (.bool true) ∧ Below w.heap.size w w' := by
  have HLV := Lib.hid (fun w => lives03 w)
  by_cases hbig : 60 < d.size
  · have hb1 : (60 : Int) < (d.size : Int) := by omega
    clear hp hpb
    go_enter Try.func13, Try.ntmps13
    go_wp2_with (go_at_call 31; refine (HLV.out _).mono ?_; rintro e w' ⟨rfl, hbx⟩)
    go_ret
    exact ⟨rfl, hbx⟩
  · have hb1 : ¬ (60 : Int) < (d.size : Int) := by omega
    have HP := Lib.hid hp
    have HPB := Lib.hid hpb
    have hS := ident_Sort p d cap w hp hpb (by omega)
    have hPA := putAll_near d
    obtain ⟨l, hl⟩ : ∃ l, nearD (List.replicate 20 0) d = l := ⟨_, rfl⟩
    rw [hl] at hS hPA
    have hlen : l.length ≤ d.size := by rw [← hPA]; exact putAll_length d d.size
    have HPA := Lib.hid hPA
    have HS := Lib.hid hS
    clear hp hpb hS hPA hl
    go_enter Try.func13, Try.ntmps13
    go_wp2_with fail
    refine HS.out.mono ?_
    rintro e w1 ⟨rfl, hb2, hi2⟩
    have HI := Lib.hid hi2
    have HB := Lib.hid hb2
    have hpl := law_Plain p d cap w1 (HP.out.below hb2 HPB.out) (fun a ha => Nat.lt_of_lt_of_le (HPB.out a ha) hb2.size) (by omega)
    have HPL := Lib.hid hpl
    clear hi2 hb2 hpl HS
    go_wp2_with fail
    refine HPL.out.mono ?_
    rintro e w2 ⟨v2, rfl, ho2, hb3⟩
    obtain ⟨q2, c2, hv2, hr2, _, hq2, _, _⟩ := ho2.form
    subst hv2
    have HR := Lib.hid (ref_Sort q2 d c2 w2 hr2 (fun a ha => (hq2 a ha).2) (by omega))
    have HI2 := Lib.hid (HI.out.below hb3)
    have HB2 := Lib.hid (HB.out.trans (hb3.mono HB.out.size))
    clear HPL ho2 hb3 hr2 hq2 HI HB
    go_wp2_with fail
    refine HR.out.mono ?_
    rintro e w3 ⟨v3, rfl, ho3, hb4⟩
    rw [HPA.out] at ho3
    obtain ⟨q3, c3, hv3, hr3, _, hq3, _, _⟩ := ho3.form
    subst hv3
    have HW : Hid (LawW w w.heap.size (List.replicate (d.size - l.length) noId) q3 l w3) := Lib.hid ⟨HI2.out.below hb4, hr3, fun a ha => (hq3 a ha).2, HB2.out.trans (hb4.mono HB2.out.size)⟩
    have hls : l.toArray.size = l.length := by simp
    clear HR HI2 HB2 ho3 hr3 hq3 hb4
    go_wp2_with fail
    go_loopw [23] (fun s23 wr => ∃ k : Nat, s23 = .int .i64 k ∧ k ≤ l.length ∧ Hid (LawW w w.heap.size (List.replicate (d.size - l.length) noId) q3 l wr)) (fun s23 _ => l.length - (intOf s23).toNat)
    case atStart => exact ⟨0, rfl, Nat.zero_le _, HW⟩
    case round =>
      clear HW
      obtain ⟨k, rfl, hk, HW⟩ := hrel
      by_cases hlt : k < l.length
      · obtain ⟨x, hx⟩ : ∃ x, l[k]? = some x := ⟨l[k], List.getElem?_eq_getElem hlt⟩
        have hxa := toArray_at hx
        have hxb : k < (l ++ List.replicate (d.size - l.length) noId).toArray.size ∧ (l ++ List.replicate (d.size - l.length) noId).toArray[k]! = x := toArray_at (by rw [List.getElem?_append_left hlt]; exact hx)
        have HXA := Lib.hid hxa
        have HXB := Lib.hid hxb
        obtain ⟨aq, rfl⟩ := HW.out.b.some_of (by simpa using Nat.lt_of_le_of_lt (Nat.zero_le _) hlt)
        have hk1 : (k : Int) < (l.length : Int) := by omega
        have HGA : Hid (∀ x : Id20, IsAgg Try.prog 32 (bytesV x.1).length) := Lib.hid (fun x => by rw [bytes_len x.2]; exact aggID)
        have HG : Hid (∀ x : Id20, IsAgg Try.prog 57 (bytesV x.1).length) := Lib.hid (fun x => by rw [bytes_len x.2]; exact aggR3)
        have hr : Hid (Row wr ⟨w.heap.size, k * 20, none⟩ (bytesV x.1)) := Lib.hid (HW.out.a.rowAt HXB.out.1 rfl HXB.out.2)
        have HV : Hid (RoundW w w.heap.size (List.replicate (d.size - l.length) noId) (some aq) l wr.heap.size x (wr.alloc (.cells (bytesV x.1).toArray 32))) := Lib.hid ⟨HW.out.below ((Below.refl _ _).alloc (Nat.le_refl _) _), Row.of_block (heap_alloc_new _ _)⟩
        have hq9 : ∀ w, (binOp .neq 57 (.agg (bytesV x.1).toArray) (.agg (bytesV x.1).toArray)).run Try.prog w = .ok (.bool false) w := fun w => by
          have h := (info_parts infoByte).elim fun _ hi => neq_bytes w 20 Try.underlying57 Try.underlying5 plainByte cellsByte hi.1 x.1 x.1 x.2 x.2
          simpa using h
        clear hx hxa hxb HW
        go_wp2_with (first
          | ((with_reducible show wpList _ _ _ (⟨some 27, _, _, _, _, _⟩ :: _) _ _); refine wpList_load_agg (o := ⟨some 27, _, _, _, _, _⟩) rfl _ (.tmp 26) rfl _ rfl (bytesV x.1) hr.out (HGA.out _) ?_)
          | ((with_reducible show wpList _ _ _ (⟨none, _, _, _, _, _⟩ :: _) _ _); refine wpList_store_new (o := ⟨none, _, _, _, _, _⟩) rfl _ (.tmp 6) (.tmp 27) rfl _ _ rfl (bytesV x.1) rfl 20 (by kernel_rfl) (bytes_len x.2) rfl (bytesV_one _) ?_))
        refine wp_region_QL (RoundW w w.heap.size (List.replicate (d.size - l.length) noId) (some aq) l wr.heap.size x) (by kernel_rfl) (by kernel_rfl) HV.out.drew ?_
        repeat (first
          | (refine QL.load (o := ⟨some 28, _, _, _, _, _⟩) (by rfl) _ _ rfl _ rfl (bytesV x.1) (fun w h => h.box) (HGA.out _) ?_)
          | (refine QL.load (o := ⟨some 32, _, _, _, _, _⟩) (by rfl) _ _ rfl _ rfl (bytesV x.1) (fun w h => h.law.b.atx HXA.out.1 HXA.out.2) (HG.out _) ?_)
          | (refine QL.step (fun K hK => ?_); go_simp
             first
               | (refine hK _ ?_; clear hK K)
               | (apply Exists.intro
                  refine ⟨fun w hw => ?_, hK _ ?_⟩
                  first
                    | with_reducible rfl
                  clear hK K)))
        refine QL.nil ?_
        intro w7 hC7
        have HW := Lib.hid hC7.law
        clear hC7 HV hr
        go_wp2_with fail
        go_roundw
        case rel => exact ⟨k + 1, by go_num, by omega, HW⟩
        case measure => simp [intOf]; omega
      · have hk2 : k = l.length := by omega
        subst hk2
        go_wp2_with (go_at_call 31; refine (HLV.out _).mono ?_; rintro e w' ⟨rfl, hbx⟩)
        go_ret
        exact ⟨rfl, HW.out.bel.trans (hbx.mono HW.out.bel.size)⟩
end Go.Proofs.Ytjdmbegmbffhfaa
