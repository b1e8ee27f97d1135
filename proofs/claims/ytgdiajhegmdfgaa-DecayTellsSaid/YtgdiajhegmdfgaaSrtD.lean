/-
  The reference's Sort of ids. Conditions: fewer than half a million ids.
-/
import Derived.Test.YtgdiajhegmdfgaaSrtR

namespace Go.Proofs.Ytgdiajhegmdfgaa
open Go.RowKit Go.Sort Go.Lib

/-- Is one below? -/
def lowB (x y : Id20) : Bool := decide (Lib.compareBytes x.1 y.1 < 0)
/-- The place at which an id is put. -/
def placeOf (l : List Id20) (x : Id20) : Nat := (l.takeWhile fun y => lowB y x).length
/-- Ids with one more put among them. -/
def putId (l : List Id20) (x : Id20) : List Id20 := if l[placeOf l x]? = some x then l else l.take (placeOf l x) ++ [x] ++ l.drop (placeOf l x)
/-- The first k ids, put one by one. -/
def putAll (d : Array Id20) : Nat → List Id20
  | 0 => []
  | k + 1 => putId (putAll d k) d[k]!
theorem placeOf_eq (l : List Id20) (x : Id20) (n : Nat) (hn : n ≤ l.length) (h1 : ∀ j y, j < n → l[j]? = some y → lowB y x = true) (h2 : ∀ y, l[n]? = some y → lowB y x = false) : placeOf l x = n := by
  unfold placeOf
  induction l generalizing n with
  | nil => simp at hn; simp [hn]
  | cons a l ih =>
    cases n with
    | zero =>
      have := h2 a rfl
      simp [List.takeWhile_cons, this]
    | succ n =>
      have h0 := h1 0 a (by omega) rfl
      rw [List.takeWhile_cons, if_pos h0, List.length_cons, ih n (by simpa using hn) (fun j y hj hy => h1 (j + 1) y (by omega) (by simpa using hy)) (fun y hy => h2 y (by simpa using hy))]
theorem putId_length (l : List Id20) (x : Id20) : (putId l x).length ≤ l.length + 1 := by
  unfold putId
  split
  · omega
  · simp; omega
theorem putAll_length (d : Array Id20) : ∀ k, (putAll d k).length ≤ k
  | 0 => Nat.le_refl _
  | k + 1 => by have := putAll_length d k; have := putId_length (putAll d k) d[k]!; unfold putAll; omega

theorem IdRow.atx {w : World} {ad : Addr} {d : Array Id20} (h : IdRow w (some ad) d) {k : Nat} {x : Id20} (hk : k < d.size) (hx : d[k]! = x) : Row w (ad.add (k * 20)) (bytesV x.1) := by
  rw [← hx]; exact h.at rfl hk
theorem toArray_at {l : List Id20} {n : Nat} {y : Id20} (h : l[n]? = some y) : n < l.toArray.size ∧ l.toArray[n]! = y := by
  obtain ⟨h1, h2⟩ := List.getElem?_eq_some_iff.1 h
  exact ⟨by simpa using h1, by rw [getElem!_pos _ n (by simpa using h1)]; simpa using h2⟩

/-- The worlds of the walk. -/
structure SrtW (w0 : World) (p : Option Addr) (d : Array Id20) (v : Value) (q : Option Addr) (l : List Id20) (w : World) : Prop where
  own : OwnIds 35 w w0.heap.size v l.toArray
  out : IdRow w q l.toArray
  outb : ∀ a, q = some a → w0.heap.size ≤ a.block ∧ a.block < w.heap.size
  arg : IdRow w p d
  bel : Below w0.heap.size w0 w
theorem SrtW.below {w0 w w' : World} {p : Option Addr} {d : Array Id20} {v : Value} {q : Option Addr} {l : List Id20} (hpb : ∀ a, p = some a → a.block < w0.heap.size) (h : SrtW w0 p d v q l w) (hb : Below w.heap.size w w') : SrtW w0 p d v q l w' :=
  ⟨h.own.below hb, h.out.below hb (fun a ha => (h.outb a ha).2), fun a ha => ⟨(h.outb a ha).1, Nat.lt_of_lt_of_le (h.outb a ha).2 hb.size⟩, h.arg.below hb (fun a ha => Nat.lt_of_lt_of_le (hpb a ha) h.bel.size), h.bel.trans (hb.mono h.bel.size)⟩
theorem SrtW.drew {w0 w : World} {p : Option Addr} {d : Array Id20} {v : Value} {q : Option Addr} {l : List Id20} (h : SrtW w0 p d v q l w) : SrtW w0 p d v q l w.drew := ⟨h.own, ⟨h.out.none_, h.out.row⟩, h.outb, ⟨h.arg.none_, h.arg.row⟩, below_drewN h.bel 1⟩

set_option maxRecDepth 100000 in
set_option maxHeartbeats 8000000 in
theorem ref_Sort (p : Option Addr) (d : Array Id20) (cap : Nat) (w : World) (hp : IdRow w p d) (hpb : ∀ a, p = some a → a.block < w.heap.size) (hn : d.size < 500000) :
    Calls Try.prog 12 #[.slice p d.size cap] w fun e w' => ∃ v, e = .returned v ∧ OwnIds 35 w' w.heap.size v (putAll d d.size).toArray ∧ Below w.heap.size w w' := by
  have HP := Lib.hid hp
  have HPB := Lib.hid hpb
  clear hp hpb
  have HG : Hid (∀ x : Id20, IsAgg Try.prog 35 (bytesV x.1).length) := Lib.hid (fun x => by rw [bytes_len x.2]; exact aggR3)
  go_enter Try.func12, Try.ntmps12
  go_wp2_with fail
  go_loopw [3, 4] (fun s3 s4 wr => ∃ (k : Nat) (q : Option Addr) (c : Nat), s4 = .int .i64 k ∧ k ≤ d.size ∧ s3 = .slice q (putAll d k).length c ∧ (q = none → c = 0) ∧ Hid (SrtW w p d (.slice q (putAll d k).length c) q (putAll d k) wr) ∧ Hid ((putAll d k).length ≤ c)) (fun _ s4 _ => d.size - (intOf s4).toNat)
  case atStart => exact ⟨0, none, 0, rfl, Nat.zero_le _, rfl, fun _ => rfl, Lib.hid ⟨OwnIds.nil _ _ _, ⟨fun _ => rfl, fun a ha => by cases ha⟩, (fun a ha => by cases ha), HP.out, Below.refl _ _⟩, Lib.hid (Nat.le_refl _)⟩
  case round =>
    obtain ⟨k, q, c, rfl, hk, rfl, hqc, HW, HC⟩ := hrel
    by_cases hlt : k < d.size
    · obtain ⟨ad, rfl⟩ := HP.out.some_of (by omega)
      obtain ⟨x, hx⟩ : ∃ x, d[k]! = x := ⟨_, rfl⟩
      have HX := Lib.hid hx
      have hlen := putAll_length d k
      have hks : putAll d (k + 1) = putId (putAll d k) x := by rw [← hx]; rfl
      obtain ⟨l, hl⟩ : ∃ l, putAll d k = l := ⟨_, rfl⟩
      rw [hl] at HW HC hlen hks ⊢
      have HKS := Lib.hid hks
      have HQC := Lib.hid hqc
      have HLN := Lib.hid hlen
      clear hx hl hks hqc
      have hkd : (k : Int) < (d.size : Int) := by omega
      go_wp2_with fail
      go_loopw [5] (fun s5 wr => ∃ n : Nat, s5 = .int .i64 n ∧ n ≤ l.length ∧ Hid (SrtW w (some ad) d (.slice q l.length c) q l wr) ∧ Hid (∀ j y, j < n → l[j]? = some y → lowB y x = true)) (fun s5 _ => l.length - (intOf s5).toNat)
      case atStart => exact ⟨0, rfl, Nat.zero_le _, HW, Lib.hid (fun j y hj => by omega)⟩
      case round =>
        clear HW
        obtain ⟨n, rfl, hnl, HW, HN⟩ := hrel
        by_cases hnlt : n < l.length
        · obtain ⟨y, hy⟩ : ∃ y, l[n]? = some y := ⟨l[n], List.getElem?_eq_getElem hnlt⟩
          have HY := Lib.hid hy
          have HYA := Lib.hid (toArray_at hy)
          obtain ⟨aq, rfl⟩ := HW.out.out.some_of (by simpa using Nat.lt_of_le_of_lt (Nat.zero_le _) hnlt)
          have hnl1 : (n : Int) < (l.length : Int) := by omega
          have HCM : Hid (∀ w, Calls Try.prog 46 #[.agg (bytesV y.1).toArray, .agg (bytesV x.1).toArray] w fun e w' => e = .returned (.int .i64 (Lib.compareBytes y.1 x.1)) ∧ Below w.heap.size w w') := Lib.hid (fun w => ref_Cmp y.1 x.1 y.2 x.2 w)
          have HLO : Hid (lowB y x = decide (Lib.compareBytes y.1 x.1 < 0)) := Lib.hid rfl
          generalize Lib.compareBytes y.1 x.1 = r at HCM HLO
          clear hy
          by_cases hr : r < 0
          · -- it is below: on
            have hrd : decide (r < 0) = true := decide_eq_true hr
            clear hr
            go_wp2_with fail
            refine wp_region_QL (SrtW w (some ad) d (.slice (some aq) l.length c) (some aq) l) (by kernel_rfl) (by kernel_rfl) HW.out.drew ?_
            repeat (first
              | (refine QL.load (o := ⟨some 20, _, _, _, _, _⟩) (by rfl) _ _ rfl _ rfl (bytesV y.1) (fun w h => h.out.atx HYA.out.1 HYA.out.2) (HG.out _) ?_)
              | (refine QL.load (o := ⟨some 24, _, _, _, _, _⟩) (by rfl) _ _ rfl _ rfl (bytesV x.1) (fun w h => h.arg.atx hlt HX.out) (HG.out _) ?_)
              | (refine QL.step (fun K hK => ?_); go_simp
                 first
                   | (refine hK _ ?_; clear hK K)
                   | (apply Exists.intro
                      refine ⟨fun w hw => ?_, hK _ ?_⟩
                      first
                        | with_reducible rfl
                        | (go_at_call 46; refine (HCM.out _).mono ?_; rintro e w' ⟨rfl, hbx⟩; exact ⟨rfl, SrtW.below HPB.out hw hbx⟩)
                      clear hK K)))
            refine QL.nil ?_
            intro w7 hC7
            clear HW
            have HW := Lib.hid hC7
            clear hC7
            go_wp2_with fail
            go_roundw
            case rel =>
              refine ⟨n + 1, by go_num, by omega, HW, Lib.hid (fun j z hj hz => ?_)⟩
              by_cases e : j = n
              · rw [e, HY.out] at hz
                rw [← Option.some.inj hz, HLO.out]; exact hrd
              · exact HN.out j z (by omega) hz
            case measure => simp [intOf]; omega
          · -- it is not
            have hpl : placeOf l x = n := placeOf_eq l x n hnl HN.out (fun z hz => by
              rw [HY.out] at hz
              rw [← Option.some.inj hz, HLO.out]; exact decide_eq_false hr)
            have HPL := Lib.hid hpl
            have hrd : decide (r < 0) = false := decide_eq_false hr
            have hne0 : ((n : Int) == (l.length : Int)) = false := by simp; omega
            clear hr hpl
            have hq8 : ∀ w, (binOp .neq 35 (.agg (bytesV y.1).toArray) (.agg (bytesV x.1).toArray)).run Try.prog w = .ok (.bool (!decide (y.1 = x.1))) w := fun w =>
              (info_parts infoByte).elim fun _ hi => neq_bytes w 20 Try.underlying35 Try.underlying5 plainByte cellsByte hi.1 y.1 x.1 y.2 x.2
            by_cases hyx : y = x
            · subst hyx
              have hput : putAll d (k + 1) = l := by rw [HKS.out]; unfold putId; rw [HPL.out, if_pos HY.out]
              have HPUT := Lib.hid hput
              clear hput
              rw [decide_eq_true rfl] at hq8
              go_wp2_with fail
              refine wp_region_QL (SrtW w (some ad) d (.slice (some aq) l.length c) (some aq) l) (by kernel_rfl) (by kernel_rfl) HW.out.drew ?_
              repeat (first
                | (refine QL.load (o := ⟨some 20, _, _, _, _, _⟩) (by rfl) _ _ rfl _ rfl (bytesV y.1) (fun w h => h.out.atx HYA.out.1 HYA.out.2) (HG.out _) ?_)
                | (refine QL.load (o := ⟨some 24, _, _, _, _, _⟩) (by rfl) _ _ rfl _ rfl (bytesV y.1) (fun w h => h.arg.atx hlt HX.out) (HG.out _) ?_)
                | (refine QL.step (fun K hK => ?_); go_simp
                   first
                     | (refine hK _ ?_; clear hK K)
                     | (apply Exists.intro
                        refine ⟨fun w hw => ?_, hK _ ?_⟩
                        first
                          | with_reducible rfl
                          | (go_at_call 46; refine (HCM.out _).mono ?_; rintro e w' ⟨rfl, hbx⟩; exact ⟨rfl, SrtW.below HPB.out hw hbx⟩)
                        clear hK K)))
              refine QL.nil ?_
              intro w7 hC7
              clear HW
              have HW := Lib.hid hC7
              clear hC7
              go_wp2_with fail
              refine wp_region_QL (SrtW w (some ad) d (.slice (some aq) l.length c) (some aq) l) (by kernel_rfl) (by kernel_rfl) HW.out.drew ?_
              repeat (first
                | (refine QL.load (o := ⟨some 38, _, _, _, _, _⟩) (by rfl) _ _ rfl _ rfl (bytesV y.1) (fun w h => h.out.atx HYA.out.1 HYA.out.2) (HG.out _) ?_)
                | (refine QL.load (o := ⟨some 42, _, _, _, _, _⟩) (by rfl) _ _ rfl _ rfl (bytesV y.1) (fun w h => h.arg.atx hlt HX.out) (HG.out _) ?_)
                | (refine QL.step (fun K hK => ?_); go_simp
                   first
                     | (refine hK _ ?_; clear hK K)
                     | (apply Exists.intro
                        refine ⟨fun w hw => ?_, hK _ ?_⟩
                        first
                          | with_reducible rfl
                        clear hK K)))
              refine QL.nil ?_
              intro w7 hC7
              clear HW
              have HW := Lib.hid hC7
              clear hC7
              go_wp2_with fail
              go_roundw
              case rel =>
                refine ⟨k + 1, some aq, c, by go_num, by omega, by rw [HPUT.out], (fun h => by cases h), ?_, ?_⟩
                · rw [HPUT.out]; exact HW
                · rw [HPUT.out]; exact HC
              case measure => simp [intOf]; omega
            · have hput : putAll d (k + 1) = l.take n ++ [x] ++ l.drop n := by
                rw [HKS.out]; unfold putId; rw [HPL.out, if_neg (by rw [HY.out]; exact fun h => hyx (Option.some.inj h))]
              have HPUT := Lib.hid hput
              clear hput
              rw [decide_eq_false (fun e => hyx (Subtype.ext e))] at hq8
              clear hyx
              go_wp2_with fail
              refine wp_region_QL (SrtW w (some ad) d (.slice (some aq) l.length c) (some aq) l) (by kernel_rfl) (by kernel_rfl) HW.out.drew ?_
              repeat (first
                | (refine QL.load (o := ⟨some 20, _, _, _, _, _⟩) (by rfl) _ _ rfl _ rfl (bytesV y.1) (fun w h => h.out.atx HYA.out.1 HYA.out.2) (HG.out _) ?_)
                | (refine QL.load (o := ⟨some 24, _, _, _, _, _⟩) (by rfl) _ _ rfl _ rfl (bytesV x.1) (fun w h => h.arg.atx hlt HX.out) (HG.out _) ?_)
                | (refine QL.step (fun K hK => ?_); go_simp
                   first
                     | (refine hK _ ?_; clear hK K)
                     | (apply Exists.intro
                        refine ⟨fun w hw => ?_, hK _ ?_⟩
                        first
                          | with_reducible rfl
                          | (go_at_call 46; refine (HCM.out _).mono ?_; rintro e w' ⟨rfl, hbx⟩; exact ⟨rfl, SrtW.below HPB.out hw hbx⟩)
                        clear hK K)))
              refine QL.nil ?_
              intro w7 hC7
              clear HW
              have HW := Lib.hid hC7
              clear hC7
              go_wp2_with fail
              refine wp_region_QL (SrtW w (some ad) d (.slice (some aq) l.length c) (some aq) l) (by kernel_rfl) (by kernel_rfl) HW.out.drew ?_
              repeat (first
                | (refine QL.load (o := ⟨some 38, _, _, _, _, _⟩) (by rfl) _ _ rfl _ rfl (bytesV y.1) (fun w h => h.out.atx HYA.out.1 HYA.out.2) (HG.out _) ?_)
                | (refine QL.load (o := ⟨some 42, _, _, _, _, _⟩) (by rfl) _ _ rfl _ rfl (bytesV x.1) (fun w h => h.arg.atx hlt HX.out) (HG.out _) ?_)
                | (refine QL.step (fun K hK => ?_); go_simp
                   first
                     | (refine hK _ ?_; clear hK K)
                     | (apply Exists.intro
                        refine ⟨fun w hw => ?_, hK _ ?_⟩
                        first
                          | with_reducible rfl
                        clear hK K)))
              refine QL.nil ?_
              intro w7 hC7
              clear HW
              have HW := Lib.hid hC7
              clear hC7
              go_wp2_with fail
              clear hq8
              have hqq : (some aq : Option Addr) = some aq := rfl
              refine region9 ad d cap (some aq) l c n k x rfl rfl rfl rfl rfl hnl HC.out hlt HX.out HW.out.out (fun a ha => (HW.out.outb a ha).2) HW.out.arg (Nat.lt_of_lt_of_le (HPB.out ad rfl) HW.out.bel.size) (by have := HLN.out; omega) ?_
              intro vs w9 hb9 ho9
              obtain ⟨q9, c9, hv9, hr9, hn9, hb9', hc9, _⟩ := ho9.form
              have HW9 : Hid (SrtW w (some ad) d (vs 15) q9 (putAll d (k + 1)) w9) := Lib.hid ⟨by rw [HPUT.out]; exact ho9.mono HW.out.bel.size, by rw [HPUT.out]; exact hr9, fun a ha => ⟨Nat.le_trans HW.out.bel.size (hb9' a ha).1, (hb9' a ha).2⟩, HW.out.arg.below hb9 (fun a ha => Nat.lt_of_lt_of_le (HPB.out a ha) HW.out.bel.size), HW.out.bel.trans (hb9.mono HW.out.bel.size)⟩
              have HV9 : Hid (vs 15 = .slice q9 (putAll d (k + 1)).length c9) := Lib.hid (by rw [HPUT.out]; simpa using hv9)
              have HN9 : Hid (q9 = none → c9 = 0) := Lib.hid hn9
              have HC9 : Hid ((putAll d (k + 1)).length ≤ c9) := Lib.hid (by rw [HPUT.out]; simpa using hc9)
              clear hv9 hr9 hn9 hb9' hc9 hb9 ho9 HW
              simp only [putList, ops9]
              generalize vs 15 = v15 at *
              go_wp2_with fail
              go_roundw
              case rel =>
                refine ⟨k + 1, q9, c9, by go_num, by omega, HV9.out, HN9.out, ?_, HC9⟩
                rw [HV9.out] at HW9
                exact HW9
              case measure => simp [intOf]; omega
        · -- at its end
          have hnl2 : n = l.length := by omega
          subst hnl2
          have hpl : placeOf l x = l.length := placeOf_eq l x l.length hnl HN.out (fun z hz => by rw [List.getElem?_eq_none (by omega)] at hz; cases hz)
          have hput : putAll d (k + 1) = l.take l.length ++ [x] ++ l.drop l.length := by
            rw [HKS.out]; unfold putId; rw [hpl, if_neg (by rw [List.getElem?_eq_none (by omega)]; exact fun h => by cases h)]
          have HPUT := Lib.hid hput
          have hlt0 : decide ((l.length : Int) < (l.length : Int)) = false := decide_eq_false (by omega)
          have heq0 : ((l.length : Int) == (l.length : Int)) = true := by simp
          clear hpl hput
          go_wp2_with fail
          refine wp_region_QL (SrtW w (some ad) d (.slice q l.length c) q l) (by kernel_rfl) (by kernel_rfl) HW.out.drew ?_
          repeat (first
            | (refine QL.step (fun K hK => ?_); go_simp
               first
                 | (refine hK _ ?_; clear hK K)
                 | (apply Exists.intro
                    refine ⟨fun w hw => ?_, hK _ ?_⟩
                    first
                      | with_reducible rfl
                    clear hK K)))
          refine QL.nil ?_
          intro w7 hC7
          clear HW
          have HW := Lib.hid hC7
          clear hC7
          go_wp2_with fail
          refine wp_region_QL (SrtW w (some ad) d (.slice q l.length c) q l) (by kernel_rfl) (by kernel_rfl) HW.out.drew ?_
          repeat (first
            | (refine QL.step (fun K hK => ?_); go_simp
               first
                 | (refine hK _ ?_; clear hK K)
                 | (apply Exists.intro
                    refine ⟨fun w hw => ?_, hK _ ?_⟩
                    first
                      | with_reducible rfl
                    clear hK K)))
          refine QL.nil ?_
          intro w7 hC7
          clear HW
          have HW := Lib.hid hC7
          clear hC7
          go_wp2_with fail
          refine region9 ad d cap q l c l.length k x rfl rfl rfl rfl rfl hnl HC.out hlt HX.out HW.out.out (fun a ha => (HW.out.outb a ha).2) HW.out.arg (Nat.lt_of_lt_of_le (HPB.out ad rfl) HW.out.bel.size) (by have := HLN.out; omega) ?_
          intro vs w9 hb9 ho9
          obtain ⟨q9, c9, hv9, hr9, hn9, hb9', hc9, _⟩ := ho9.form
          have HW9 : Hid (SrtW w (some ad) d (vs 15) q9 (putAll d (k + 1)) w9) := Lib.hid ⟨by rw [HPUT.out]; exact ho9.mono HW.out.bel.size, by rw [HPUT.out]; exact hr9, fun a ha => ⟨Nat.le_trans HW.out.bel.size (hb9' a ha).1, (hb9' a ha).2⟩, HW.out.arg.below hb9 (fun a ha => Nat.lt_of_lt_of_le (HPB.out a ha) HW.out.bel.size), HW.out.bel.trans (hb9.mono HW.out.bel.size)⟩
          have HV9 : Hid (vs 15 = .slice q9 (putAll d (k + 1)).length c9) := Lib.hid (by rw [HPUT.out]; simpa using hv9)
          have HN9 : Hid (q9 = none → c9 = 0) := Lib.hid hn9
          have HC9 : Hid ((putAll d (k + 1)).length ≤ c9) := Lib.hid (by rw [HPUT.out]; simpa using hc9)
          clear hv9 hr9 hn9 hb9' hc9 hb9 ho9 HW
          simp only [putList, ops9]
          generalize vs 15 = v15 at *
          go_wp2_with fail
          go_roundw
          case rel =>
            refine ⟨k + 1, q9, c9, by go_num, by omega, HV9.out, HN9.out, ?_, HC9⟩
            rw [HV9.out] at HW9
            exact HW9
          case measure => simp [intOf]; omega
    · have hk2 : k = d.size := by omega
      subst hk2
      go_wp2_with fail
      refine bodyPost_ret (results_tmp rfl _ _ _) rfl ?_
      exact ⟨_, rfl, HW.out.own, HW.out.bel⟩
end Go.Proofs.Ytgdiajhegmdfgaa
