/-
  The walk of MetricLeast. Conditions: the ids are twenty bytes.
-/
import Derived.Test.YtjdmbegmbffhfaaLstG
import Derived.Test.YtjdmbegmbffhfaaLstQ
import Derived.Test.YtjdmbegmbffhfaaMetD
namespace Go.Proofs.Ytjdmbegmbffhfaa
open Go.RowKit Go.Sort Go.Lib

/-- The worlds of the walk. -/
structure LeastW (w0 : World) (t : List UInt8) (p : Option Addr) (d : Array Id20) (qn : Option Addr) (N : List Id20) (qa : Option Addr) (A : List Id20) (qb : Option Addr) (B : List Id20) (w : World) : Prop where
  tb : Row w ⟨w0.heap.size, 0, none⟩ (bytesV t)
  tl : w0.heap.size < w.heap.size
  arg : IdRow w p d
  near : IdRow w qn N.toArray
  nearb : ∀ a, qn = some a → a.block < w.heap.size
  a : IdRow w qa A.toArray
  ab : ∀ a, qa = some a → a.block < w.heap.size
  b : IdRow w qb B.toArray
  bb : ∀ a, qb = some a → a.block < w.heap.size
  bel : Below w0.heap.size w0 w
theorem LeastW.below {w0 w w' : World} {t : List UInt8} {p : Option Addr} {d : Array Id20} {qn : Option Addr} {N : List Id20} {qa : Option Addr} {A : List Id20} {qb : Option Addr} {B : List Id20} (hpb : ∀ a, p = some a → a.block < w0.heap.size)
    (h : LeastW w0 t p d qn N qa A qb B w) (hb : Below w.heap.size w w') : LeastW w0 t p d qn N qa A qb B w' :=
  ⟨h.tb.below hb h.tl, Nat.lt_of_lt_of_le h.tl hb.size, h.arg.below hb (fun a ha => Nat.lt_of_lt_of_le (hpb a ha) h.bel.size), h.near.below hb h.nearb, fun a ha => Nat.lt_of_lt_of_le (h.nearb a ha) hb.size, h.a.below hb h.ab, fun a ha => Nat.lt_of_lt_of_le (h.ab a ha) hb.size, h.b.below hb h.bb, fun a ha => Nat.lt_of_lt_of_le (h.bb a ha) hb.size, h.bel.trans (hb.mono h.bel.size)⟩
theorem LeastW.drew {w0 w : World} {t : List UInt8} {p : Option Addr} {d : Array Id20} {qn : Option Addr} {N : List Id20} {qa : Option Addr} {A : List Id20} {qb : Option Addr} {B : List Id20} (h : LeastW w0 t p d qn N qa A qb B w) : LeastW w0 t p d qn N qa A qb B w.drew :=
  ⟨h.tb, h.tl, ⟨h.arg.none_, h.arg.row⟩, ⟨h.near.none_, h.near.row⟩, h.nearb, ⟨h.a.none_, h.a.row⟩, h.ab, ⟨h.b.none_, h.b.row⟩, h.bb, below_drewN h.bel 1⟩
/-- .. with a box. -/
structure LeastX (w0 : World) (t : List UInt8) (p : Option Addr) (d : Array Id20) (qn : Option Addr) (N : List Id20) (qa : Option Addr) (A : List Id20) (qb : Option Addr) (B : List Id20) (g : Nat) (x : Id20) (w : World) : Prop where
  law : LeastW w0 t p d qn N qa A qb B w
  box : Row w ⟨g, 0, none⟩ (bytesV x.1)
  boxl : g < w.heap.size
theorem LeastX.below {w0 w w' : World} {t : List UInt8} {p : Option Addr} {d : Array Id20} {qn : Option Addr} {N : List Id20} {qa : Option Addr} {A : List Id20} {qb : Option Addr} {B : List Id20} {g : Nat} {x : Id20} (hpb : ∀ a, p = some a → a.block < w0.heap.size)
    (h : LeastX w0 t p d qn N qa A qb B g x w) (hb : Below w.heap.size w w') : LeastX w0 t p d qn N qa A qb B g x w' := ⟨h.law.below hpb hb, h.box.below hb h.boxl, Nat.lt_of_lt_of_le h.boxl hb.size⟩
theorem LeastX.drew {w0 w : World} {t : List UInt8} {p : Option Addr} {d : Array Id20} {qn : Option Addr} {N : List Id20} {qa : Option Addr} {A : List Id20} {qb : Option Addr} {B : List Id20} {g : Nat} {x : Id20} (h : LeastX w0 t p d qn N qa A qb B g x w) : LeastX w0 t p d qn N qa A qb B g x w.drew := ⟨h.law.drew, h.box, h.boxl⟩

set_option maxRecDepth 100000 in
set_option maxHeartbeats 2000000 in
theorem Least_out (t : List UInt8) (ht : t.length = 20) (p : Option Addr) (d : Array Id20) (cap : Nat) (n : Int) (w : World) (h : 50 < d.size ∨ n < 0 ∨ 100 < n) :
    Calls Try.prog 12 #[.agg (bytesV t).toArray, .slice p d.size cap, .int .i64 n] w fun e w' => e = .returned (.bool true) ∧ Below w.heap.size w w' := by
  have st := bytes_size ht
  have HLV := Lib.hid (fun w => lives04 w)
  have HB : Hid (Below w.heap.size w (w.alloc (.cells (bytesV t).toArray 32))) := Lib.hid ((Below.refl _ _).alloc (Nat.le_refl _) _)
  have h2 : (decide ((50 : Int) < (d.size : Int)) = true) ∨ (decide ((50 : Int) < (d.size : Int)) = false ∧ decide (n < 0) = true) ∨ (decide ((50 : Int) < (d.size : Int)) = false ∧ decide (n < 0) = false ∧ decide (100 < n) = true) := by
    simp only [decide_eq_true_eq, decide_eq_false_iff_not]
    omega
  clear h
  rcases h2 with e1 | ⟨e1, e2⟩ | ⟨e1, e2, e3⟩
  all_goals
    go_enter Try.func12, Try.ntmps12
    go_wp2_with (go_at_call 48; refine (HLV.out _).mono ?_; rintro e w' ⟨rfl, hbx⟩)
    go_ret
    exact ⟨rfl, HB.out.trans (hbx.mono HB.out.size)⟩

set_option maxRecDepth 100000 in
set_option maxHeartbeats 8000000 in
theorem Least_in (t : List UInt8) (ht : t.length = 20) (p : Option Addr) (d : Array Id20) (cap : Nat) (n : Int) (w : World) (hp : IdRow w p d) (hpb : ∀ a, p = some a → a.block < w.heap.size) (h1 : d.size ≤ 50) (h2 : 0 ≤ n) (h3 : n ≤ 100) :
    Calls Try.prog 12 #[.agg (bytesV t).toArray, .slice p d.size cap, .int .i64 n] w fun e w' => e = .returned (.bool true) ∧ Below w.heap.size w w' := by
  have st := bytes_size ht
  have HLV := Lib.hid (fun w => lives04 w)
  have haT : Hid (IsAgg Try.prog 32 (bytesV t).length) := Lib.hid (by rw [bytes_len ht]; exact aggID)
  have HG : Hid (∀ x : Id20, IsAgg Try.prog 32 (bytesV x.1).length) := Lib.hid (fun x => by rw [bytes_len x.2]; exact aggID)
  have e1 : decide ((50 : Int) < (d.size : Int)) = false := decide_eq_false (by omega)
  have e2 : decide (n < 0) = false := decide_eq_false (by omega)
  have e3 : decide (100 < n) = false := decide_eq_false (by omega)
  have hb1 : Below w.heap.size w (w.alloc (.cells (bytesV t).toArray 32)) := (Below.refl _ _).alloc (Nat.le_refl _) _
  have HB := Lib.hid hb1
  have i1 : Hid (Row (w.alloc (.cells (bytesV t).toArray 32)) ⟨w.heap.size, 0, none⟩ (bytesV t)) := Lib.hid (Row.of_block (heap_alloc_new _ _))
  have i2 : Hid (w.heap.size < (w.alloc (.cells (bytesV t).toArray 32)).heap.size) := Lib.hid (by simp)
  have HP := Lib.hid (hp.below hb1 hpb)
  have HPB := Lib.hid hpb
  have HS := Lib.hid (metric_Least t ht p d cap n (w.alloc (.cells (bytesV t).toArray 32)) (hp.below hb1 hpb) (fun a ha => Nat.lt_of_lt_of_le (hpb a ha) hb1.size) (by omega))
  have HTL := Lib.hid ht
  have HD := Lib.hid h1
  clear hp hpb hb1 h1 h2 h3
  go_enter Try.func12, Try.ntmps12
  go_wp2_with ((with_reducible show wpList _ _ _ (⟨some 26, _, _, _, _, _⟩ :: _) _ _); refine wpList_load_agg (o := ⟨some 26, _, _, _, _, _⟩) rfl _ (.tmp 3) rfl _ rfl (bytesV t) i1.out haT.out ?_)
  refine HS.out.mono ?_
  rintro e w1 ⟨v, rfl, ho, hb⟩
  obtain ⟨qn, cn, hv, hrn, _, hqn, _, _⟩ := ho.form
  have hf := ins_front t HTL.out n d
  have hbk := ins_back t HTL.out n d
  have hrk : ∀ i x, ((nearD t d).take n.toNat)[i]? = some x → ∀ m, RankIs t (nearD t d) x m → m = i := fun i x hx m hm => by
    refine rank_place t HTL.out d i x ?_ m hm
    rw [List.getElem?_take] at hx
    split at hx
    · exact hx
    · cases hx
  obtain ⟨N, hN⟩ : ∃ N, (nearD t d).take n.toNat = N := ⟨_, rfl⟩
  rw [hN] at hf hbk hrk hrn hv
  have hNs : N.toArray.size = N.length := by simp
  rw [hNs] at hv
  subst hv
  have HF := Lib.hid hf
  have HBK := Lib.hid hbk
  have HRK := Lib.hid hrk
  have HW : Hid (LeastW w t p d qn N none [] none [] w1) := Lib.hid ⟨i1.out.below hb i2.out, Nat.lt_of_lt_of_le i2.out hb.size, HP.out.below hb (fun a ha => Nat.lt_of_lt_of_le (HPB.out a ha) HB.out.size), hrn, fun a ha => (hqn a ha).2, ⟨fun _ => rfl, fun a ha => by cases ha⟩, (fun a ha => by cases ha), ⟨fun _ => rfl, fun a ha => by cases ha⟩, (fun a ha => by cases ha), HB.out.trans (hb.mono HB.out.size)⟩
  clear ho hb hrn hqn hN hNs hf hbk hrk i1 i2 HP HS HB
  go_wp2_with fail
  have HA0 : Hid (insF t n (fun j => d[j]!) 0 = []) := Lib.hid rfl
  go_loopw [8, 9, 32] (fun s8 s9 s32 wr => ∃ (k : Nat) (qa : Option Addr) (ca : Nat) (qb : Option Addr) (cb : Nat) (A B : List Id20), s32 = .int .i64 k ∧ k ≤ d.size ∧ s8 = .slice qa A.length ca ∧ (qa = none → ca = 0) ∧ s9 = .slice qb B.length cb ∧ (qb = none → cb = 0) ∧ Hid (insF t n (fun j => d[j]!) k = A) ∧ Hid (insF t n (fun j => d[d.size - 1 - j]!) k = B) ∧ Hid (LeastW w t p d qn N qa A qb B wr)) (fun _ _ s32 _ => d.size - (intOf s32).toNat)
  case atStart => exact ⟨0, none, 0, none, 0, [], [], rfl, Nat.zero_le _, rfl, fun _ => rfl, rfl, fun _ => rfl, Lib.hid rfl, Lib.hid rfl, HW⟩
  case round =>
    clear HW HA0
    obtain ⟨k, qa, ca, qb, cb, A, B, rfl, hk, rfl, hqa, rfl, hqb, HA, HBq, HW⟩ := hrel
    by_cases hlt : k < d.size
    · obtain ⟨ad, rfl⟩ := HW.out.arg.some_of (by omega)
      obtain ⟨x, hx⟩ : ∃ x, d[k]! = x := ⟨_, rfl⟩
      have hkd : (k : Int) < (d.size : Int) := by omega
      have hAl : A.length ≤ k := by rw [← HA.out]; exact insF_length t HTL.out n _ k
      have hBl : B.length ≤ k := by rw [← HBq.out]; exact insF_length t HTL.out n _ k
      have HX := Lib.hid hx
      have HAL := Lib.hid hAl
      have HBL := Lib.hid hBl
      have HQA := Lib.hid hqa
      have HQB := Lib.hid hqb
      have hr : Hid (Row wr (ad.add (k * 20)) (bytesV x.1)) := Lib.hid (HW.out.arg.atq hlt hx)
      have HV : Hid (LeastX w t (some ad) d qn N qa A qb B wr.heap.size x (wr.alloc (.cells (bytesV x.1).toArray 32))) := Lib.hid ⟨HW.out.below HPB.out ((Below.refl _ _).alloc (Nat.le_refl _) _), Row.of_block (heap_alloc_new _ _), by simp⟩
      have hAs : A.toArray.size = A.length := by simp
      have hI := metric_Insert t HTL.out x qa A.toArray ca n _ HV.out.law.a HV.out.law.ab hqa (by have := HD.out; simp; omega)
      rw [hAs] at hI
      have HI := Lib.hid hI
      have hk5 : (k : Int) < 400000 := by have := HD.out; omega
      clear hx hAl hBl hI hAs hqa hqb HW
      go_wp2_with (first
        | ((with_reducible show wpList _ _ _ (⟨some 36, _, _, _, _, _⟩ :: _) _ _); refine wpList_load_agg (o := ⟨some 36, _, _, _, _, _⟩) rfl _ (.tmp 35) rfl _ rfl (bytesV x.1) hr.out (HG.out _) ?_)
        | ((with_reducible show wpList _ _ _ (⟨none, _, _, _, _, _⟩ :: _) _ _); refine wpList_store_new (o := ⟨none, _, _, _, _, _⟩) rfl _ (.tmp 11) (.tmp 36) rfl _ _ rfl (bytesV x.1) rfl 20 (by kernel_rfl) (bytes_len x.2) rfl (bytesV_one _) ?_)
        | ((with_reducible show wpList _ _ _ (⟨some 38, _, _, _, _, _⟩ :: _) _ _); refine wpList_load_agg (o := ⟨some 38, _, _, _, _, _⟩) rfl _ (.tmp 3) rfl _ rfl (bytesV t) HV.out.law.tb haT.out ?_)
        | ((with_reducible show wpList _ _ _ (⟨some 40, _, _, _, _, _⟩ :: _) _ _); refine wpList_load_agg (o := ⟨some 40, _, _, _, _, _⟩) rfl _ (.tmp 11) rfl _ rfl (bytesV x.1) HV.out.box (HG.out _) ?_))
      refine HI.out.mono ?_
      rintro e w5 ⟨v5, rfl, ho5, hb5⟩
      obtain ⟨q5, c5, hv5, hr5, hn5, hq5, _, _⟩ := ho5.form
      obtain ⟨A2, hA2⟩ : ∃ A2, withOne t A.toArray x n = A2 := ⟨_, rfl⟩
      rw [hA2] at hr5 hv5
      have hA2s : A2.toArray.size = A2.length := by simp
      rw [hA2s] at hv5
      rw [hv5]
      have HA2 : Hid (insF t n (fun j => d[j]!) (k + 1) = A2) := Lib.hid (by
        show withOne t (insF t n (fun j => d[j]!) k).toArray d[k]! n = A2
        rw [HA.out, HX.out]; exact hA2)
      have hL5 := HV.out.below HPB.out hb5
      have HW5 : Hid (LeastW w t (some ad) d qn N q5 A2 qb B w5) := Lib.hid ⟨hL5.law.tb, hL5.law.tl, hL5.law.arg, hL5.law.near, hL5.law.nearb, hr5, fun a ha => (hq5 a ha).2, hL5.law.b, hL5.law.bb, hL5.law.bel⟩
      have HN5 := Lib.hid hn5
      clear ho5 hb5 hv5 hr5 hn5 hq5 hA2 hA2s hL5 HI HV hr
      generalize (decide (x ∈ withOne t A.toArray x n) && !decide (x ∈ A.toArray.toList)) = bb at *
      go_wp2_with fail
      refine regionL t HTL.out ad d cap qb cb B d[d.size - 1 - k]! k (d.size - 1 - k) n w.heap.size rfl rfl rfl rfl rfl rfl HW5.out.tb HW5.out.tl HW5.out.arg (Nat.lt_of_lt_of_le (HPB.out ad rfl) HW5.out.bel.size) (by have := HD.out; omega) hlt rfl rfl HW5.out.b HW5.out.bb HQB.out (by have := HBL.out; have := HD.out; omega) ?_
      intro vs w9 hb9 ho9
      obtain ⟨q9, c9, hv9, hr9, hn9, hq9, _, _⟩ := ho9.form
      obtain ⟨B2, hB2⟩ : ∃ B2, withOne t B.toArray d[d.size - 1 - k]! n = B2 := ⟨_, rfl⟩
      rw [hB2] at hr9 hv9
      have hB2s : B2.toArray.size = B2.length := by simp
      rw [hB2s] at hv9
      have HV9 := Lib.hid hv9
      have HB2 : Hid (insF t n (fun j => d[d.size - 1 - j]!) (k + 1) = B2) := Lib.hid (by
        show withOne t (insF t n (fun j => d[d.size - 1 - j]!) k).toArray d[d.size - 1 - k]! n = B2
        rw [HBq.out]; exact hB2)
      have hL9 := HW5.out.below HPB.out hb9
      have HW9 : Hid (LeastW w t (some ad) d qn N q5 A2 q9 B2 w9) := Lib.hid ⟨hL9.tb, hL9.tl, hL9.arg, hL9.near, hL9.nearb, hL9.a, hL9.ab, hr9, fun a ha => (hq9 a ha).2, hL9.bel⟩
      have HN9 := Lib.hid hn9
      clear ho9 hb9 hv9 hr9 hn9 hq9 hB2 hB2s hL9 HW5
      simp only [putList, opsL]
      rw [HV9.out]
      go_wp2_with fail
      go_roundw
      case rel => exact ⟨k + 1, q5, c5, q9, c9, A2, B2, by go_num, by omega, rfl, HN5.out, rfl, HN9.out, HA2, HB2, HW9⟩
      case measure => simp [intOf]; omega
    · have hke : k = d.size := by omega
      subst hke
      have hAN : A = N := by rw [← HA.out, HF.out]
      have hBN : B = N := by rw [← HBq.out, HBK.out]
      subst hAN
      subst hBN
      have HFL := HF
      clear HA HBq HBK
      have hBd : B.length ≤ d.size := by
        have h0 := insF_length t HTL.out n (fun j => d[j]!) d.size
        rw [HFL.out] at h0
        exact h0
      go_wp2_with fail
      go_loopw [75] (fun s75 wr => ∃ k : Nat, s75 = .int .i64 k ∧ k ≤ B.length ∧ Hid (LeastW w t p d qn B qa B qb B wr)) (fun s75 _ => B.length - (intOf s75).toNat)
      case atStart => exact ⟨0, rfl, Nat.zero_le _, HW⟩
      case round =>
        clear HW
        obtain ⟨k, rfl, hk, HW⟩ := hrel
        by_cases hlt : k < B.length
        · have hlt2 : k < B.toArray.size := by simpa using hlt
          obtain ⟨an, rfl⟩ := HW.out.near.some_of (by omega)
          obtain ⟨aa, rfl⟩ := HW.out.a.some_of (by omega)
          obtain ⟨ab, rfl⟩ := HW.out.b.some_of (by omega)
          obtain ⟨x, hx⟩ : ∃ x, B.toArray[k]! = x := ⟨_, rfl⟩
          have hxo : B[k]? = some x := by
            rw [← hx, getElem!_pos _ k hlt2]
            simp
          have HK2 := Lib.hid hlt2
          have HX := Lib.hid hx
          have hkb : (k : Int) < (B.length : Int) := by omega
          have hk5 : (k : Int) < 400000 := by have := HD.out; omega
          have hq : ∀ w, (binOp .neq 32 (.agg (bytesV x.1).toArray) (.agg (bytesV x.1).toArray)).run Try.prog w = .ok (.bool false) w := fun w => by
            rw [neq_ID w x.1 x.1 x.2 x.2]
            simp
          have hr : Hid (Row wr (an.add (k * 20)) (bytesV x.1)) := Lib.hid (HW.out.near.atq hlt2 hx)
          have HV : Hid (LeastX w t p d (some an) B (some aa) B (some ab) B wr.heap.size x (wr.alloc (.cells (bytesV x.1).toArray 32))) := Lib.hid ⟨HW.out.below HPB.out ((Below.refl _ _).alloc (Nat.le_refl _) _), Row.of_block (heap_alloc_new _ _), by simp⟩
          have HRKx : Hid (∀ m, RankIs t (nearD t d) x m → m = k) := Lib.hid (HRK.out k x hxo)
          clear hx hxo HW hlt2
          go_wp2_with (first
            | ((with_reducible show wpList _ _ _ (⟨some 79, _, _, _, _, _⟩ :: _) _ _); refine wpList_load_agg (o := ⟨some 79, _, _, _, _, _⟩) rfl _ (.tmp 78) rfl _ rfl (bytesV x.1) hr.out (HG.out _) ?_)
            | ((with_reducible show wpList _ _ _ (⟨none, _, _, _, _, _⟩ :: _) _ _); refine wpList_store_new (o := ⟨none, _, _, _, _, _⟩) rfl _ (.tmp 13) (.tmp 79) rfl _ _ rfl (bytesV x.1) rfl 20 (by kernel_rfl) (bytes_len x.2) rfl (bytesV_one _) ?_))
          refine wp_region_QL (LeastX w t p d (some an) B (some aa) B (some ab) B wr.heap.size x) (by kernel_rfl) (by kernel_rfl) HV.out.drew ?_
          repeat (first
            | (refine QL.load (o := ⟨some 83, _, _, _, _, _⟩) (by rfl) _ _ rfl _ rfl (bytesV x.1) (fun w h => h.law.a.atq HK2.out HX.out) (HG.out _) ?_)
            | (refine QL.load (o := ⟨some 84, _, _, _, _, _⟩) (by rfl) _ _ rfl _ rfl (bytesV x.1) (fun w h => h.box) (HG.out _) ?_)
            | (refine QL.load (o := ⟨some 90, _, _, _, _, _⟩) (by rfl) _ _ rfl _ rfl (bytesV x.1) (fun w h => h.law.b.atq HK2.out HX.out) (HG.out _) ?_)
            | (refine QL.load (o := ⟨some 91, _, _, _, _, _⟩) (by rfl) _ _ rfl _ rfl (bytesV x.1) (fun w h => h.box) (HG.out _) ?_)
            | (refine QL.load (o := ⟨some 95, _, _, _, _, _⟩) (by rfl) _ _ rfl _ rfl (bytesV t) (fun w h => h.law.tb) haT.out ?_)
            | (refine QL.load (o := ⟨some 96, _, _, _, _, _⟩) (by rfl) _ _ rfl _ rfl (bytesV x.1) (fun w h => h.box) (HG.out _) ?_)
            | (refine QL.step (fun K hK => ?_); go_simp
               first
                 | (refine hK _ ?_; clear hK K)
                 | (apply Exists.intro
                    refine ⟨fun w hw => ?_, hK _ ?_⟩
                    first
                      | with_reducible rfl
                      | (go_at_call 57
                         refine (metric_Rank t HTL.out x p d cap w hw.law.arg (fun a ha => Nat.lt_of_lt_of_le (HPB.out a ha) hw.law.bel.size) (by have := HD.out; omega)).mono ?_
                         rintro e w' ⟨m, rfl, hm, hbx⟩
                         obtain rfl := HRKx.out m hm
                         exact ⟨rfl, hw.below HPB.out hbx⟩)
                    clear hK K)))
          refine QL.nil ?_
          intro w7 hC7
          have HW : Hid (LeastW w t p d (some an) B (some aa) B (some ab) B w7) := Lib.hid hC7.law
          clear hC7 HV hr
          go_wp2_with fail
          go_roundw
          case rel => exact ⟨k + 1, by go_num, by omega, HW⟩
          case measure => simp [intOf]; omega
        · have hke : k = B.length := by omega
          subst hke
          go_wp2_with (go_at_call 48; refine (HLV.out _).mono ?_; rintro e w' ⟨rfl, hbx⟩)
          go_ret
          exact ⟨rfl, HW.out.bel.trans (hbx.mono HW.out.bel.size)⟩

theorem Least_walk (t : List UInt8) (ht : t.length = 20) (p : Option Addr) (d : Array Id20) (cap : Nat) (n : Int) (w : World) (hp : IdRow w p d) (hpb : ∀ a, p = some a → a.block < w.heap.size) :
    Calls Try.prog 12 #[.agg (bytesV t).toArray, .slice p d.size cap, .int .i64 n] w fun e w' => e = .returned (.bool true) ∧ Below w.heap.size w w' := by
  by_cases h : 50 < d.size ∨ n < 0 ∨ 100 < n
  · exact Least_out t ht p d cap n w h
  · exact Least_in t ht p d cap n w hp hpb (by omega) (by omega) (by omega)
end Go.Proofs.Ytjdmbegmbffhfaa
