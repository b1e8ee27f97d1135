/-
  The document's sum of a text (signpostref02.Sum) in the walk. Conditions: the bytes stand in the slice's cells.
-/
import Derived.Test.YtjdmbegmbffhfaaRefC
namespace Go.Proofs.Ytjdmbegmbffhfaa
open Go.RowKit

theorem aggRID : IsAgg Try.prog 34 20 := ⟨_, Try.underlying34, rfl, by kernel_rfl⟩
theorem blocks_out (hs : Nat → Nat) (l : List UInt8) (k : Nat) : eatH (blocks hs l k) ((l.drop (64 * k)).take 64) = blocks hs l (k + 1) := rfl
theorem begin0_cells : ([.int .u32 1732584193, .int .u32 4023233417, .int .u32 2562383102, .int .u32 271733878, .int .u32 3285377520] : List Value).toArray = wcells 5 begin0 := rfl

def setW (w : World) (g : Nat) (x : Nat → Nat) : World :=
  ((((w.setCell ⟨g, 0, none⟩ (.int .u32 (x 0 : Int))).setCell ⟨g, 1, none⟩ (.int .u32 (x 1 : Int))).setCell ⟨g, 2, none⟩ (.int .u32 (x 2 : Int))).setCell ⟨g, 3, none⟩ (.int .u32 (x 3 : Int))).setCell ⟨g, 4, none⟩ (.int .u32 (x 4 : Int))
theorem Words.setW {T : TypeId} {w : World} {g : Nat} {b : Nat → Nat} (h : Words 5 T w g b) (x : Nat → Nat) : Words 5 T (setW w g x) g x := by
  have h5 := ((((h.set_ 0 (x 0)).set_ 1 (x 1)).set_ 2 (x 2)).set_ 3 (x 3)).set_ 4 (x 4)
  have e : wcells 5 (upd (upd (upd (upd (upd b 0 (x 0)) 1 (x 1)) 2 (x 2)) 3 (x 3)) 4 (x 4)) = wcells 5 x := wcells_congr 5 _ _ fun j hj => by
    unfold upd
    match j, hj with
    | 0, _ => rfl
    | 1, _ => rfl
    | 2, _ => rfl
    | 3, _ => rfl
    | 4, _ => rfl
  unfold Words at h5 ⊢
  rw [e] at h5
  exact h5
theorem Only.setW (w : World) (g : Nat) (x : Nat → Nat) : Only (· = g) w (setW w g x) :=
  ((((Only.set_ w g 0 _).trans (Only.set_ _ g 1 _)).trans (Only.set_ _ g 2 _)).trans (Only.set_ _ g 3 _)).trans (Only.set_ _ g 4 _)

set_option maxRecDepth 100000 in
set_option maxHeartbeats 1600000 in
theorem ref_Sum (A : Option Addr) (cap : Nat) (l : List UInt8) (len : Nat) (hlen : len = l.length) (hl : len ≤ 1048576) (w : World) (h : Bytes w A l) :
    Calls Try.prog 21 #[.slice A len cap] w fun e w' => e = .returned (.agg (bytesV (shaB l)).toArray) ∧ Below w.heap.size w w' := by
  obtain ⟨i0, hi0, hz0, hz1, hz2⟩ := info_parts infoByte
  obtain ⟨P, hP⟩ : ∃ P, padB len = P := ⟨_, rfl⟩
  have hPl : P.length ≤ 72 := by rw [← hP, padB_length]; omega
  have hP9 : 9 ≤ P.length := by rw [← hP, padB_length]; omega
  have hmod : (l ++ P).length = 64 * ((l ++ P).length / 64) := by
    rw [List.length_append, ← hP, padB_length, ← hlen]; omega
  have hsha : shaB l = outB (blocks begin0 (l ++ P) ((l ++ P).length / 64)) 5 := by unfold shaB; rw [← hlen, hP]
  obtain ⟨N, hN⟩ : ∃ N, (l ++ P).length / 64 = N := ⟨_, rfl⟩
  rw [hN] at hmod hsha
  obtain ⟨T, hT⟩ : ∃ T, l ++ P = T := ⟨_, rfl⟩
  have hTl : len + P.length = T.length := by rw [← hT, List.length_append, hlen]
  rw [hT] at hmod hsha
  rw [hsha]
  have hxl : ∀ k j, blocks begin0 T k j < 4294967296 := fun k j => blocks_lt begin0 T begin0_lt k j
  have HXL := Lib.hid hxl
  obtain ⟨OB, hOB⟩ : ∃ OB, outB (blocks begin0 T N) 5 = OB := ⟨_, rfl⟩
  have hOl : OB.length = 20 := hOB ▸ outB_length _ 5
  rw [hOB]
  have HOB := Lib.hid hOB
  have HOl := Lib.hid hOl
  have HB := Lib.hid h
  have HL := Lib.hid hlen
  have HP := Lib.hid hP
  have HT := Lib.hid hT
  have HTl := Lib.hid hTl
  have HM := Lib.hid hmod
  clear hxl hOB hOl h hlen hP hT hTl hmod hsha hN
  have HF : Hid (SL ((w.alloc (.cells #[.int .u8 0, .int .u8 0, .int .u8 0, .int .u8 0, .int .u8 0, .int .u8 0, .int .u8 0, .int .u8 0, .int .u8 0, .int .u8 0, .int .u8 0, .int .u8 0, .int .u8 0, .int .u8 0, .int .u8 0, .int .u8 0, .int .u8 0, .int .u8 0, .int .u8 0, .int .u8 0] 34)).alloc (.cells #[] 5)) (w.heap.size + 1) 5 1 (.slice (some ⟨w.heap.size + 1, 0, none⟩) 0 0) 0 []) :=
    SL.mk_ (n := 0) (cur := #[]) (Nat.le_refl _) (heap_alloc2_new _ _ _) (Nat.le_refl _) (by simp) (by simp)
  have hb0 : Below w.heap.size w ((w.alloc (.cells #[.int .u8 0, .int .u8 0, .int .u8 0, .int .u8 0, .int .u8 0, .int .u8 0, .int .u8 0, .int .u8 0, .int .u8 0, .int .u8 0, .int .u8 0, .int .u8 0, .int .u8 0, .int .u8 0, .int .u8 0, .int .u8 0, .int .u8 0, .int .u8 0, .int .u8 0, .int .u8 0] 34)).alloc (.cells #[] 5)) := ((Below.refl _ _).alloc (Nat.le_refl _) _).alloc (by simp) _
  have HI : Hid (((w.alloc (.cells #[.int .u8 0, .int .u8 0, .int .u8 0, .int .u8 0, .int .u8 0, .int .u8 0, .int .u8 0, .int .u8 0, .int .u8 0, .int .u8 0, .int .u8 0, .int .u8 0, .int .u8 0, .int .u8 0, .int .u8 0, .int .u8 0, .int .u8 0, .int .u8 0, .int .u8 0, .int .u8 0] 34)).alloc (.cells #[] 5)).heap[w.heap.size]? = some (.cells #[.int .u8 0, .int .u8 0, .int .u8 0, .int .u8 0, .int .u8 0, .int .u8 0, .int .u8 0, .int .u8 0, .int .u8 0, .int .u8 0, .int .u8 0, .int .u8 0, .int .u8 0, .int .u8 0, .int .u8 0, .int .u8 0, .int .u8 0, .int .u8 0, .int .u8 0, .int .u8 0] 34 (0, 0))) := Lib.hid ((heap_alloc_old _ _ (by simp)).trans (heap_alloc_new _ _))
  have HS : Hid (Src Try.prog 1 30 (.slice A len cap) len (bytesV l) ((w.alloc (.cells #[.int .u8 0, .int .u8 0, .int .u8 0, .int .u8 0, .int .u8 0, .int .u8 0, .int .u8 0, .int .u8 0, .int .u8 0, .int .u8 0, .int .u8 0, .int .u8 0, .int .u8 0, .int .u8 0, .int .u8 0, .int .u8 0, .int .u8 0, .int .u8 0, .int .u8 0, .int .u8 0] 34)).alloc (.cells #[] 5))) := Lib.hid ((HB.out.below hb0).src HL.out)
  have HB0 := Lib.hid hb0
  clear hb0
  go_enter Try.func21, Try.ntmps21
  go_wp2_with (at_builtin; refine wpList_append_SL rfl (.tmp 9) (.tmp 10) 30 30 rfl (w.heap.size + 1) 5 i0 _ 1 1 Try.underlying30 hi0 hz0 hz1 hz2 rfl (by omega) _ 0 [] rfl HF.out _ len (bytesV l) rfl HS.out (by simp only [maxLen]; omega) (by omega) (by simp) ?_; intro v1 w1 hsl1 hgr1 hob1)
  rw [Nat.zero_add, List.nil_append] at hsl1
  obtain ⟨A1, c1, rfl, hc1, hc1', _, _⟩ := SL.shape hsl1
  have P1 : Only (fun k => k = w.heap.size + 1) ((w.alloc (.cells #[.int .u8 0, .int .u8 0, .int .u8 0, .int .u8 0, .int .u8 0, .int .u8 0, .int .u8 0, .int .u8 0, .int .u8 0, .int .u8 0, .int .u8 0, .int .u8 0, .int .u8 0, .int .u8 0, .int .u8 0, .int .u8 0, .int .u8 0, .int .u8 0, .int .u8 0, .int .u8 0] 34)).alloc (.cells #[] 5)) w1 := Only.of_grown hgr1 fun k hk _ => (Option.some.inj hk).symm
  have lI : w.heap.size < ((w.alloc (.cells #[.int .u8 0, .int .u8 0, .int .u8 0, .int .u8 0, .int .u8 0, .int .u8 0, .int .u8 0, .int .u8 0, .int .u8 0, .int .u8 0, .int .u8 0, .int .u8 0, .int .u8 0, .int .u8 0, .int .u8 0, .int .u8 0, .int .u8 0, .int .u8 0, .int .u8 0, .int .u8 0] 34)).alloc (.cells #[] 5)).heap.size := by simp; omega
  have HI1 : Hid (w1.heap[w.heap.size]? = some (.cells #[.int .u8 0, .int .u8 0, .int .u8 0, .int .u8 0, .int .u8 0, .int .u8 0, .int .u8 0, .int .u8 0, .int .u8 0, .int .u8 0, .int .u8 0, .int .u8 0, .int .u8 0, .int .u8 0, .int .u8 0, .int .u8 0, .int .u8 0, .int .u8 0, .int .u8 0, .int .u8 0] 34 (0, 0))) := Lib.hid ((P1.block _ lI (by omega)).trans HI.out)
  have HB1 : Hid (Below w.heap.size w w1) := Lib.hid (HB0.out.trans (P1.below HB0.out.size fun k hk he => by omega))
  have hs1 : w.heap.size + 1 ≤ w1.heap.size := Nat.le_trans (by simp) P1.size
  refine (ref_Pad len (by omega) _).mono ?_; rintro e w2 ⟨v2, rfl, hsl2, hb2⟩
  rw [HP.out] at hsl2
  obtain ⟨A2, c2, rfl, hc2, hc2', _, _⟩ := SL.shape hsl2
  have HV1 := Lib.hid (SL.later hsl1 hb2)
  have HV2 := Lib.hid (SL.src hsl2)
  have HI2 : Hid (w2.heap[w.heap.size]? = some (.cells #[.int .u8 0, .int .u8 0, .int .u8 0, .int .u8 0, .int .u8 0, .int .u8 0, .int .u8 0, .int .u8 0, .int .u8 0, .int .u8 0, .int .u8 0, .int .u8 0, .int .u8 0, .int .u8 0, .int .u8 0, .int .u8 0, .int .u8 0, .int .u8 0, .int .u8 0, .int .u8 0] 34 (0, 0))) := Lib.hid ((hb2.block _ (by omega)).trans HI1.out)
  have HB2 := Lib.hid (HB1.out.trans (hb2.mono HB1.out.size))
  have hs2 : w.heap.size + 1 ≤ w2.heap.size := Nat.le_trans hs1 hb2.size
  clear hgr1 hob1 P1 lI HI1 HB1 HI HB0 HF HS hsl1 hsl2 hb2 hs1
  go_wp2_with (first
    | (at_builtin; refine wpList_append_SL rfl (.tmp 11) (.tmp 15) 30 30 rfl (w.heap.size + 1) 5 i0 _ 1 1 Try.underlying30 hi0 hz0 hz1 hz2 rfl (by omega) _ len _ rfl HV1.out _ P.length (bytesV P) rfl HV2.out (by simp only [maxLen]; omega) (by omega) (by omega) ?_; intro v3 w3 hsl3 hgr3 hob3)
    | refine wpList_store_new (o := ⟨none, _, _, _, _, _⟩) rfl _ (.tmp 4) (.tmp 17) rfl _ _ rfl [.int .u32 1732584193, .int .u32 4023233417, .int .u32 2562383102, .int .u32 271733878, .int .u32 3285377520] rfl 5 (by kernel_rfl) rfl rfl (by simp [Value.oneCell']) ?_)
  have P3 : Only (fun k => w.heap.size + 1 ≤ k) w2 w3 := Only.of_grown (show w2.grownBy w3 (Value.slice A1 len c1).ownBlock from hgr3) fun k hk _ => (SL.block_lt HV1.out hk).2
  have HI3 : Hid (w3.heap[w.heap.size]? = some (.cells #[.int .u8 0, .int .u8 0, .int .u8 0, .int .u8 0, .int .u8 0, .int .u8 0, .int .u8 0, .int .u8 0, .int .u8 0, .int .u8 0, .int .u8 0, .int .u8 0, .int .u8 0, .int .u8 0, .int .u8 0, .int .u8 0, .int .u8 0, .int .u8 0, .int .u8 0, .int .u8 0] 34 (0, 0))) := Lib.hid ((P3.block _ (by omega) (by omega)).trans HI2.out)
  have HB3 : Hid (Below w.heap.size w w3) := Lib.hid (HB2.out.trans (P3.below HB2.out.size fun k hk he => by omega))
  have hs3 : w.heap.size + 1 ≤ w3.heap.size := Nat.le_trans hs2 P3.size
  rw [← bytesV_append, HT.out, HTl.out] at hsl3
  obtain ⟨A3, c3, rfl, hc3, hc3', hn3, hr3⟩ := SL.shape hsl3
  have HS3 := Lib.hid hsl3
  have HN3 := Lib.hid hn3
  have HR3 := Lib.hid hr3
  clear hgr3 hob3 P3 hsl3 hn3 hr3 HI2 HB2 HV1 HV2
  have hg5 : Words 5 43 (w3.alloc (.cells ([.int .u32 1732584193, .int .u32 4023233417, .int .u32 2562383102, .int .u32 271733878, .int .u32 3285377520] : List Value).toArray 43)) w3.heap.size begin0 := heap_alloc_new _ _
  have HG := Lib.hid hg5
  have HS4 := Lib.hid (SL.alloc HS3.out (.cells ([.int .u32 1732584193, .int .u32 4023233417, .int .u32 2562383102, .int .u32 271733878, .int .u32 3285377520] : List Value).toArray 43))
  have HI4 : Hid ((w3.alloc (.cells ([.int .u32 1732584193, .int .u32 4023233417, .int .u32 2562383102, .int .u32 271733878, .int .u32 3285377520] : List Value).toArray 43)).heap[w.heap.size]? = some (.cells #[.int .u8 0, .int .u8 0, .int .u8 0, .int .u8 0, .int .u8 0, .int .u8 0, .int .u8 0, .int .u8 0, .int .u8 0, .int .u8 0, .int .u8 0, .int .u8 0, .int .u8 0, .int .u8 0, .int .u8 0, .int .u8 0, .int .u8 0, .int .u8 0, .int .u8 0, .int .u8 0] 34 (0, 0))) := Lib.hid ((heap_alloc_old _ _ (by omega)).trans HI3.out)
  have HB4 := Lib.hid (HB3.out.alloc HB3.out.size (.cells ([.int .u32 1732584193, .int .u32 4023233417, .int .u32 2562383102, .int .u32 271733878, .int .u32 3285377520] : List Value).toArray 43))
  have nlt : ∀ g, (Value.slice A3 T.length c3).ownBlock = some g → g < w3.heap.size := fun g hg => (SL.block_lt HS3.out hg).1
  have NLT := Lib.hid nlt
  clear hg5 HS3 HI3 HB3 nlt
  have hL0 : 9 ≤ T.length := by have := HTl.out; omega
  have hLM : T.length ≤ 1048648 := by have := HTl.out; omega
  obtain ⟨ad, rfl⟩ : ∃ ad, A3 = some ad := by
    cases A3 with
    | some ad => exact ⟨ad, rfl⟩
    | none => have := (HN3.out rfl).1; omega
  obtain ⟨ab, ao, rfl⟩ : ∃ ab ao, ad = ⟨ab, ao, none⟩ := by
    have := (HR3.out ad rfl).2.2
    exact ⟨ad.block, ad.off, by cases ad; simp_all⟩
  have hab : ab < w3.heap.size := NLT.out ab rfl
  have HR4 : Hid (Row (w3.alloc (.cells ([.int .u32 1732584193, .int .u32 4023233417, .int .u32 2562383102, .int .u32 271733878, .int .u32 3285377520] : List Value).toArray 43)) ⟨ab, ao, none⟩ (bytesV T)) := Lib.hid ((HR3.out _ rfl).2.1.below (Below.alloc (Below.refl w3.heap.size w3) (Nat.le_refl _) _) hab)
  generalize hL : T.length = L at *
  have HLn := Lib.hid hL
  have hab0 : ab ≠ w3.heap.size := by omega
  have hg0 : w.heap.size < w3.heap.size := by omega
  have hsz4 : w3.heap.size ≤ (w3.alloc (.cells ([.int .u32 1732584193, .int .u32 4023233417, .int .u32 2562383102, .int .u32 271733878, .int .u32 3285377520] : List Value).toArray 43)).heap.size := by simp
  have HH4 := Lib.hid hsz4
  clear hL NLT HS4 HN3 HR3 hab hs3 hsz4
  generalize (w3.alloc (.cells ([.int .u32 1732584193, .int .u32 4023233417, .int .u32 2562383102, .int .u32 271733878, .int .u32 3285377520] : List Value).toArray 43)) = W4 at *
  generalize w3.heap.size = g at *
  go_loopw [5] (fun i wr => ∃ k a : Nat, i = .int .i64 (a : Int) ∧ a = 64 * k ∧ k ≤ N ∧ Hid (Words 5 43 wr g (blocks begin0 T k)) ∧ Hid (Row wr ⟨ab, ao, none⟩ (bytesV T)) ∧ Hid (wr.heap[w.heap.size]? = some (.cells #[.int .u8 0, .int .u8 0, .int .u8 0, .int .u8 0, .int .u8 0, .int .u8 0, .int .u8 0, .int .u8 0, .int .u8 0, .int .u8 0, .int .u8 0, .int .u8 0, .int .u8 0, .int .u8 0, .int .u8 0, .int .u8 0, .int .u8 0, .int .u8 0, .int .u8 0, .int .u8 0] 34 (0, 0))) ∧ Hid (Below w.heap.size w wr)) (fun i _ => L - (intOf i).toNat)
  case atStart => exact ⟨0, 0, rfl, rfl, by omega, HG, HR4, HI4, HB4⟩
  case round =>
    clear HG HR4 HI4 HB4
    obtain ⟨k, a, rfl, hak, hk, J1, J2, J3, J4⟩ := hrel
    by_cases hlt : k < N
    · have ha64 : a + 64 ≤ L := by have := HM.out; omega
      have g1 : (a : Int) + 64 ≤ (L : Int) := by omega
      have g2 : (a : Int) + 64 ≤ (c3 : Int) := by omega
      have g3 : (a : Int) < (L : Int) := by omega
      have hne : ¬ c3 = a := by omega
      have hca : 64 ≤ c3 - a := by omega
      have hcm : c3 - a ≤ maxLen := by omega
      have hbt := HXL.out k
      have hnx := blocks_out begin0 T k
      rw [← hak] at hnx
      have q1 := J1.out
      generalize blocks begin0 T k = b at *
      have q0 := q1.cell 0 (by omega)
      have q2 := q1.cell 1 (by omega)
      have q3 := q1.cell 2 (by omega)
      have q4 := q1.cell 3 (by omega)
      have q5 := q1.cell 4 (by omega)
      have hTl : ((T.drop a).take 64).length = 64 := by rw [List.length_take, List.length_drop, HLn.out]; omega
      have hby : ∀ w', Row w' ⟨ab, ao, none⟩ (bytesV T) → Bytes w' (some ⟨ab, ao + a, none⟩) ((T.drop a).take 64) := fun w' h => by
        have h1 := Row.part h a 64
        rw [add_mk] at h1
        have h2 : (bytesV T).drop a = bytesV (T.drop a) := by simp [bytesV, List.map_drop]
        rw [h2] at h1
        have h3 : (bytesV (T.drop a)).take 64 = bytesV ((T.drop a).take 64) := by simp [bytesV, List.map_take]
        rw [h3] at h1
        exact ⟨fun h => by (cases h), fun ad had => by obtain rfl := Option.some.inj had; exact h1⟩
      obtain ⟨x, hx⟩ : ∃ x, eatH b ((T.drop a).take 64) = x := ⟨_, rfl⟩
      have HE : Hid (Calls Try.prog 66 #[.agg #[.int .u32 (b 0 : Int), .int .u32 (b 1 : Int), .int .u32 (b 2 : Int), .int .u32 (b 3 : Int), .int .u32 (b 4 : Int)], .slice (some ⟨ab, ao + a, none⟩) 64 (c3 - a)] wr.drew fun e w' =>
          e = .returned (.agg #[.int .u32 (x 0 : Int), .int .u32 (x 1 : Int), .int .u32 (x 2 : Int), .int .u32 (x 3 : Int), .int .u32 (x 4 : Int)]) ∧ Below wr.drew.heap.size wr.drew w') :=
        Lib.hid (by
          have := ref_block b hbt (some ⟨ab, ao + a, none⟩) (c3 - a) ((T.drop a).take 64) wr.drew (hby _ J2.out) hTl hca hcm
          rw [hx, wcells5, wcells5] at this
          exact this)
      rw [hx] at hnx
      have HX := Lib.hid hnx
      have Q1 := Lib.hid q1
      have hgl : g < wr.heap.size := q1.lt
      have habl : ab < wr.heap.size := by
        have h0 : (bytesV T)[0]? ≠ none := by
          intro h
          rw [List.getElem?_eq_none_iff, bytesV_length, HLn.out] at h
          omega
        obtain ⟨v, hv⟩ := Option.ne_none_iff_exists'.1 h0
        have := block_lt_of_cell (J2.out 0 v hv)
        rw [add_block] at this
        exact this
      have hwp : IntKind.i64.wrap ((a : Int) + 64) = (a : Int) + 64 := by rw [IntKind.wrap_i64]; omega
      have hge0 : (0 : Int) ≤ (a : Int) + 64 := by omega
      have hmx : max ((a : Int) + 64) 0 = (a : Int) + 64 := by omega
      have htn : ((a : Int) + 64).toNat = a + 64 := by omega
      have htn2 : a + 64 - a = 64 := by omega
      have HAK := Lib.hid hak
      have hlt' := Lib.hid hlt
      have hk' := Lib.hid hk
      clear hak hlt hk
      clear hbt hnx q1 J1 hTl hby hx
      go_wp2_with fail
      go_region_law (first
        | (go_simp; go_at_call 66; refine HE.out.mono ?_; rintro e w4 ⟨rfl, hb4⟩
           have HH4 := Lib.hid (Words.far (S := fun _ => False) Q1.out (Only.of_drew (Only.of_below hb4)) id)
           have r1 : w4.cell? ⟨g, 0, none⟩ = some (.int .u32 (b 0 : Int)) := HH4.out.cell 0 (by omega)
           have r2 : w4.cell? ⟨g, 1, none⟩ = some (.int .u32 (b 1 : Int)) := HH4.out.cell 1 (by omega)
           have r3 : w4.cell? ⟨g, 2, none⟩ = some (.int .u32 (b 2 : Int)) := HH4.out.cell 2 (by omega)
           have r4 : w4.cell? ⟨g, 3, none⟩ = some (.int .u32 (b 3 : Int)) := HH4.out.cell 3 (by omega)
           have r5 : w4.cell? ⟨g, 4, none⟩ = some (.int .u32 (b 4 : Int)) := HH4.out.cell 4 (by omega)
           have z1 := HH4.out.free 0
           have z2 := HH4.out.free 1
           have z3 := HH4.out.free 2
           have z4 := HH4.out.free 3
           have z5 := HH4.out.free 4))
      have K1 := Lib.hid (HH4.out.setW x)
      have ho : Only (· = g) wr (setW w4 g x) := (Only.of_drew (Only.of_below hb4)).trans (Only.setW w4 g x)
      have K2 := Lib.hid (ho.row J2.out habl hab0)
      have K3 := Lib.hid ((ho.block w.heap.size (by omega) (by omega)).trans J3.out)
      have K4 := Lib.hid (J4.out.trans (Only.below ho J4.out.size fun k hk he => by omega))
      clear hb4 HH4 r1 r2 r3 r4 r5 z1 z2 z3 z4 z5 ho HE q0 q2 q3 q4 q5 J2 J3 J4
      change Exit.inBlock _ _ _ _ (setW w4 g x)
      generalize setW w4 g x = w5 at *
      go_wp2_with fail
      go_roundw
      case rel => exact ⟨k + 1, a + 64, by go_num, by have := HAK.out; omega, by have := hlt'.out; omega, by rw [← HX.out]; exact K1, K2, K3, K4⟩
      case measure => simp [intOf]; omega
    · have hkN : k = N := by omega
      rw [hkN] at J1
      have HX := Lib.hid (HXL.out N)
      generalize blocks begin0 T N = x at *
      have hge : ¬ a < L := by have := HM.out; omega
      have hgl : g < wr.heap.size := J1.out.lt
      obtain ⟨wo, rfl⟩ : ∃ wo : World, wo = wr := ⟨_, rfl⟩
      obtain ⟨a0, rfl⟩ : ∃ a0 : Nat, a0 = a := ⟨_, rfl⟩
      have hg1 : w.heap.size ≠ g := by omega
      clear hkN hak hk hlt J2
      go_wp2_with fail
      go_loopw [6, 7] (fun v i wr => ∃ k : Nat, i = .int .i64 k ∧ k ≤ 5 ∧ ∃ A' c', v = .slice A' (4 * k) c' ∧ Hid (Bytes wr A' (outB x k)) ∧ Hid (Words 5 43 wr g x) ∧ Hid (wr.heap[w.heap.size]? = some (.cells #[.int .u8 0, .int .u8 0, .int .u8 0, .int .u8 0, .int .u8 0, .int .u8 0, .int .u8 0, .int .u8 0, .int .u8 0, .int .u8 0, .int .u8 0, .int .u8 0, .int .u8 0, .int .u8 0, .int .u8 0, .int .u8 0, .int .u8 0, .int .u8 0, .int .u8 0, .int .u8 0] 34 (0, 0))) ∧ Hid (Below w.heap.size w wr)) (fun _ i _ => 5 - (intOf i).toNat)
      case atStart => exact ⟨0, rfl, by omega, none, 0, rfl, Lib.hid ⟨fun _ => rfl, fun ad h => by cases h⟩, J1, J3, J4⟩
      case round =>
        clear J1 J3 J4 hgl
        obtain ⟨k, rfl, hk, A', c', rfl, HY, J1, J3, J4⟩ := hrel
        by_cases hlt : k < 5
        · have hcx := J1.out.cell k hlt
          have hk5 : (k : Int) < 5 := by omega
          have hxk := HX.out k
          have HY0 := HY.out
          have hol := (outB_length x k).symm
          have hsn : outB x (k + 1) = outB x k ++ putB (x k) 4 := rfl
          have e1 : IntKind.u64.wrap (x k : Int) = (x k : Int) := by rw [IntKind.wrap_u64]; omega
          have hgl : g < wr.heap.size := J1.out.lt
          have hwl : w.heap.size < wr.heap.size := by
            have h1 := J3.out
            rw [Array.getElem?_eq_some_iff] at h1
            exact h1.1
          have HP := Lib.hid (ref_Put A' c' (outB x k) (4 * k) (x k) 4 wr HY.out hol (by omega) (by omega) (by omega) (by omega))
          have HSN := Lib.hid hsn
          clear hsn hol HY0
          generalize x k = xk at *
          go_wp2_with fail
          refine HP.out.mono ?_; rintro e w5 ⟨v5, rfl, hsl, hb5⟩
          obtain ⟨A5, c5, rfl, _, _, hy5⟩ := SLb.bytes hsl
          rw [← HSN.out] at hy5 ⊢
          have hln : (outB x (k + 1)).length = 4 * (k + 1) := outB_length x (k + 1)
          rw [hln]
          have HY5 := Lib.hid hy5
          have K1 := Lib.hid (Words.far (S := fun _ => False) J1.out (Only.of_below hb5) id)
          have K3 := Lib.hid ((hb5.block w.heap.size hwl).trans J3.out)
          have K4 := Lib.hid (J4.out.trans (hb5.mono J4.out.size))
          clear hsl hy5 hb5 HP e1 hln HSN
          go_wp2_with fail
          go_roundw
          case rel => exact ⟨k + 1, by go_num, by omega, A5, c5, rfl, HY5, K1, K3, K4⟩
          case measure => simp [intOf]; omega
        · have hk5 : k = 5 := by omega
          rw [hk5, HOB.out] at HY
          have h20 : 4 * k = 20 := by omega
          rw [h20]
          have hge5 : (5 : Int) ≤ (k : Int) := by omega
          clear hk5 h20
          obtain ⟨ad, rfl⟩ : ∃ ad, A' = some ad := by
            cases A' with
            | some ad => exact ⟨ad, rfl⟩
            | none =>
              have h1 := HY.out.nil_ rfl
              have h2 := HOl.out
              rw [h1] at h2
              exact absurd h2 (by decide)
          have hl20 : (bytesV OB).length = 20 := by rw [bytesV_length]; exact HOl.out
          have hwl : w.heap.size < wr.heap.size := by
            have h1 := J3.out
            rw [Array.getElem?_eq_some_iff] at h1
            exact h1.1
          have hcat : (#[.int .u8 0, .int .u8 0, .int .u8 0, .int .u8 0, .int .u8 0, .int .u8 0, .int .u8 0, .int .u8 0, .int .u8 0, .int .u8 0, .int .u8 0, .int .u8 0, .int .u8 0, .int .u8 0, .int .u8 0, .int .u8 0, .int .u8 0, .int .u8 0, .int .u8 0, .int .u8 0] : Array Value).toList.take 0 ++ (bytesV OB ++ (#[.int .u8 0, .int .u8 0, .int .u8 0, .int .u8 0, .int .u8 0, .int .u8 0, .int .u8 0, .int .u8 0, .int .u8 0, .int .u8 0, .int .u8 0, .int .u8 0, .int .u8 0, .int .u8 0, .int .u8 0, .int .u8 0, .int .u8 0, .int .u8 0, .int .u8 0, .int .u8 0] : Array Value).toList.drop (0 + (bytesV OB).length)) = bytesV OB := by
            rw [hl20]
            simp
          have HNZ : Hid ((wr.alloc (.cells #[.int .u8 0, .int .u8 0, .int .u8 0, .int .u8 0, .int .u8 0, .int .u8 0, .int .u8 0, .int .u8 0, .int .u8 0, .int .u8 0, .int .u8 0, .int .u8 0, .int .u8 0, .int .u8 0, .int .u8 0, .int .u8 0, .int .u8 0, .int .u8 0, .int .u8 0, .int .u8 0] 34)).heap[wr.heap.size]? = some (.cells #[.int .u8 0, .int .u8 0, .int .u8 0, .int .u8 0, .int .u8 0, .int .u8 0, .int .u8 0, .int .u8 0, .int .u8 0, .int .u8 0, .int .u8 0, .int .u8 0, .int .u8 0, .int .u8 0, .int .u8 0, .int .u8 0, .int .u8 0, .int .u8 0, .int .u8 0, .int .u8 0] 34 (0, 0))) := Lib.hid (heap_alloc_new _ _)
          have hg' : ((wr.alloc (.cells #[.int .u8 0, .int .u8 0, .int .u8 0, .int .u8 0, .int .u8 0, .int .u8 0, .int .u8 0, .int .u8 0, .int .u8 0, .int .u8 0, .int .u8 0, .int .u8 0, .int .u8 0, .int .u8 0, .int .u8 0, .int .u8 0, .int .u8 0, .int .u8 0, .int .u8 0, .int .u8 0] 34)).setRow wr.heap.size (bytesV OB).toArray).heap[wr.heap.size]? = some (.cells (bytesV OB).toArray 34 (0, 0)) := setRow_heap _ _ _ _ _ _ HNZ.out
          have hg3 : ((wr.alloc (.cells #[.int .u8 0, .int .u8 0, .int .u8 0, .int .u8 0, .int .u8 0, .int .u8 0, .int .u8 0, .int .u8 0, .int .u8 0, .int .u8 0, .int .u8 0, .int .u8 0, .int .u8 0, .int .u8 0, .int .u8 0, .int .u8 0, .int .u8 0, .int .u8 0, .int .u8 0, .int .u8 0] 34)).setRow wr.heap.size (bytesV OB).toArray).heap[w.heap.size]? = some (.cells #[.int .u8 0, .int .u8 0, .int .u8 0, .int .u8 0, .int .u8 0, .int .u8 0, .int .u8 0, .int .u8 0, .int .u8 0, .int .u8 0, .int .u8 0, .int .u8 0, .int .u8 0, .int .u8 0, .int .u8 0, .int .u8 0, .int .u8 0, .int .u8 0, .int .u8 0, .int .u8 0] 34 (0, 0)) := (setRow_other _ _ _ _ (by omega)).trans ((heap_alloc_old _ _ hwl).trans J3.out)
          have haI : IsAgg Try.prog 34 (bytesV OB).length := by rw [hl20]; exact aggRID
          have hB1 : Row (wr.alloc (.cells #[.int .u8 0, .int .u8 0, .int .u8 0, .int .u8 0, .int .u8 0, .int .u8 0, .int .u8 0, .int .u8 0, .int .u8 0, .int .u8 0, .int .u8 0, .int .u8 0, .int .u8 0, .int .u8 0, .int .u8 0, .int .u8 0, .int .u8 0, .int .u8 0, .int .u8 0, .int .u8 0] 34)) ad (bytesV OB) := Bytes.row (HY.out.below ((Below.refl _ _).alloc (Nat.le_refl _) _)) ad rfl
          have HB1 := Lib.hid hB1
          have HG' := Lib.hid hg'
          have HG3 := Lib.hid hg3
          have HL20 := Lib.hid hl20
          have hfit : 0 + (bytesV OB).length ≤ (#[.int .u8 0, .int .u8 0, .int .u8 0, .int .u8 0, .int .u8 0, .int .u8 0, .int .u8 0, .int .u8 0, .int .u8 0, .int .u8 0, .int .u8 0, .int .u8 0, .int .u8 0, .int .u8 0, .int .u8 0, .int .u8 0, .int .u8 0, .int .u8 0, .int .u8 0, .int .u8 0] : Array Value).size := by rw [hl20]; decide
          have hmin : (bytesV OB).length = Nat.min 20 20 := hl20
          have hsz : (bytesV OB).toArray.size = 20 := by rw [List.size_toArray]; exact hl20
          have HFIT := Lib.hid hfit
          have HMIN := Lib.hid hmin
          have HSZ := Lib.hid hsz
          clear hB1 hg' hg3 hl20 hfit hmin hsz
          have hcp : (Builtin.copy_ #[30, 30] 3 #[.slice (some ⟨wr.heap.size, 0, none⟩) 20 20, .slice (some ad) 20 c']).run Try.prog (wr.alloc (.cells #[.int .u8 0, .int .u8 0, .int .u8 0, .int .u8 0, .int .u8 0, .int .u8 0, .int .u8 0, .int .u8 0, .int .u8 0, .int .u8 0, .int .u8 0, .int .u8 0, .int .u8 0, .int .u8 0, .int .u8 0, .int .u8 0, .int .u8 0, .int .u8 0, .int .u8 0, .int .u8 0] 34)) = .ok (goInt (bytesV OB).length) ((wr.alloc (.cells #[.int .u8 0, .int .u8 0, .int .u8 0, .int .u8 0, .int .u8 0, .int .u8 0, .int .u8 0, .int .u8 0, .int .u8 0, .int .u8 0, .int .u8 0, .int .u8 0, .int .u8 0, .int .u8 0, .int .u8 0, .int .u8 0, .int .u8 0, .int .u8 0, .int .u8 0, .int .u8 0] 34)).setRow wr.heap.size (bytesV OB).toArray) := by
            have h1 := run_copy_row (P := Try.prog) (wr.alloc (.cells #[.int .u8 0, .int .u8 0, .int .u8 0, .int .u8 0, .int .u8 0, .int .u8 0, .int .u8 0, .int .u8 0, .int .u8 0, .int .u8 0, .int .u8 0, .int .u8 0, .int .u8 0, .int .u8 0, .int .u8 0, .int .u8 0, .int .u8 0, .int .u8 0, .int .u8 0, .int .u8 0] 34)) 30 30 3 5 wr.heap.size 0 20 20 ad 20 c' #[.int .u8 0, .int .u8 0, .int .u8 0, .int .u8 0, .int .u8 0, .int .u8 0, .int .u8 0, .int .u8 0, .int .u8 0, .int .u8 0, .int .u8 0, .int .u8 0, .int .u8 0, .int .u8 0, .int .u8 0, .int .u8 0, .int .u8 0, .int .u8 0, .int .u8 0, .int .u8 0] _ (bytesV OB) Try.underlying30 (by kernel_rfl) HNZ.out HMIN.out HB1.out HFIT.out (bytesV_one _)
            rw [List.append_assoc, hcat] at h1
            exact h1
          have ho2 : Below w.heap.size w ((wr.alloc (.cells #[.int .u8 0, .int .u8 0, .int .u8 0, .int .u8 0, .int .u8 0, .int .u8 0, .int .u8 0, .int .u8 0, .int .u8 0, .int .u8 0, .int .u8 0, .int .u8 0, .int .u8 0, .int .u8 0, .int .u8 0, .int .u8 0, .int .u8 0, .int .u8 0, .int .u8 0, .int .u8 0] 34)).setRow wr.heap.size (bytesV OB).toArray) := below_setRow (J4.out.alloc J4.out.size _) J4.out.size _
          have HO2 := Lib.hid ho2
          clear ho2
          go_wp2_with (first
            | refine wpList_load_agg (o := ⟨some 44, _, _, _, _, _⟩) rfl _ (.tmp 8) rfl _ rfl (bytesV OB) (Row.of_block HG'.out) haI ?_
            | refine wpList_store_row (o := ⟨none, _, _, _, _, _⟩) rfl _ (.tmp 2) (.tmp 44) rfl w.heap.size rfl (bytesV OB) rfl _ _ HG3.out 20 (by kernel_rfl) HL20.out rfl (bytesV_one _) ?_)
          have hg2 : (World.setRow _ w.heap.size (bytesV OB).toArray).heap[w.heap.size]? = some (.cells (bytesV OB).toArray 34 (0, 0)) := setRow_heap _ _ _ _ _ _ HG3.out
          have hsz2 : (Try.prog.info? 34).map (·.size) = some (bytesV OB).toArray.size := by rw [HSZ.out]; kernel_rfl
          exact bodyPost_ret (results_cell_row Try.results21 _ _ w.heap.size _ _ _ _ rfl hg2 Try.underlying34 rfl hsz2) rfl ⟨rfl, HO2.out.trans (Only.below (Only.setRow _ _ _) HO2.out.size fun k hk he => by omega)⟩
end Go.Proofs.Ytjdmbegmbffhfaa
