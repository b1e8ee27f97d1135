/-
  What ident.value, ident.Parse compute. Conditions: the text fits in memory.
-/
import Derived.Test.YtjdmbegmbffhfaaIdQ
import Derived.Laws.ResultCell
namespace Go.Proofs.Ytjdmbegmbffhfaa
open Go.RowKit

theorem results_row_tmp {P : Program} {fn : Func} {p u : Tmp} {ty : TypeId} (h : fn.results = #[.cell p ty, .tmp u]) (tmps : Array Value) (w : World) (g : Nat) (t : TypeId) (cs : Array Value) (fr : Nat × Nat) (d : TypeDesc)
    (hp : tmps.getD p undef = .pointer (some ⟨g, 0, none⟩)) (hg : w.heap[g]? = some (.cells cs t fr))
    (hu : P.underlying ty = some d) (hd : (match d with | .struct _ | .array _ _ => true | _ => false) = true) (hi : (P.info? ty).map (·.size) = some cs.size) :
    (results fn tmps).run P w = .ok (.tuple #[.agg cs, tmps.getD u undef]) w := by
  rw [results_cell_tmp h, hp]
  simp [asAddr, run_loadVar_row w g t ty cs fr d hg hu hd hi]

/-- A byte of a string. -/
theorem index_str {P : Program} (w : World) {t : TypeId} (ht : P.underlying t = some .string) (l : List UInt8) (k : Nat) (x : UInt8) (hx : l[k]? = some x) :
    (Instr.index t (.string ⟨l.toArray⟩) (.int .i64 (k : Int))).run P w = .ok (.int .u8 (x.toNat : Int)) w := by
  have hk : k < l.length := (List.getElem?_eq_some_iff.1 hx).1
  have hg : (⟨l.toArray⟩ : ByteArray)[k]? = some x := by
    rw [ByteArray.getElem?_lt' _ _ (show k < (⟨l.toArray⟩ : ByteArray).size from hk)]
    have h2 : l[k] = x := by rw [List.getElem?_eq_getElem hk] at hx; exact Option.some.inj hx
    exact congrArg some h2
  simp [Instr.index, run_underlying ht, asIntOf, hg, go_sem]

set_option maxRecDepth 100000 in
set_option maxHeartbeats 1000000 in
theorem ident_value (c : UInt8) (w : World) : Calls Try.prog 73 #[.int .u8 (c.toNat : Int)] w fun e w' =>
    e = .returned (.tuple #[.int .u8 (((valB c).getD 0 : Nat) : Int), .bool (valB c).isSome]) ∧ w = w' := by
  have hc := c.toNat_lt
  unfold valB
  generalize c.toNat = x at *
  have hcase : (48 ≤ x ∧ x ≤ 57) ∨ (97 ≤ x ∧ x ≤ 102) ∨ (x < 48) ∨ (57 < x ∧ x < 97) ∨ 102 < x := by omega
  rcases hcase with ⟨h1, h2⟩ | ⟨h1, h2⟩ | h1 | ⟨h1, h2⟩ | h1
  · rw [if_pos ⟨h1, h2⟩]
    have g1 : (48 : Int) ≤ (x : Int) := by omega
    have g2 : (x : Int) ≤ 57 := by omega
    have e1 : (((x - 48 : Nat)) : Int) = (x : Int) - 48 := by omega
    have e2 : IntKind.u8.wrap ((x : Int) - 48) = (x : Int) - 48 := by rw [IntKind.wrap_u8]; omega
    simp only [Option.getD_some, Option.isSome_some, e1]
    go_enter Try.func73, Try.ntmps73
    go_wp2
    go_ret2
    exact ⟨rfl, rfl⟩
  · rw [if_neg (by omega), if_pos ⟨h1, h2⟩]
    have g1 : (97 : Int) ≤ (x : Int) := by omega
    have g2 : (x : Int) ≤ 102 := by omega
    have e1 : (((x - 87 : Nat)) : Int) = (x : Int) - 87 := by omega
    have e2 : IntKind.u8.wrap ((x : Int) - 97) = (x : Int) - 97 := by rw [IntKind.wrap_u8]; omega
    have e3 : IntKind.u8.wrap ((x : Int) - 97 + 10) = (x : Int) - 87 := by rw [IntKind.wrap_u8]; omega
    simp only [Option.getD_some, Option.isSome_some, e1]
    go_enter Try.func73, Try.ntmps73
    go_wp2
    go_ret2
    exact ⟨rfl, rfl⟩
  all_goals
    rw [if_neg (by omega), if_neg (by omega)]
    simp only [Option.getD_none, Option.isSome_none]
  · have g1 : (x : Int) < 48 := by omega
    go_enter Try.func73, Try.ntmps73
    go_wp2
    go_ret2
    exact ⟨rfl, rfl⟩
  · have g1 : (57 : Int) < (x : Int) := by omega
    have g2 : (x : Int) < 97 := by omega
    go_enter Try.func73, Try.ntmps73
    go_wp2
    go_ret2
    exact ⟨rfl, rfl⟩
  · have g1 : (102 : Int) < (x : Int) := by omega
    go_enter Try.func73, Try.ntmps73
    go_wp2
    go_ret2
    exact ⟨rfl, rfl⟩

/-- The bytes read so far, then zeros. -/
def halfB (m : List UInt8) : List UInt8 := m ++ List.replicate (20 - m.length) 0
theorem halfB_set (m : List UInt8) (x : UInt8) (h : m.length < 20) : (halfB m).set m.length x = halfB (m ++ [x]) := by
  unfold halfB
  rw [List.set_append_right _ _ (Nat.le_refl _), Nat.sub_self, List.append_assoc, List.length_append]
  congr 1
  obtain ⟨n, hn⟩ : ∃ n, 20 - m.length = n + 1 := ⟨19 - m.length, by omega⟩
  rw [hn, List.replicate_succ, List.set_cons_zero]
  have : 20 - (m.length + [x].length) = n := by simp; omega
  rw [this]
  rfl
theorem halfB_all (m : List UInt8) (h : m.length = 20) : halfB m = m := by simp [halfB, h]

set_option maxRecDepth 100000 in
set_option maxHeartbeats 1600000 in
theorem ident_Parse (l : List UInt8) (hl : l.length ≤ 1048576) (w : World) :
    Calls Try.prog 32 #[.string ⟨l.toArray⟩] w fun e w' => e = .returned (.tuple #[.agg (bytesV (parseA l)).toArray, .int .i64 (parseE l)]) ∧ Below w.heap.size w w' := by
  have f1 : Hid (BB 32 (w.alloc (.cells #[.int .u8 0, .int .u8 0, .int .u8 0, .int .u8 0, .int .u8 0, .int .u8 0, .int .u8 0, .int .u8 0, .int .u8 0, .int .u8 0, .int .u8 0, .int .u8 0, .int .u8 0, .int .u8 0, .int .u8 0, .int .u8 0, .int .u8 0, .int .u8 0, .int .u8 0, .int .u8 0] 32)) w.heap.size (List.replicate 20 0)) := Lib.hid (heap_alloc_new _ _)
  have f2 : Hid (Below w.heap.size w (w.alloc (.cells #[.int .u8 0, .int .u8 0, .int .u8 0, .int .u8 0, .int .u8 0, .int .u8 0, .int .u8 0, .int .u8 0, .int .u8 0, .int .u8 0, .int .u8 0, .int .u8 0, .int .u8 0, .int .u8 0, .int .u8 0, .int .u8 0, .int .u8 0, .int .u8 0, .int .u8 0, .int .u8 0] 32))) := Lib.hid ((Below.refl _ _).alloc (Nat.le_refl _) _)
  have hsz : (⟨l.toArray⟩ : ByteArray).size = l.length := rfl
  have hix := fun w k x (h : l[k]? = some x) => index_str (P := Try.prog) w Try.underlying9 l k x h
  generalize hS : (⟨l.toArray⟩ : ByteArray) = S at *
  clear hS
  have HIX := Lib.hid hix
  clear hix
  by_cases h40 : l.length = 40
  · rw [h40] at hsz
    obtain ⟨X, hX⟩ : ∃ X, parseA l = X := ⟨_, rfl⟩
    obtain ⟨E, hE⟩ : ∃ E, parseE l = E := ⟨_, rfl⟩
    rw [hX, hE]
    have HX := Lib.hid hX
    have HE := Lib.hid hE
    have HL := Lib.hid h40
    clear hX hE h40
    go_enter Try.func32, Try.ntmps32
    go_wp2_with fail
    generalize (w.alloc (.cells #[.int .u8 0, .int .u8 0, .int .u8 0, .int .u8 0, .int .u8 0, .int .u8 0, .int .u8 0, .int .u8 0, .int .u8 0, .int .u8 0, .int .u8 0, .int .u8 0, .int .u8 0, .int .u8 0, .int .u8 0, .int .u8 0, .int .u8 0, .int .u8 0, .int .u8 0, .int .u8 0] 32)) = W1 at *
    go_loopw [13] (fun i wr => ∃ k : Nat, i = .int .i64 k ∧ k ≤ 20 ∧ ∃ m, m.length = k ∧ Hid (pairsB (l.take (2 * k)) = some m) ∧ Hid (BB 32 wr w.heap.size (halfB m)) ∧ Hid (Below w.heap.size w wr)) (fun i _ => 20 - (intOf i).toNat)
    case atStart => exact ⟨0, rfl, by omega, [], rfl, Lib.hid rfl, f1, f2⟩
    case round =>
      clear f1 f2
      obtain ⟨k, rfl, hk, m, hm, HM, j1, j5⟩ := hrel
      by_cases hlt : k < 20
      · obtain ⟨x, hx⟩ : ∃ x, l[2 * k]? = some x := ⟨l[2 * k]'(by have := HL.out; omega), List.getElem?_eq_getElem _⟩
        obtain ⟨y, hy⟩ : ∃ y, l[2 * k + 1]? = some y := ⟨l[2 * k + 1]'(by have := HL.out; omega), List.getElem?_eq_getElem _⟩
        have hi1 := HIX.out wr (2 * k) x hx
        have hi2 := HIX.out wr (2 * k + 1) y hy
        have hk5 : (k : Int) < 20 := by omega
        have hv1 := fun w => ident_value x w
        have hv2 := fun w => ident_value y w
        have hlx := @valB_lt x
        have hly := @valB_lt y
        have HXx := Lib.hid hx
        have HYy := Lib.hid hy
        have HM2 : Hid (∀ (h o : Nat), valB x = some h → valB y = some o → pairsB (l.take (2 * (k + 1))) = some (m ++ [UInt8.ofNat (16 * h + o)])) := Lib.hid fun h o ha hb => by
          have e : l.take (2 * (k + 1)) = l.take (2 * k) ++ [x, y] := by
            rw [show 2 * (k + 1) = 2 * k + 1 + 1 by omega, List.take_add_one, List.take_add_one, hx, hy, List.append_assoc]; rfl
          rw [e]
          exact pairs_snoc _ _ x y h o HM.out ha hb
        have HNo : Hid (valB x = none ∨ valB y = none → X = List.replicate 20 0 ∧ E = 10) := Lib.hid fun h => by
          have hn := pairs_none k l x y hx hy h
          rw [← HX.out, ← HE.out]
          unfold parseA parseE parseB
          rw [if_pos HL.out, hn]
          exact ⟨rfl, rfl⟩
        clear hx hy
        generalize hj0 : 2 * k = j0 at *
        have e0 : 2 * (k : Int) = (j0 : Int) := by omega
        have e2 : IntKind.i64.wrap (2 * (k : Int)) = (j0 : Int) := by rw [IntKind.wrap_i64]; omega
        have e3 : IntKind.i64.wrap ((j0 : Int) + 1) = (j0 : Int) + 1 := by rw [IntKind.wrap_i64]; omega
        have e4 : ((j0 + 1 : Nat) : Int) = (j0 : Int) + 1 := by omega
        rw [e4] at hi2
        have hx8 := x.toNat_lt
        have hy8 := y.toNat_lt
        generalize x.toNat = xn at *
        generalize y.toNat = yn at *
        clear e4 hj0
        cases hvx : valB x with
        | none =>
          have HQ := Lib.hid (HNo.out (.inl hvx))
          rw [hvx] at hv1
          have HV1 := Lib.hid hv1
          have HV2 := Lib.hid hv2
          clear hv1 hv2 hlx hly hvx HNo
          go_wp2_with fail
          refine (HV1.out _).mono ?_; rintro e w3 ⟨rfl, rfl⟩
          go_wp2_with fail
          refine (HV2.out _).mono ?_; rintro e w3 ⟨rfl, rfl⟩
          go_wp2_with (refine wpList_store_row (o := ⟨none, _, _, _, _, _⟩) rfl _ (.tmp 2) (.tmp 39) rfl w.heap.size rfl (bytesV (List.replicate 20 0)) rfl _ _ j1.out 20 (by kernel_rfl) (bytes_len (by simp)) (bytes_size (by rw [halfB, List.length_append, List.length_replicate]; omega)) (bytesV_one _) ?_)
          have hw2 := BB.setRow j1.out (List.replicate 20 0)
          exact bodyPost_ret (results_row_tmp Try.results32 _ _ w.heap.size _ _ _ _ rfl hw2 Try.underlying32 rfl (by kernel_rfl)) rfl ⟨by rw [HQ.out.1, HQ.out.2]; rfl, j5.out.trans (Only.below (S := (· = w.heap.size)) (Only.setRow _ _ _) j5.out.size fun k hk => by omega)⟩
        | some h =>
          rw [hvx] at hv1
          have HV1 := Lib.hid hv1
          have hl1 := hlx hvx
          cases hvy : valB y with
          | none =>
            have HQ := Lib.hid (HNo.out (.inr hvy))
            rw [hvy] at hv2
            have HV2 := Lib.hid hv2
            clear hv1 hv2 hlx hly hvx hvy HNo
            go_wp2_with fail
            refine (HV1.out _).mono ?_; rintro e w3 ⟨rfl, rfl⟩
            go_wp2_with fail
            refine (HV2.out _).mono ?_; rintro e w3 ⟨rfl, rfl⟩
            go_wp2_with (refine wpList_store_row (o := ⟨none, _, _, _, _, _⟩) rfl _ (.tmp 2) (.tmp 39) rfl w.heap.size rfl (bytesV (List.replicate 20 0)) rfl _ _ j1.out 20 (by kernel_rfl) (bytes_len (by simp)) (bytes_size (by rw [halfB, List.length_append, List.length_replicate]; omega)) (bytesV_one _) ?_)
            have hw2 := BB.setRow j1.out (List.replicate 20 0)
            exact bodyPost_ret (results_row_tmp Try.results32 _ _ w.heap.size _ _ _ _ rfl hw2 Try.underlying32 rfl (by kernel_rfl)) rfl ⟨by rw [HQ.out.1, HQ.out.2]; rfl, j5.out.trans (Only.below (S := (· = w.heap.size)) (Only.setRow _ _ _) j5.out.size fun k hk => by omega)⟩
          | some o =>
            rw [hvy] at hv2
            have HV2 := Lib.hid hv2
            have hl2 := hly hvy
            have HM3 := Lib.hid (HM2.out h o hvx hvy)
            obtain ⟨z, hz⟩ : ∃ z, UInt8.ofNat (16 * h + o) = z := ⟨_, rfl⟩
            have hzn : (z.toNat : Int) = (h : Int) * 16 + (o : Int) := by rw [← hz, UInt8.toNat_ofNat']; omega
            rw [hz] at HM3
            have e6 : bits .or .u8 ((h : Int) * 16 % 256) (o : Int) = (z.toNat : Int) := by
              have h1 := u8_or_nat (h * 16) o (by omega) (by omega)
              rw [nat_join 4 (h * 16) o (by omega) (by omega)] at h1
              have e1 : ((h * 16 : Nat) : Int) = (h : Int) * 16 % 256 := by omega
              rw [e1] at h1
              rw [h1]; omega
            have e7 : bits .or .u8 ((h : Int) * 16) (o : Int) = (z.toNat : Int) := by
              rw [← e6]; congr 1; omega
            have hfr := j1.out.free k
            clear hv1 hv2 hlx hly hvx hvy HNo HM2 hzn hz
            simp only [Option.getD_some, Option.isSome_some] at HV1 HV2
            go_wp2_with fail
            refine (HV1.out _).mono ?_; rintro e w3 ⟨rfl, rfl⟩
            go_wp2_with fail
            refine (HV2.out _).mono ?_; rintro e w3 ⟨rfl, rfl⟩
            have hcl := j1.out.lt
            have hcc : ∃ v, wr.cell? ⟨w.heap.size, k, none⟩ = some v := by
              obtain ⟨v, hv⟩ : ∃ v, (halfB m)[k]? = some v := ⟨(halfB m)[k]'(by rw [halfB, List.length_append, List.length_replicate]; omega), List.getElem?_eq_getElem _⟩
              exact ⟨_, j1.out.cell hv⟩
            obtain ⟨v, hv⟩ := hcc
            go_wp2_with fail
            go_roundw
            case rel =>
              refine ⟨k + 1, by go_num, by omega, m ++ [z], by simp [hm], HM3, Lib.hid ?_, Lib.hid ?_⟩
              · rw [← halfB_set m z (by omega), hm]; exact BB.set_ j1.out k z
              · exact Below.setCell (p := ⟨w.heap.size, k, none⟩) j5.out (Nat.le_refl _) (.int .u8 (z.toNat : Int))
            case measure => simp [intOf]; omega
      · have hk20 : k = 20 := by omega
        have hml : m.length = 20 := by omega
        have hq : X = m ∧ E = 0 := by
          have h1 := HM.out
          rw [hk20, List.take_of_length_le (by have := HL.out; omega)] at h1
          rw [← HX.out, ← HE.out]
          unfold parseA parseE parseB
          rw [if_pos HL.out, h1]
          exact ⟨rfl, rfl⟩
        rw [halfB_all m hml] at j1
        have HQ := Lib.hid hq
        have hge : (20 : Int) ≤ (k : Int) := by omega
        have haI : IsAgg Try.prog 32 (bytesV m).length := by rw [bytes_len hml]; exact aggID
        clear hq hk20
        go_wp2_with (refine wpList_load_agg (o := ⟨some 47, _, _, _, _, _⟩) rfl _ (.tmp 2) rfl _ rfl (bytesV m) j1.out.row haI ?_
                     refine wpList_store_row (o := ⟨none, _, _, _, _, _⟩) rfl _ (.tmp 2) (.tmp 47) rfl w.heap.size rfl (bytesV m) rfl _ _ j1.out 20 (by kernel_rfl) (bytes_len hml) (bytes_size hml) (bytesV_one _) ?_)
        have hw2 := BB.setRow j1.out m
        have hsz2 : (Try.prog.info? 32).map (·.size) = some (bytesV m).toArray.size := by rw [bytes_size hml]; kernel_rfl
        exact bodyPost_ret (results_row_tmp Try.results32 _ _ w.heap.size _ _ _ _ rfl hw2 Try.underlying32 rfl hsz2) rfl ⟨by rw [HQ.out.1, HQ.out.2]; rfl, j5.out.trans (Only.below (S := (· = w.heap.size)) (Only.setRow _ _ _) j5.out.size fun k hk => by omega)⟩
  · have hq : parseA l = List.replicate 20 0 ∧ parseE l = 10 := by
      unfold parseA parseE parseB
      rw [if_neg h40]
      exact ⟨rfl, rfl⟩
    rw [hq.1, hq.2]
    have hne : (l.length : Int) ≠ 40 := by omega
    generalize l.length = n at *
    clear h40 hq
    go_enter Try.func32, Try.ntmps32
    go_wp2_with (refine wpList_store_row (o := ⟨none, _, _, _, _, _⟩) rfl _ (.tmp 2) (.tmp 12) rfl w.heap.size rfl (bytesV (List.replicate 20 0)) rfl _ _ f1.out 20 (by kernel_rfl) (bytes_len (by simp)) (bytes_size (by simp)) (bytesV_one _) ?_)
    have hw2 := BB.setRow f1.out (List.replicate 20 0)
    exact bodyPost_ret (results_row_tmp Try.results32 _ _ w.heap.size _ _ _ _ rfl hw2 Try.underlying32 rfl (by kernel_rfl)) rfl ⟨rfl, f2.out.trans (Only.below (S := (· = w.heap.size)) (Only.setRow _ _ _) f2.out.size fun k hk => by omega)⟩
end Go.Proofs.Ytjdmbegmbffhfaa
