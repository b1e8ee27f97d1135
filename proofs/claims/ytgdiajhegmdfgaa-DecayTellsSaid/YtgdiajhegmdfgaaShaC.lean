/-
  A round of sha.eat: what its closure computes. Conditions: the words stand in their cells.
-/
import Derived.Test.YtgdiajhegmdfgaaShaB
import Derived.Deep.RegionHeld3
namespace Go.Proofs.Ytgdiajhegmdfgaa
open Go.RowKit

section
variable {P : Program} {w : World}
/-- A whole aggregate is stored into a block that is there. -/
theorem wpList_store_row {ops : Array Oper} {rest : List Oper} {o : Oper} {a : Act} {Q : Exit → Act → World → Prop} (hgd : o.guard = none) (ty : TypeId) (x y : Operand) (ho : o.op = .store ty x y)
    (g : Nat) (hx : a.eval x = .pointer (some ⟨g, 0, none⟩)) (cs : List Value) (hy : a.eval y = .agg cs.toArray) (cur : Array Value) (t : TypeId) (hg : w.heap[g]? = some (.cells cur t (0, 0)))
    (n : Nat) (hn : (P.info? ty).map (·.size) = some n) (hl : cs.length = n) (hz : cur.size = n) (h1 : ∀ v ∈ cs, v.oneCell' = true)
    (h : wpList P ops Q rest (a.put o.dst undef) (w.setRow g cs.toArray)) : wpList P ops Q (o :: rest) a w := by
  refine wpList_plain hgd fun _ hK => ?_
  unfold Oper.wp execOp
  have hr := run_storeVar_row (P := P) (w := w) (g := g) (ty := ty) hg hn hl hz h1
  simp only [ho, hx, hy, Instr.storeAt, Instr.sureAddr, Sem.run_bind, Sem.run_pure, Result.andThen_ok, hr]
  exact hK _ _ h
end

theorem Only.setRow (w : World) (b : Nat) (cs : Array Value) : Only (· = b) w (w.setRow b cs) :=
  ⟨rfl, rfl, rfl, by simp, fun i _ hn => setRow_other w b i cs hn⟩
theorem Words.setRow {n : Nat} {T : TypeId} {w : World} {b : Nat} {ws : Nat → Nat} (h : Words n T w b ws) (vs : Nat → Nat) : Words n T (w.setRow b (wcells n vs)) b vs := setRow_heap w b _ _ T _ h

theorem Words.drew {n : Nat} {T : TypeId} {w : World} {b : Nat} {ws : Nat → Nat} (h : Words n T w b ws) : Words n T w.drew b ws := h

theorem Only.of_drew {S : Nat → Prop} {a w : World} (h : Only S a.drew w) : Only S a w := ⟨h.os, h.tape, h.output, h.size, h.block⟩
theorem Only.drew_of {S : Nat → Prop} {a w : World} (h : Only S a w) : Only S a.drew w := ⟨h.os, h.tape, h.output, h.size, h.block⟩
theorem wcells5 (f : Nat → Nat) : wcells 5 f = #[w32 (f 0), w32 (f 1), w32 (f 2), w32 (f 3), w32 (f 4)] := rfl

/-- The word of a round. -/
def xw (ws : Nat → Nat) (i : Nat) : Nat := if i < 16 then ws i else wnext ws i
/-- The window behind a round. -/
def wsn (ws : Nat → Nat) (i : Nat) : Nat → Nat := if i < 16 then ws else upd ws (i % 16) (wnext ws i)
def mixF (i b c d : Nat) : Nat := if i < 20 then d ^^^ (b &&& (c ^^^ d)) else if i < 40 then b ^^^ c ^^^ d else if i < 60 then (b &&& c) ||| (d &&& (b ||| c)) else b ^^^ c ^^^ d
def mixK (i : Nat) : Nat := if i < 20 then 1518500249 else if i < 40 then 1859775393 else if i < 60 then 2400959708 else 3395469782

theorem wnext_lt (ws : Nat → Nat) (hb : ∀ j, ws j < 4294967296) (i : Nat) : wnext ws i < 4294967296 :=
  rotl_lt 1 _ (xor_lt32 (xor_lt32 (xor_lt32 (hb _) (hb _)) (hb _)) (hb _))
theorem xw_lt (ws : Nat → Nat) (hb : ∀ j, ws j < 4294967296) (i : Nat) : xw ws i < 4294967296 := by
  unfold xw; split
  · exact hb _
  · exact wnext_lt ws hb i
theorem wsn_lt (ws : Nat → Nat) (hb : ∀ j, ws j < 4294967296) (i j : Nat) : wsn ws i j < 4294967296 := by
  unfold wsn; split
  · exact hb _
  · unfold upd; split
    · exact wnext_lt ws hb i
    · exact hb _
theorem mixK_lt (i : Nat) : mixK i < 4294967296 := by
  unfold mixK; split
  · decide
  split
  · decide
  split <;> decide
theorem mixF_lt (i b c d : Nat) (hb : b < 4294967296) (hc : c < 4294967296) (hd : d < 4294967296) : mixF i b c d < 4294967296 := by
  unfold mixF; split
  · exact xor_lt32 hd (and_lt32 (xor_lt32 hc hd))
  split
  · exact xor_lt32 (xor_lt32 hb hc) hd
  split
  · exact or_lt32 (and_lt32 hc) (and_lt32 (or_lt32 hb hc))
  · exact xor_lt32 (xor_lt32 hb hc) hd

theorem mix_any (i b c d : Nat) (hb : b < 4294967296) (hc : c < 4294967296) (hd : d < 4294967296) (w : World) : Calls Try.prog 94 #[.int .i64 (i : Int), .int .u32 (b : Int), .int .u32 (c : Int), .int .u32 (d : Int)] w fun e w' =>
    e = .returned (.tuple #[.int .u32 (mixF i b c d : Int), .int .u32 (mixK i : Int)]) ∧ w = w' := by
  unfold mixF mixK
  by_cases h0 : i < 20
  · rw [if_pos h0, if_pos h0]; exact mix_0 i b c d hb hc hd (by omega) w
  rw [if_neg h0, if_neg h0]
  by_cases h1 : i < 40
  · rw [if_pos h1, if_pos h1]; exact mix_1 i b c d hb hc hd (by omega) (by omega) w
  rw [if_neg h1, if_neg h1]
  by_cases h2 : i < 60
  · rw [if_pos h2, if_pos h2]; exact mix_2 i b c d hb hc hd (by omega) (by omega) w
  rw [if_neg h2, if_neg h2]
  exact mix_3 i b c d hb hc hd (by omega) w

theorem next_any (i : Nat) (hi : i < 80) (b : Nat) (ws : Nat → Nat) (hb : ∀ j, ws j < 4294967296) (w : World) (h : Words 16 115 w b ws) :
    Calls Try.prog 96 #[.pointer (some ⟨b, 0, none⟩), .int .i64 (i : Int)] w fun e w' => e = .returned (.int .u32 (xw ws i : Int)) ∧ Words 16 115 w' b (wsn ws i) ∧ Only (· = b) w w' := by
  unfold xw wsn
  by_cases h0 : i < 16
  · rw [if_pos h0, if_pos h0]
    refine (next_lo i h0 b ws w h).mono ?_
    rintro e w' ⟨rfl, rfl⟩
    exact ⟨rfl, h, Only.refl _ _⟩
  · rw [if_neg h0, if_neg h0]
    refine (next_hi i (by omega) hi b ws hb w h).mono ?_
    rintro e w' ⟨rfl, n, rfl⟩
    exact ⟨rfl, h.set_ _ _, (Only.set_ _ _ _ _).drewN n⟩

/-- The sum of a round. -/
def rsum (v ws : Nat → Nat) (i : Nat) : Nat := ((((rotl 5 (v 0) + mixF i (v 1) (v 2) (v 3)) % 4294967296 + v 4) % 4294967296 + xw ws i) % 4294967296 + mixK i) % 4294967296
/-- The five words behind a round. -/
def vnext (v ws : Nat → Nat) (i : Nat) : Nat → Nat := fun j => if j = 0 then rsum v ws i else if j = 1 then v 0 else if j = 2 then rotl 30 (v 1) else if j = 3 then v 2 else v 3
theorem vnext_cells (v ws : Nat → Nat) (i s : Nat) (h : rsum v ws i = s) : #[w32 s, w32 (v 0), w32 (rotl 30 (v 1)), w32 (v 2), w32 (v 3)] = wcells 5 (vnext v ws i) := by
  have h0 : vnext v ws i 0 = s := (if_pos rfl).trans h
  have h1 : vnext v ws i 1 = v 0 := (if_neg (by decide)).trans (if_pos rfl)
  have h2 : vnext v ws i 2 = rotl 30 (v 1) := (if_neg (by decide)).trans ((if_neg (by decide)).trans (if_pos rfl))
  have h3 : vnext v ws i 3 = v 2 := (if_neg (by decide)).trans ((if_neg (by decide)).trans ((if_neg (by decide)).trans (if_pos rfl)))
  have h4 : vnext v ws i 4 = v 3 := (if_neg (by decide)).trans ((if_neg (by decide)).trans ((if_neg (by decide)).trans (if_neg (by decide))))
  rw [wcells5, h0, h1, h2, h3, h4]

theorem wrap_u32 (a b : Nat) : IntKind.u32.wrap ((a : Int) + (b : Int)) = (((a + b) % 4294967296 : Nat) : Int) := by
  rw [IntKind.wrap_u32]
  omega

set_option maxHeartbeats 1600000 in
set_option maxRecDepth 20000 in
theorem eat1 (i : Nat) (hi : i < 80) (bv bx : Nat) (hne : bv ≠ bx) (v ws : Nat → Nat) (hv : ∀ j, v j < 4294967296) (hws : ∀ j, ws j < 4294967296) (w : World)
    (h1 : Words 5 100 w bv v) (h2 : Words 16 115 w bx ws) :
    Calls Try.prog 93 #[.int .i64 (i : Int), .pointer (some ⟨bv, 0, none⟩), .pointer (some ⟨bx, 0, none⟩)] w fun e w' =>
      e = .returned (.tuple #[]) ∧ Words 5 100 w' bv (vnext v ws i) ∧ Words 16 115 w' bx (wsn ws i) ∧ Only (fun k => k = bv ∨ k = bx) w w' := by
  have c0 := h1.cell 0 (by omega)
  have c1 := h1.cell 1 (by omega)
  have c2 := h1.cell 2 (by omega)
  have c3 := h1.cell 3 (by omega)
  have c4 := h1.cell 4 (by omega)
  have m := mix_any i (v 1) (v 2) (v 3) (hv 1) (hv 2) (hv 3)
  have r5 := rotl_5 (v 0) (hv 0)
  have r30 := rotl_30 (v 1) (hv 1)
  have nx := fun w h => next_any i hi bx ws hws w h
  have e1 := wrap_u32 (rotl 5 (v 0)) (mixF i (v 1) (v 2) (v 3))
  generalize hs1 : (rotl 5 (v 0) + mixF i (v 1) (v 2) (v 3)) % 4294967296 = s1 at e1
  have e2 := wrap_u32 s1 (v 4)
  generalize hs2 : (s1 + v 4) % 4294967296 = s2 at e2
  have e3 := wrap_u32 s2 (xw ws i)
  generalize hs3 : (s2 + xw ws i) % 4294967296 = s3 at e3
  have e4 := wrap_u32 s3 (mixK i)
  generalize hs4 : (s3 + mixK i) % 4294967296 = s4 at e4
  have hS : rsum v ws i = s4 := by unfold rsum; rw [hs1, hs2, hs3, hs4]
  clear hs1 hs2 hs3 hs4
  have H1 := Lib.hid h1
  have H2 := Lib.hid h2
  clear h1 h2
  go_enter Try.func93, Try.ntmps93
  go_wp2_with fail
  refine (m _).mono ?_; rintro e w3 ⟨rfl, rfl⟩
  go_wp2_with fail
  go_region_held3 (fun w' => w'.cell? ⟨bv, 0, none⟩ = some (.int .u32 (v 0 : Int)) ∧ w'.cell? ⟨bv, 4, none⟩ = some (.int .u32 (v 4 : Int)))
    (first
      | exact ⟨c0, c4⟩
      | exact ⟨(hon.cell (p := ⟨bv, 0, none⟩) (Words.lt H1.out) hne).trans c0, (hon.cell (p := ⟨bv, 4, none⟩) (Words.lt H1.out) hne).trans c4⟩)
    (first
      | (go_at_call 95; refine (r5 _).mono ?_; rintro e w' ⟨rfl, rfl⟩)
      | (go_at_call 96; refine (nx _ (Words.drew H2.out)).mono ?_; rintro e w' ⟨rfl, hwn, hon⟩))
  have g1 : Words 5 100 w' bv v := Words.far (S := (· = bx)) (Words.drew H1.out) hon hne
  clear c0 c1 c2 c3 c4 e1 e2 e3 e4 m nx r5
  have c0 := g1.cell 0 (by omega)
  have c1 := g1.cell 1 (by omega)
  have c2 := g1.cell 2 (by omega)
  have c3 := g1.cell 3 (by omega)
  have G1 := Lib.hid g1
  clear g1
  go_wp2_with fail
  go_still_tail 11, (by kernel_rfl)
  still_call ((r30 _).mono fun e w' (h : _ ∧ _) => (⟨h.1, h.2.symm⟩ : e = _ ∧ w' = _))
  repeat still_step
  refine wpStill_nil ?_
  change wpList _ _ _ _ _ w'.drew
  refine wpList_store_row rfl _ (.tmp 1) (.tmp 41) rfl bv rfl [.int .u32 (s4 : Int), .int .u32 (v 0 : Int), .int .u32 (rotl 30 (v 1) : Int), .int .u32 (v 2 : Int), .int .u32 (v 3 : Int)] rfl _ _ (Words.drew G1.out) 5 (by kernel_rfl) rfl (wcells_size _ _) (by simp [Value.oneCell']) ?_
  go_wp2
  go_end0
  have hcs : (#[.int .u32 (s4 : Int), .int .u32 (v 0 : Int), .int .u32 (rotl 30 (v 1) : Int), .int .u32 (v 2 : Int), .int .u32 (v 3 : Int)] : Array Value) = wcells 5 (vnext v ws i) := vnext_cells v ws i s4 hS
  rw [hcs]
  have k1 : Only (· = bx) w w' := Only.of_drew hon
  have k2 : Only (· = bv) w' (w'.drew.setRow bv (wcells 5 (vnext v ws i))) := Only.of_drew (Only.setRow _ _ _)
  exact ⟨rfl, (Words.drew G1.out).setRow _, Words.far (S := (· = bv)) hwn k2 (Ne.symm hne), (k1.mono fun _ _ hk => .inr hk).trans (k2.mono fun _ _ hk => .inl hk)⟩
end Go.Proofs.Ytgdiajhegmdfgaa
