/-
  The list's functions at keys of the kind string: Add, Touch, Remove; all of them over lists of keys. Conditions: as each theorem says.
-/
import Derived.Test.YtnmmeccbpcichaaRecSB
import Derived.Maps.OwnSet
namespace Go.Proofs.Ytnmmeccbpcichaa
open Go.RowKit Go.Maps

theorem drawn_lstS {w : World} {p m : Nat} {most : Int} {ns : List (KeyS × Nat)} {D : DataW Unit} (h : LstW kitS w p m most ns D) (j : Nat) : LstW kitS (w.drewN j) p m most ns D := h.keep fun _ _ => rfl

theorem recS_has {w : World} {p : Nat} {most : Int} {ks : List KeyS} {F : Nat → Prop} (h : Lst kitS w p most ks F) (k : KeyS) :
    Calls Try.prog 82 #[.pointer (some ⟨p, 0, none⟩), (kitS).val k] w fun e w' => e = .returned (.bool (decide (k ∈ ks))) ∧ w = w' := by
  obtain ⟨m, ns, D, hl, rfl, _⟩ := h
  exact recS_Has hl k
theorem recS_full {w : World} {p : Nat} {most : Int} {ks : List KeyS} {F : Nat → Prop} (h : Lst kitS w p most ks F) :
    Calls Try.prog 48 #[.pointer (some ⟨p, 0, none⟩)] w fun e w' => e = .returned (.bool (decide ((ks.length : Int) = most))) ∧ ∃ j, w' = w.drewN j := by
  obtain ⟨m, ns, D, hl, rfl, _⟩ := h
  have := recS_Full hl
  simpa using this
theorem recS_oldest {w : World} {p : Nat} {most : Int} {ks : List KeyS} {F : Nat → Prop} (h : Lst kitS w p most ks F) :
    Calls Try.prog 46 #[.pointer (some ⟨p, 0, none⟩)] w fun e w' => e = .returned (.tuple (match ks.head? with | none => #[.string ByteArray.empty, .bool false] | some k => #[(kitS).val k, .bool true])) ∧ w = w' := by
  obtain ⟨m, ns, D, hl, rfl, _⟩ := h
  exact recS_Oldest hl
theorem recS_newest {w : World} {p : Nat} {most : Int} {ks : List KeyS} {F : Nat → Prop} (h : Lst kitS w p most ks F) :
    Calls Try.prog 47 #[.pointer (some ⟨p, 0, none⟩)] w fun e w' => e = .returned (.tuple (match ks.getLast? with | none => #[.string ByteArray.empty, .bool false] | some k => #[(kitS).val k, .bool true])) ∧ w = w' := by
  obtain ⟨m, ns, D, hl, rfl, _⟩ := h
  exact recS_Newest hl

set_option maxHeartbeats 1000000 in
theorem recS_add_there {w : World} {p : Nat} {most : Int} {ks : List KeyS} {F : Nat → Prop} (h : Lst kitS w p most ks F) (k : KeyS) (hk : k ∈ ks) :
    Calls Try.prog 44 #[.pointer (some ⟨p, 0, none⟩), (kitS).val k] w fun e w' => e = .returned (.int .i64 50) ∧ w = w' := by
  obtain ⟨m, ns, D, hl, rfl, _⟩ := h
  have hN := Lib.hid (recS_none p most hl.mo w hl.shape.cells.1)
  have hH := recS_Has hl k
  rw [decide_eq_true hk] at hH
  have hH := Lib.hid hH
  clear hl hk
  go_enter Try.func44, Try.ntmps44
  go_wp2_with (first
    | (go_at_call 81; refine hN.out.mono ?_; rintro e w' ⟨rfl, rfl⟩)
    | (go_at_call 82; refine hH.out.mono ?_; rintro e w' ⟨rfl, rfl⟩))
  go_ret
  exact ⟨rfl, rfl⟩

set_option maxHeartbeats 1000000 in
theorem recS_add_full {w : World} {p : Nat} {most : Int} {ks : List KeyS} {F : Nat → Prop} (h : Lst kitS w p most ks F) (k : KeyS) (hk : k ∉ ks) (hf : (ks.length : Int) = most) :
    Calls Try.prog 44 #[.pointer (some ⟨p, 0, none⟩), (kitS).val k] w fun e w' => e = .returned (.int .i64 31) ∧ ∃ j, w' = w.drewN j := by
  have hF := recS_full h
  rw [decide_eq_true hf] at hF
  have hF := Lib.hid hF
  obtain ⟨m, ns, D, hl, rfl, _⟩ := h
  have hN := Lib.hid (recS_none p most hl.mo w hl.shape.cells.1)
  have hH := recS_Has hl k
  rw [decide_eq_false hk] at hH
  have hH := Lib.hid hH
  clear hl hk hf
  go_enter Try.func44, Try.ntmps44
  go_wp2_with (first
    | (go_at_call 81; refine hN.out.mono ?_; rintro e w' ⟨rfl, rfl⟩)
    | (go_at_call 82; refine hH.out.mono ?_; rintro e w' ⟨rfl, rfl⟩)
    | (go_at_call 48; refine hF.out.mono ?_; rintro e w' ⟨rfl, j, rfl⟩))
  go_ret
  exact ⟨rfl, j, rfl⟩

set_option maxHeartbeats 2000000 in
theorem recS_add_new {w : World} {p : Nat} {most : Int} {ks : List KeyS} {F : Nat → Prop} (h : Lst kitS w p most ks F) (k : KeyS) (hk : k ∉ ks) (hf : (ks.length : Int) < most) :
    Calls Try.prog 44 #[.pointer (some ⟨p, 0, none⟩), (kitS).val k] w fun e w' => e = .returned (.int .i64 0) ∧ Lst kitS w' p most (ks ++ [k]) (fx F w w') ∧ Only F w w' := by
  have hF := recS_full h
  rw [decide_eq_false (by omega)] at hF
  have hF := Lib.hid hF
  obtain ⟨m, ns, D, hl, rfl, hft⟩ := h
  have hN := Lib.hid (recS_none p most hl.mo w hl.shape.cells.1)
  have hH := recS_Has hl k
  rw [decide_eq_false hk] at hH
  have hH := Lib.hid hH
  have HK := Lib.hid hk
  have HF := Lib.hid hf
  have HT := Lib.hid hft
  have HL := Lib.hid hl
  clear hl hk hf hft
  show Calls _ _ #[_, .string k.1] _ _
  go_enter Try.func44, Try.ntmps44
  go_wp2_with (first
    | (go_at_call 81; refine hN.out.mono ?_; rintro e w' ⟨rfl, rfl⟩)
    | (go_at_call 82; refine hH.out.mono ?_; rintro e w' ⟨rfl, rfl⟩)
    | (go_at_call 48; refine hF.out.mono ?_; rintro e w0 ⟨rfl, j, hj⟩
       have HL0 : Hid (LstW kitS w0 p m most ns D) := Lib.hid (by rw [hj]; exact drawn_lstS HL.out j)
       have HO0 : Hid (Only F w w0 ∧ w0.heap.size = w.heap.size) := Lib.hid (by rw [hj]; exact ⟨only_drawn F w j, rfl⟩)
       have hpl0 := HL0.out.shape.plt
       have hc1 : (w0.alloc (.cells #[.string k.1, .pointer none, .pointer none] 132)).cell? ⟨p, 1, none⟩ = some (.map (some m)) := (((Below.refl _ w0).alloc (Nat.le_refl _) _).cell (p := ⟨p, 1, none⟩) hpl0).trans HL0.out.shape.cells.2.1
       clear hj)
    | (at_mapUpdate
       refine wpList_mapUpdate_own _ rfl _ _ _ 127 rfl (kitS).K 128 (kitS).keyed Try.underlying127 ptrElem m ns.length D rfl (HL0.out.map.alloc _) (by have h1 := HL0.out.ml; have h2 := HL0.out.mx; unfold maxLen; omega) _ _ _ rfl rfl ((kitS).key k) _ [] (ptrElem_some w0.heap.size) ?_
       intro w1 hown1 hgrow1
       have ho1 : Only (fun i => i = m) w0 w1 := (Only.of_below ((Below.refl _ w0).alloc (Nat.le_refl _) _)).trans (Only.of_grown hgrow1 (fun i e _ => (Option.some.inj e).symm))
       have hmlt := ownsMap_lt HL0.out.map
       have hx1 : NodeAt kitS w1 w0.heap.size k none none := (hgrow1.block w0.heap.size (by simp) (fun e => by have := Option.some.inj e; omega)).trans (heap_alloc_new _ _)
       have hs1 : Shape kitS w1 p m most ns := HL0.out.shape.keep (ho1.block _ HL0.out.shape.plt (fun e => HL0.out.mp e.symm)) (fun i hi => ho1.block _ (HL0.out.shape.blt hi) (fun e => HL0.out.mb (e ▸ hi)))
       obtain ⟨hl2, ho2⟩ := HL0.out.add k HK.out (by have := HF.out; simpa using this) (Nat.le_refl _) hx1 hown1 ho1
       have hsz : w0.heap.size < w1.heap.size := lt_of_block hx1
       have hLa := Lib.hid (recS_last p w0.heap.size m most (hd ns none) (lst none ns) none none k w1 hs1.head hx1 (by have := HL0.out.shape.plt; omega) (fun z hz => by
         obtain ⟨h1, h2, h3⟩ := hs1.newest hz
         have := HL0.out.shape.blt h1
         exact ⟨by omega, h2, h3⟩))
       have HL2 := Lib.hid hl2
       have HO2 := Lib.hid ho2
       have hO3 : Only (fun i => i = p ∨ i = w0.heap.size ∨ i ∈ blks ns) w1 (lastW kitS w1 p w0.heap.size (lst none ns)) := (hs1.last hx1 (fun hi => by have := HL0.out.shape.blt hi; omega) (by have := HL0.out.shape.plt; omega)).2
       have HZ : Hid (w0.heap.size < (lastW kitS w1 p w0.heap.size (lst none ns)).heap.size) := Lib.hid (Nat.lt_of_lt_of_le hsz hO3.size)
       clear hown1 hgrow1 ho1 hmlt hx1 hs1 hl2 ho2 hsz hO3)
    | (go_at_call 83; refine hLa.out.mono ?_; rintro e w2 ⟨rfl, rfl⟩))
  go_ret
  refine ⟨rfl, ⟨m, ns ++ [(k, w0.heap.size)], _, HL2.out, by simp, fun i hi => ?_⟩, HO0.out.1.trans (HO2.out.mono fun i _ hi => HT.out i hi)⟩
  rcases hi with e | e | hi
  · exact Or.inl (HT.out i (Or.inl e))
  · exact Or.inl (HT.out i (Or.inr (Or.inl e)))
  · rw [blks_append, List.mem_append] at hi
    rcases hi with hi | hi
    · exact Or.inl (HT.out i (Or.inr (Or.inr hi)))
    · obtain rfl : i = w0.heap.size := by simpa [blks] using hi
      exact Or.inr ⟨by rw [HO0.out.2]; exact Nat.le_refl _, HZ.out⟩

set_option maxHeartbeats 1000000 in
theorem recS_touch_none {w : World} {p : Nat} {most : Int} {ks : List KeyS} {F : Nat → Prop} (h : Lst kitS w p most ks F) (k : KeyS) (hk : k ∉ ks) :
    Calls Try.prog 45 #[.pointer (some ⟨p, 0, none⟩), (kitS).val k] w fun e w' => e = .returned (.bool false) ∧ w = w' := by
  have hH := recS_has h k
  rw [decide_eq_false hk] at hH
  have hH := Lib.hid hH
  clear h hk
  go_enter Try.func45, Try.ntmps45
  go_wp2_with (go_at_call 82; refine hH.out.mono ?_; rintro e w' ⟨rfl, rfl⟩)
  go_ret
  exact ⟨rfl, rfl⟩

set_option maxHeartbeats 2000000 in
theorem recS_touch {w : World} {p : Nat} {most : Int} {ks : List KeyS} {F : Nat → Prop} (h : Lst kitS w p most ks F) (k : KeyS) (hk : k ∈ ks) :
    Calls Try.prog 45 #[.pointer (some ⟨p, 0, none⟩), (kitS).val k] w fun e w' => e = .returned (.bool true) ∧ Lst kitS w' p most (wo k ks ++ [k]) F ∧ Only F w w' := by
  have hH := recS_has h k
  rw [decide_eq_true hk] at hH
  have hH := Lib.hid hH
  obtain ⟨m, ns, D, hl, rfl, hft⟩ := h
  obtain ⟨pre, b, post, rfl⟩ := split_key hk
  have hl0 := look_inS hl (x := (k, b)) (by simp)
  have hc1 := hl.shape.cells.2.1
  have hks : Hid (wo k ((pre ++ (k, b) :: post).map (·.1)) = (pre ++ post).map (·.1)) := Lib.hid (keys_wo (x := (k, b)) hl.is.nk)
  obtain ⟨bs1, bs2⟩ := hl.shape.beside
  have hO := Lib.hid (recS_out p b m most _ _ (lst none pre) (hd post none) k w hl.shape.head hl.shape.node hl.shape.xfar.1 bs1 bs2)
  have HL := Lib.hid hl
  have HT := Lib.hid hft
  clear hl hk hft bs1 bs2
  change (Instr.lookup _ _ (.string k.1) _).run _ _ = _ at hl0
  show Calls _ _ #[_, .string k.1] _ _
  go_enter Try.func45, Try.ntmps45
  go_wp2_with (first
    | (go_at_call 82; refine hH.out.mono ?_; rintro e w' ⟨rfl, rfl⟩)
    | (go_at_call 84; refine hO.out.mono ?_; rintro e w1 ⟨rfl, j, hj⟩
       have hs1 : Shape kitS w1 p m most (pre ++ post) ∧ Only (fun i => i = p ∨ i ∈ blks (pre ++ post)) w w1 := by
         rw [hj]
         exact ⟨HL.out.shape.out.1.keep rfl (fun _ _ => rfl), HL.out.shape.out.2.drawnN j⟩
       obtain ⟨hl2, ho2, hn2⟩ := HL.out.touch hs1.1 hs1.2
       have hLa := Lib.hid (recS_last p b m most _ (lst none (pre ++ post)) _ _ k w1 hs1.1.head hn2 HL.out.shape.xfar.1 (fun z hz => by
         obtain ⟨h1, h2, h3⟩ := hs1.1.newest hz
         exact ⟨fun e => HL.out.shape.xfar.2 (e ▸ h1), h2, h3⟩))
       have HL2 := Lib.hid hl2
       have HO2 := Lib.hid ho2
       clear hj hs1 hl2 ho2 hn2)
    | (go_at_call 83; refine hLa.out.mono ?_; rintro e w2 ⟨rfl, rfl⟩))
  go_ret
  refine ⟨rfl, ⟨m, pre ++ post ++ [(k, b)], D, HL2.out, ?_, fun i hi => ?_⟩, HO2.out.mono fun i _ hi => HT.out i hi⟩
  · rw [hks.out]
    simp
  · refine HT.out i ?_
    rcases hi with e | e | hi
    · exact Or.inl e
    · exact Or.inr (Or.inl e)
    · refine Or.inr (Or.inr ?_)
      rw [blks_append, blks_append, List.mem_append, List.mem_append] at hi
      rw [blks_append, List.mem_append]
      rcases hi with (hi | hi) | hi
      · exact Or.inl hi
      · exact Or.inr (List.mem_cons_of_mem _ hi)
      · obtain rfl : i = b := by simpa [blks] using hi
        exact Or.inr (by simp [blks])
end Go.Proofs.Ytnmmeccbpcichaa
