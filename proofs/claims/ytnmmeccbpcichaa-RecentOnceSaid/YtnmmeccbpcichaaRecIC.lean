/-
  The list's functions at keys of the kind int: Add, Touch, Remove; all of them over lists of keys. Conditions: as each theorem says.
-/
import Derived.Test.YtnmmeccbpcichaaRecIB
import Derived.Maps.OwnSet
namespace Go.Proofs.Ytnmmeccbpcichaa
open Go.RowKit Go.Maps

theorem drawn_lstI {w : World} {p m : Nat} {most : Int} {ns : List (KeyI × Nat)} {D : DataW Unit} (h : LstW kitI w p m most ns D) (j : Nat) : LstW kitI (w.drewN j) p m most ns D := h.keep fun _ _ => rfl

theorem recI_has {w : World} {p : Nat} {most : Int} {ks : List KeyI} {F : Nat → Prop} (h : Lst kitI w p most ks F) (k : KeyI) :
    Calls Try.prog 14 #[.pointer (some ⟨p, 0, none⟩), (kitI).val k] w fun e w' => e = .returned (.bool (decide (k ∈ ks))) ∧ w = w' := by
  obtain ⟨m, ns, D, hl, rfl, _⟩ := h
  exact recI_Has hl k
theorem recI_full {w : World} {p : Nat} {most : Int} {ks : List KeyI} {F : Nat → Prop} (h : Lst kitI w p most ks F) :
    Calls Try.prog 23 #[.pointer (some ⟨p, 0, none⟩)] w fun e w' => e = .returned (.bool (decide ((ks.length : Int) = most))) ∧ ∃ j, w' = w.drewN j := by
  obtain ⟨m, ns, D, hl, rfl, _⟩ := h
  have := recI_Full hl
  simpa using this
theorem recI_oldest {w : World} {p : Nat} {most : Int} {ks : List KeyI} {F : Nat → Prop} (h : Lst kitI w p most ks F) :
    Calls Try.prog 20 #[.pointer (some ⟨p, 0, none⟩)] w fun e w' => e = .returned (.tuple (match ks.head? with | none => #[.int .i64 0, .bool false] | some k => #[(kitI).val k, .bool true])) ∧ w = w' := by
  obtain ⟨m, ns, D, hl, rfl, _⟩ := h
  exact recI_Oldest hl
theorem recI_newest {w : World} {p : Nat} {most : Int} {ks : List KeyI} {F : Nat → Prop} (h : Lst kitI w p most ks F) :
    Calls Try.prog 21 #[.pointer (some ⟨p, 0, none⟩)] w fun e w' => e = .returned (.tuple (match ks.getLast? with | none => #[.int .i64 0, .bool false] | some k => #[(kitI).val k, .bool true])) ∧ w = w' := by
  obtain ⟨m, ns, D, hl, rfl, _⟩ := h
  exact recI_Newest hl

set_option maxHeartbeats 1000000 in
theorem recI_add_there {w : World} {p : Nat} {most : Int} {ks : List KeyI} {F : Nat → Prop} (h : Lst kitI w p most ks F) (k : KeyI) (hk : k ∈ ks) :
    Calls Try.prog 11 #[.pointer (some ⟨p, 0, none⟩), (kitI).val k] w fun e w' => e = .returned (.int .i64 50) ∧ w = w' := by
  obtain ⟨m, ns, D, hl, rfl, _⟩ := h
  have hN := Lib.hid (recI_none p most hl.mo w hl.shape.cells.1)
  have hH := recI_Has hl k
  rw [decide_eq_true hk] at hH
  have hH := Lib.hid hH
  clear hl hk
  go_enter Try.func11, Try.ntmps11
  go_wp2_with (first
    | (go_at_call 49; refine hN.out.mono ?_; rintro e w' ⟨rfl, rfl⟩)
    | (go_at_call 14; refine hH.out.mono ?_; rintro e w' ⟨rfl, rfl⟩))
  go_ret
  exact ⟨rfl, rfl⟩

set_option maxHeartbeats 1000000 in
theorem recI_add_full {w : World} {p : Nat} {most : Int} {ks : List KeyI} {F : Nat → Prop} (h : Lst kitI w p most ks F) (k : KeyI) (hk : k ∉ ks) (hf : (ks.length : Int) = most) :
    Calls Try.prog 11 #[.pointer (some ⟨p, 0, none⟩), (kitI).val k] w fun e w' => e = .returned (.int .i64 31) ∧ ∃ j, w' = w.drewN j := by
  have hF := recI_full h
  rw [decide_eq_true hf] at hF
  have hF := Lib.hid hF
  obtain ⟨m, ns, D, hl, rfl, _⟩ := h
  have hN := Lib.hid (recI_none p most hl.mo w hl.shape.cells.1)
  have hH := recI_Has hl k
  rw [decide_eq_false hk] at hH
  have hH := Lib.hid hH
  clear hl hk hf
  go_enter Try.func11, Try.ntmps11
  go_wp2_with (first
    | (go_at_call 49; refine hN.out.mono ?_; rintro e w' ⟨rfl, rfl⟩)
    | (go_at_call 14; refine hH.out.mono ?_; rintro e w' ⟨rfl, rfl⟩)
    | (go_at_call 23; refine hF.out.mono ?_; rintro e w' ⟨rfl, j, rfl⟩))
  go_ret
  exact ⟨rfl, j, rfl⟩

set_option maxHeartbeats 2000000 in
theorem recI_add_new {w : World} {p : Nat} {most : Int} {ks : List KeyI} {F : Nat → Prop} (h : Lst kitI w p most ks F) (k : KeyI) (hk : k ∉ ks) (hf : (ks.length : Int) < most) :
    Calls Try.prog 11 #[.pointer (some ⟨p, 0, none⟩), (kitI).val k] w fun e w' => e = .returned (.int .i64 0) ∧ Lst kitI w' p most (ks ++ [k]) (fx F w w') ∧ Only F w w' := by
  have hF := recI_full h
  rw [decide_eq_false (by omega)] at hF
  have hF := Lib.hid hF
  obtain ⟨m, ns, D, hl, rfl, hft⟩ := h
  have hN := Lib.hid (recI_none p most hl.mo w hl.shape.cells.1)
  have hH := recI_Has hl k
  rw [decide_eq_false hk] at hH
  have hH := Lib.hid hH
  have HK := Lib.hid hk
  have HF := Lib.hid hf
  have HT := Lib.hid hft
  have HL := Lib.hid hl
  clear hl hk hf hft
  show Calls _ _ #[_, .int .i64 k.1] _ _
  go_enter Try.func11, Try.ntmps11
  go_wp2_with (first
    | (go_at_call 49; refine hN.out.mono ?_; rintro e w' ⟨rfl, rfl⟩)
    | (go_at_call 14; refine hH.out.mono ?_; rintro e w' ⟨rfl, rfl⟩)
    | (go_at_call 23; refine hF.out.mono ?_; rintro e w0 ⟨rfl, j, hj⟩
       have HL0 : Hid (LstW kitI w0 p m most ns D) := Lib.hid (by rw [hj]; exact drawn_lstI HL.out j)
       have HO0 : Hid (Only F w w0 ∧ w0.heap.size = w.heap.size) := Lib.hid (by rw [hj]; exact ⟨only_drawn F w j, rfl⟩)
       have hpl0 := HL0.out.shape.plt
       have hc1 : (w0.alloc (.cells #[.int .i64 k.1, .pointer none, .pointer none] 101)).cell? ⟨p, 1, none⟩ = some (.map (some m)) := (((Below.refl _ w0).alloc (Nat.le_refl _) _).cell (p := ⟨p, 1, none⟩) hpl0).trans HL0.out.shape.cells.2.1
       clear hj)
    | (at_mapUpdate
       refine wpList_mapUpdate_own _ rfl _ _ _ 39 rfl (kitI).K 40 (kitI).keyed Try.underlying39 ptrElem m ns.length D rfl (HL0.out.map.alloc _) (by have h1 := HL0.out.ml; have h2 := HL0.out.mx; unfold maxLen; omega) _ _ _ rfl rfl ((kitI).key k) _ [] (ptrElem_some w0.heap.size) ?_
       intro w1 hown1 hgrow1
       have ho1 : Only (fun i => i = m) w0 w1 := (Only.of_below ((Below.refl _ w0).alloc (Nat.le_refl _) _)).trans (Only.of_grown hgrow1 (fun i e _ => (Option.some.inj e).symm))
       have hmlt := ownsMap_lt HL0.out.map
       have hx1 : NodeAt kitI w1 w0.heap.size k none none := (hgrow1.block w0.heap.size (by simp) (fun e => by have := Option.some.inj e; omega)).trans (heap_alloc_new _ _)
       have hs1 : Shape kitI w1 p m most ns := HL0.out.shape.keep (ho1.block _ HL0.out.shape.plt (fun e => HL0.out.mp e.symm)) (fun i hi => ho1.block _ (HL0.out.shape.blt hi) (fun e => HL0.out.mb (e ▸ hi)))
       obtain ⟨hl2, ho2⟩ := HL0.out.add k HK.out (by have := HF.out; simpa using this) (Nat.le_refl _) hx1 hown1 ho1
       have hsz : w0.heap.size < w1.heap.size := lt_of_block hx1
       have hLa := Lib.hid (recI_last p w0.heap.size m most (hd ns none) (lst none ns) none none k w1 hs1.head hx1 (by have := HL0.out.shape.plt; omega) (fun z hz => by
         obtain ⟨h1, h2, h3⟩ := hs1.newest hz
         have := HL0.out.shape.blt h1
         exact ⟨by omega, h2, h3⟩))
       have HL2 := Lib.hid hl2
       have HO2 := Lib.hid ho2
       have hO3 : Only (fun i => i = p ∨ i = w0.heap.size ∨ i ∈ blks ns) w1 (lastW kitI w1 p w0.heap.size (lst none ns)) := (hs1.last hx1 (fun hi => by have := HL0.out.shape.blt hi; omega) (by have := HL0.out.shape.plt; omega)).2
       have HZ : Hid (w0.heap.size < (lastW kitI w1 p w0.heap.size (lst none ns)).heap.size) := Lib.hid (Nat.lt_of_lt_of_le hsz hO3.size)
       clear hown1 hgrow1 ho1 hmlt hx1 hs1 hl2 ho2 hsz hO3)
    | (go_at_call 50; refine hLa.out.mono ?_; rintro e w2 ⟨rfl, rfl⟩))
  go_ret
  refine ⟨rfl, ⟨m, ns ++ [(k, w0.heap.size)], _, HL2.out, by simp, fun i hi => ?_⟩, HO0.out.1.trans (HO2.out.mono fun i _ hi => HT.out i hi)⟩
  rcases hi with e | e | hi
  · exact Or.inl (HT.out i (Or.inl e))
  · exact Or.inl (HT.out i (Or.inr (Or.inl e)))
  · rw [blks_append, List.mem_append] at hi
    rcases hi with hi | hi
    · exact Or.inl (HT.out i (Or.inr (Or.inr hi)))
    · obtain rfl : i = w0.heap.size := by simpa [blks] using hi
      exact Or.inr ⟨by rw [HO0.out.2]; exact Nat.le_refl _, HZ.out⟩

set_option maxHeartbeats 1000000 in
theorem recI_touch_none {w : World} {p : Nat} {most : Int} {ks : List KeyI} {F : Nat → Prop} (h : Lst kitI w p most ks F) (k : KeyI) (hk : k ∉ ks) :
    Calls Try.prog 12 #[.pointer (some ⟨p, 0, none⟩), (kitI).val k] w fun e w' => e = .returned (.bool false) ∧ w = w' := by
  have hH := recI_has h k
  rw [decide_eq_false hk] at hH
  have hH := Lib.hid hH
  clear h hk
  go_enter Try.func12, Try.ntmps12
  go_wp2_with (go_at_call 14; refine hH.out.mono ?_; rintro e w' ⟨rfl, rfl⟩)
  go_ret
  exact ⟨rfl, rfl⟩

set_option maxHeartbeats 2000000 in
theorem recI_touch {w : World} {p : Nat} {most : Int} {ks : List KeyI} {F : Nat → Prop} (h : Lst kitI w p most ks F) (k : KeyI) (hk : k ∈ ks) :
    Calls Try.prog 12 #[.pointer (some ⟨p, 0, none⟩), (kitI).val k] w fun e w' => e = .returned (.bool true) ∧ Lst kitI w' p most (wo k ks ++ [k]) F ∧ Only F w w' := by
  have hH := recI_has h k
  rw [decide_eq_true hk] at hH
  have hH := Lib.hid hH
  obtain ⟨m, ns, D, hl, rfl, hft⟩ := h
  obtain ⟨pre, b, post, rfl⟩ := split_key hk
  have hl0 := look_inI hl (x := (k, b)) (by simp)
  have hc1 := hl.shape.cells.2.1
  have hks : Hid (wo k ((pre ++ (k, b) :: post).map (·.1)) = (pre ++ post).map (·.1)) := Lib.hid (keys_wo (x := (k, b)) hl.is.nk)
  obtain ⟨bs1, bs2⟩ := hl.shape.beside
  have hO := Lib.hid (recI_out p b m most _ _ (lst none pre) (hd post none) k w hl.shape.head hl.shape.node hl.shape.xfar.1 bs1 bs2)
  have HL := Lib.hid hl
  have HT := Lib.hid hft
  clear hl hk hft bs1 bs2
  change (Instr.lookup _ _ (.int .i64 k.1) _).run _ _ = _ at hl0
  show Calls _ _ #[_, .int .i64 k.1] _ _
  go_enter Try.func12, Try.ntmps12
  go_wp2_with (first
    | (go_at_call 14; refine hH.out.mono ?_; rintro e w' ⟨rfl, rfl⟩)
    | (go_at_call 51; refine hO.out.mono ?_; rintro e w1 ⟨rfl, j, hj⟩
       have hs1 : Shape kitI w1 p m most (pre ++ post) ∧ Only (fun i => i = p ∨ i ∈ blks (pre ++ post)) w w1 := by
         rw [hj]
         exact ⟨HL.out.shape.out.1.keep rfl (fun _ _ => rfl), HL.out.shape.out.2.drawnN j⟩
       obtain ⟨hl2, ho2, hn2⟩ := HL.out.touch hs1.1 hs1.2
       have hLa := Lib.hid (recI_last p b m most _ (lst none (pre ++ post)) _ _ k w1 hs1.1.head hn2 HL.out.shape.xfar.1 (fun z hz => by
         obtain ⟨h1, h2, h3⟩ := hs1.1.newest hz
         exact ⟨fun e => HL.out.shape.xfar.2 (e ▸ h1), h2, h3⟩))
       have HL2 := Lib.hid hl2
       have HO2 := Lib.hid ho2
       clear hj hs1 hl2 ho2 hn2)
    | (go_at_call 50; refine hLa.out.mono ?_; rintro e w2 ⟨rfl, rfl⟩))
  go_ret
  refine ⟨rfl, ⟨m, pre ++ post ++ [(k, b)], D, HL2.out, ?_, fun i hi => ?_⟩, HO2.out.mono fun i _ hi => HT.out i hi⟩
  · rw [hks.out]
    simp
  · refine HT.out i ?_
    rcases hi with e | e | hi
    · exact Or.inl e
    · exact Or.inr (Or.inl e)
    · refine Or.inr (Or.inr ?_)
      rw [blks_append, blks_append, List.mem_append, List.mem_append] at hi
      rw [blks_append, List.mem_append]
      rcases hi with (hi | hi) | hi
      · exact Or.inl hi
      · exact Or.inr (List.mem_cons_of_mem _ hi)
      · obtain rfl : i = b := by simpa [blks] using hi
        exact Or.inr (by simp [blks])

set_option maxHeartbeats 1000000 in
theorem recI_remove_none {w : World} {p : Nat} {most : Int} {ks : List KeyI} {F : Nat → Prop} (h : Lst kitI w p most ks F) (k : KeyI) (hk : k ∉ ks) :
    Calls Try.prog 13 #[.pointer (some ⟨p, 0, none⟩), (kitI).val k] w fun e w' => e = .returned (.bool false) ∧ w = w' := by
  have hH := recI_has h k
  rw [decide_eq_false hk] at hH
  have hH := Lib.hid hH
  clear h hk
  go_enter Try.func13, Try.ntmps13
  go_wp2_with (go_at_call 14; refine hH.out.mono ?_; rintro e w' ⟨rfl, rfl⟩)
  go_ret
  exact ⟨rfl, rfl⟩

set_option maxHeartbeats 2000000 in
theorem recI_remove {w : World} {p : Nat} {most : Int} {ks : List KeyI} {F : Nat → Prop} (h : Lst kitI w p most ks F) (k : KeyI) (hk : k ∈ ks) :
    Calls Try.prog 13 #[.pointer (some ⟨p, 0, none⟩), (kitI).val k] w fun e w' => e = .returned (.bool true) ∧ Lst kitI w' p most (wo k ks) F ∧ Only F w w' := by
  have hH := recI_has h k
  rw [decide_eq_true hk] at hH
  have hH := Lib.hid hH
  obtain ⟨m, ns, D, hl, rfl, hft⟩ := h
  obtain ⟨pre, b, post, rfl⟩ := split_key hk
  have hl0 := look_inI hl (x := (k, b)) (by simp)
  have hc1 := hl.shape.cells.2.1
  have hks : Hid (wo k ((pre ++ (k, b) :: post).map (·.1)) = (pre ++ post).map (·.1)) := Lib.hid (keys_wo (x := (k, b)) hl.is.nk)
  obtain ⟨bs1, bs2⟩ := hl.shape.beside
  have hO := Lib.hid (recI_out p b m most _ _ (lst none pre) (hd post none) k w hl.shape.head hl.shape.node hl.shape.xfar.1 bs1 bs2)
  have HL := Lib.hid hl
  have HT := Lib.hid hft
  clear hl hk hft bs1 bs2
  change (Instr.lookup _ _ (.int .i64 k.1) _).run _ _ = _ at hl0
  show Calls _ _ #[_, .int .i64 k.1] _ _
  go_enter Try.func13, Try.ntmps13
  go_wp2_with (first
    | (go_at_call 14; refine hH.out.mono ?_; rintro e w' ⟨rfl, rfl⟩)
    | (go_at_call 51; refine hO.out.mono ?_; rintro e w1 ⟨rfl, j, hj⟩
       have hs1 : Shape kitI w1 p m most (pre ++ post) ∧ Only (fun i => i = p ∨ i ∈ blks (pre ++ post)) w w1 := by
         rw [hj]
         exact ⟨HL.out.shape.out.1.keep rfl (fun _ _ => rfl), HL.out.shape.out.2.drawnN j⟩
       have HS1 := Lib.hid hs1
       have hc2 := hs1.1.cells.2.1
       have hm1 : Hid (w1.ownsMap Try.prog (kitI).K ptrElem m (pre ++ (k, b) :: post).length D) := Lib.hid (ownsMap_same HL.out.map (hs1.2.block m (ownsMap_lt HL.out.map) (by
         have h1 := HL.out.mp
         have h2 := HL.out.mb
         rintro (e | e)
         · exact h1 e
         · refine h2 ?_
           rw [blks_append, List.mem_append] at e ⊢
           rcases e with e | e
           · exact Or.inl e
           · exact Or.inr (List.mem_cons_of_mem _ e))))
       clear hj hs1)
    | (at_delete
       refine wpList_delete_own _ rfl _ _ 39 _ rfl 40 (kitI).keyed Try.underlying39 ptrElem m _ D rfl hm1.out _ _ rfl ((kitI).key k) ?_
       intro w2 hown2 hturn2
       obtain ⟨hl3, ho3⟩ := HL.out.remove HS1.out.1 HS1.out.2 hown2 (Only.of_grown hturn2.grown (fun i e _ => (Option.some.inj e).symm))
       have HL3 := Lib.hid hl3
       have HO3 := Lib.hid ho3
       clear hl3 ho3 hown2 hturn2))
  go_ret
  refine ⟨rfl, ⟨m, pre ++ post, _, HL3.out, hks.out.symm.trans (by simp), fun i hi => ?_⟩, HO3.out.mono fun i _ hi => HT.out i hi⟩
  refine HT.out i ?_
  rcases hi with e | e | hi
  · exact Or.inl e
  · exact Or.inr (Or.inl e)
  · refine Or.inr (Or.inr ?_)
    rw [blks_append, List.mem_append] at hi ⊢
    rcases hi with hi | hi
    · exact Or.inl hi
    · exact Or.inr (List.mem_cons_of_mem _ hi)
theorem recI_len {w : World} {p : Nat} {most : Int} {ks : List KeyI} {F : Nat → Prop} (h : Lst kitI w p most ks F) :
    Calls Try.prog 22 #[.pointer (some ⟨p, 0, none⟩)] w fun e w' => e = .returned (.int .i64 (ks.length : Int)) ∧ w = w' := by
  obtain ⟨m, ns, D, hl, rfl, _⟩ := h
  have := recI_Len hl
  simpa using this
end Go.Proofs.Ytnmmeccbpcichaa
