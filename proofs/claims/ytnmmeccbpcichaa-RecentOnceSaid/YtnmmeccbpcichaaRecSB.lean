/-
  The list's functions at keys of the kind string: New, Has, Full, Len, key, Oldest, Newest. Conditions: as each theorem says.
-/
import Derived.Test.YtnmmeccbpcichaaRecSA
import Derived.Test.YtnmmeccbpcichaaQuietL
import Derived.Maps.OwnOps
namespace Go.Proofs.Ytnmmeccbpcichaa
open Go.RowKit Go.Maps

theorem zeroES (w : World) : (zeroValue 128).run Try.prog w = .ok (.pointer none) w := by kernel_rfl
theorem look_inS {w : World} {p m : Nat} {most : Int} {ns : List (KeyS × Nat)} {D : DataW Unit} (h : LstW kitS w p m most ns D) {x : KeyS × Nat} (hx : x ∈ ns) :
    (Instr.lookup 127 (.map (some m)) (kitS.val x.1) false).run Try.prog w = .ok (.pointer (some ⟨x.2, 0, none⟩)) w := by
  obtain ⟨v, ps, hr, hR⟩ := h.map.lookup (kitS).keyed Try.underlying127 (zeroES w) (show ptrElem (.pointer none) = some (.nil, []) from rfl) ((kitS).key x.1)
  rw [h.is.at_ x hx] at hR
  rw [hr, ptrElem_inv hR]
theorem look_outS {w : World} {p m : Nat} {most : Int} {ns : List (KeyS × Nat)} {D : DataW Unit} (h : LstW kitS w p m most ns D) {k : KeyS} (hk : k ∉ ns.map (·.1)) :
    (Instr.lookup 127 (.map (some m)) (kitS.val k) false).run Try.prog w = .ok (.pointer none) w := by
  obtain ⟨v, ps, hr, hR⟩ := h.map.lookup (kitS).keyed Try.underlying127 (zeroES w) (show ptrElem (.pointer none) = some (.nil, []) from rfl) ((kitS).key k)
  rw [atKey_of_not_has (h.is.no k hk)] at hR
  rw [hr, ptrElem_nil hR]

set_option maxHeartbeats 1000000 in
theorem recS_New (most : Int) (h1 : 1 ≤ most) (h2 : most ≤ 65536) (w : World) :
    Calls Try.prog 43 #[.int .i64 most] w fun e w' => ∃ p, e = .returned (.pointer (some ⟨p, 0, none⟩)) ∧ Lst kitS w' p most [] (fun i => w.heap.size ≤ i ∧ i < w'.heap.size) ∧ Below w.heap.size w w' := by
  have hmm := @run_makeMap Try.prog
  have hown : Hid ((w.alloc (.map #[] 0)).ownsMap Try.prog (kitS).K ptrElem w.heap.size 0 (.map [])) := Lib.hid (World.ownsMap_made _ _ _ _)
  go_enter Try.func43, Try.ntmps43
  go_wp2
  go_ret
  refine ⟨w.heap.size + 1, rfl, ⟨w.heap.size, [], .map [], ?_, rfl, ?_⟩, ((Below.refl _ _).alloc (Nat.le_refl _) _).alloc (by simp) _⟩
  · exact LstW.new (heap_alloc2_new _ _ _) (hown.out.alloc _) h1 (by omega)
  · intro i hi
    rcases hi with rfl | rfl | hi
    · simp
    · simp; omega
    · cases hi

set_option maxHeartbeats 1000000 in
theorem recS_New_bad (most : Int) (h : most < 1 ∨ 65536 < most) (h0 : -9223372036854775808 ≤ most) (h1 : most ≤ 9223372036854775807) (w : World) :
    Calls Try.prog 43 #[.int .i64 most] w fun e w' => e = .returned (.pointer none) ∧ w = w' := by
  by_cases hl : most < 1
  all_goals
    go_enter Try.func43, Try.ntmps43
    go_wp2
    go_ret
    exact ⟨rfl, rfl⟩

set_option maxHeartbeats 1000000 in
theorem recS_Has {w : World} {p m : Nat} {most : Int} {ns : List (KeyS × Nat)} {D : DataW Unit} (h : LstW kitS w p m most ns D) (k : KeyS) :
    Calls Try.prog 82 #[.pointer (some ⟨p, 0, none⟩), (kitS).val k] w fun e w' => e = .returned (.bool (decide (k ∈ ns.map (·.1)))) ∧ w = w' := by
  obtain ⟨c0, c1, _, _, _, _⟩ := h.shape.cells
  have hN := Lib.hid (recS_none p most h.mo w c0)
  by_cases hk : k ∈ ns.map (·.1)
  · obtain ⟨x, hx, rfl⟩ := List.mem_map.1 hk
    have hl := look_inS h hx
    rw [decide_eq_true hk]
    change (Instr.lookup _ _ (.string x.1.1) _).run _ _ = _ at hl
    show Calls _ _ #[_, .string x.1.1] _ _
    clear h hk hx
    go_enter Try.func82, Try.ntmps82
    go_wp2_with (go_at_call 81; refine hN.out.mono ?_; rintro e w' ⟨rfl, rfl⟩)
    go_ret
    exact ⟨rfl, rfl⟩
  · have hl := look_outS h hk
    rw [decide_eq_false hk]
    change (Instr.lookup _ _ (.string k.1) _).run _ _ = _ at hl
    show Calls _ _ #[_, .string k.1] _ _
    clear h hk
    go_enter Try.func82, Try.ntmps82
    go_wp2_with (go_at_call 81; refine hN.out.mono ?_; rintro e w' ⟨rfl, rfl⟩)
    go_ret
    exact ⟨rfl, rfl⟩

set_option maxHeartbeats 1000000 in
theorem recS_key_none (w : World) : Calls Try.prog 85 #[.pointer none] w fun e w' => e = .returned (.tuple #[.string ByteArray.empty, .bool false]) ∧ w = w' := by
  go_enter Try.func85, Try.ntmps85
  go_wp2
  refine bodyPost_ret (results_tmp2 rfl _ _ _) rfl ?_
  exact ⟨rfl, rfl⟩
set_option maxHeartbeats 1000000 in
theorem recS_key {w : World} {b : Nat} {k : KeyS} {o n : Option Nat} (h : NodeAt kitS w b k o n) : Calls Try.prog 85 #[.pointer (some ⟨b, 0, none⟩)] w fun e w' => e = .returned (.tuple #[(kitS).val k, .bool true]) ∧ w = w' := by
  obtain ⟨_, _, _, _, hr⟩ := h.cells
  have c0 : w.cell? ⟨b, 0, none⟩ = some (.string k.1) := hr 0 (by decide)
  clear h hr
  go_enter Try.func85, Try.ntmps85
  go_wp2
  refine bodyPost_ret (results_tmp2 rfl _ _ _) rfl ?_
  exact ⟨rfl, rfl⟩

set_option maxHeartbeats 1000000 in
theorem recS_Oldest {w : World} {p m : Nat} {most : Int} {ns : List (KeyS × Nat)} {D : DataW Unit} (h : LstW kitS w p m most ns D) :
    Calls Try.prog 46 #[.pointer (some ⟨p, 0, none⟩)] w fun e w' => e = .returned (.tuple (match (ns.map (·.1)).head? with | none => #[.string ByteArray.empty, .bool false] | some k => #[(kitS).val k, .bool true])) ∧ w = w' := by
  obtain ⟨c0, _, c2, c3, _, _⟩ := h.shape.cells
  have hN := Lib.hid (recS_none p most h.mo w c0)
  cases ns with
  | nil =>
    have hK := Lib.hid (recS_key_none w)
    change w.cell? ⟨p, 2, none⟩ = some (.pointer none) at c2
    show Calls _ _ _ _ fun e w' => e = .returned (.tuple #[.string ByteArray.empty, .bool false]) ∧ w = w'
    clear h c3
    go_enter Try.func46, Try.ntmps46
    go_wp2_with (first
      | (go_at_call 81; refine hN.out.mono ?_; rintro e w' ⟨rfl, rfl⟩)
      | (go_at_call 85; refine hK.out.mono ?_; rintro e w' ⟨rfl, rfl⟩))
    refine bodyPost_ret (results_tmp2 rfl _ _ _) rfl ?_
    exact ⟨rfl, rfl⟩
  | cons x ns =>
    have hK := Lib.hid (recS_key h.shape.seg.1)
    change w.cell? ⟨p, 2, none⟩ = some (.pointer (some ⟨x.2, 0, none⟩)) at c2
    show Calls _ _ _ _ fun e w' => e = .returned (.tuple #[(kitS).val x.1, .bool true]) ∧ w = w'
    clear h c3
    go_enter Try.func46, Try.ntmps46
    go_wp2_with (first
      | (go_at_call 81; refine hN.out.mono ?_; rintro e w' ⟨rfl, rfl⟩)
      | (go_at_call 85; refine hK.out.mono ?_; rintro e w' ⟨rfl, rfl⟩))
    refine bodyPost_ret (results_tmp2 rfl _ _ _) rfl ?_
    exact ⟨rfl, rfl⟩

set_option maxHeartbeats 1000000 in
theorem recS_Newest {w : World} {p m : Nat} {most : Int} {ns : List (KeyS × Nat)} {D : DataW Unit} (h : LstW kitS w p m most ns D) :
    Calls Try.prog 47 #[.pointer (some ⟨p, 0, none⟩)] w fun e w' => e = .returned (.tuple (match (ns.map (·.1)).getLast? with | none => #[.string ByteArray.empty, .bool false] | some k => #[(kitS).val k, .bool true])) ∧ w = w' := by
  obtain ⟨c0, _, c2, c3, _, _⟩ := h.shape.cells
  have hN := Lib.hid (recS_none p most h.mo w c0)
  rcases nil_or_snoc ns with rfl | ⟨ys, z, rfl⟩
  · have hK := Lib.hid (recS_key_none w)
    change w.cell? ⟨p, 3, none⟩ = some (.pointer none) at c3
    show Calls _ _ _ _ fun e w' => e = .returned (.tuple #[.string ByteArray.empty, .bool false]) ∧ w = w'
    clear h c2
    go_enter Try.func47, Try.ntmps47
    go_wp2_with (first
      | (go_at_call 81; refine hN.out.mono ?_; rintro e w' ⟨rfl, rfl⟩)
      | (go_at_call 85; refine hK.out.mono ?_; rintro e w' ⟨rfl, rfl⟩))
    refine bodyPost_ret (results_tmp2 rfl _ _ _) rfl ?_
    exact ⟨rfl, rfl⟩
  · have hs := (Seg.append (κ := kitS) ys [z] none none).1 h.shape.seg
    have hK := Lib.hid (recS_key hs.2.1)
    have el : lst none (ys ++ [z]) = some z.2 := lst_append ys [z] none
    rw [el] at c3
    change w.cell? ⟨p, 3, none⟩ = some (.pointer (some ⟨z.2, 0, none⟩)) at c3
    have he : ((ys ++ [z]).map (·.1)).getLast? = some z.1 := by simp
    rw [he]
    show Calls _ _ _ _ fun e w' => e = .returned (.tuple #[(kitS).val z.1, .bool true]) ∧ w = w'
    clear h c2 hs he el
    go_enter Try.func47, Try.ntmps47
    go_wp2_with (first
      | (go_at_call 81; refine hN.out.mono ?_; rintro e w' ⟨rfl, rfl⟩)
      | (go_at_call 85; refine hK.out.mono ?_; rintro e w' ⟨rfl, rfl⟩))
    refine bodyPost_ret (results_tmp2 rfl _ _ _) rfl ?_
    exact ⟨rfl, rfl⟩

set_option maxRecDepth 100000 in
set_option maxHeartbeats 1000000 in
theorem recS_Full {w : World} {p m : Nat} {most : Int} {ns : List (KeyS × Nat)} {D : DataW Unit} (h : LstW kitS w p m most ns D) :
    Calls Try.prog 48 #[.pointer (some ⟨p, 0, none⟩)] w fun e w' => e = .returned (.bool (decide ((ns.length : Int) = most))) ∧ ∃ j, w' = w.drewN j := by
  obtain ⟨c0, c1, _, _, _, _⟩ := h.shape.cells
  have hN : Hid (∀ j, Calls Try.prog 81 #[.pointer (some ⟨p, 0, none⟩)] (w.drewN j) fun e w' => e = .returned (.bool false) ∧ w.drewN j = w') := Lib.hid fun j => recS_none p most h.mo (w.drewN j) c0
  have hlen : ∀ j ty, (Builtin.len_ #[127] ty #[.map (some m)]).run Try.prog (w.drewN j) = .ok (.int .i64 (ns.length : Int)) (w.drewN j) := fun j ty => by
    have e : Maps.size D = ns.length := h.is.size
    rw [← e]
    exact World.ownsMap.len (w := w.drewN j) (ownsMap_same h.map rfl) Try.underlying127 ty
  have c0' : ∀ j, (w.drewN j).cell? ⟨p, 0, none⟩ = some (.int .i64 most) := fun j => c0
  have c1' : ∀ j, (w.drewN j).cell? ⟨p, 1, none⟩ = some (.map (some m)) := fun j => c1
  clear h
  go_enter Try.func48, Try.ntmps48
  go_wp2_with fail
  refine wp_region_QL (Drawn w) (by kernel_rfl) (by kernel_rfl) ⟨1, rfl⟩ ?_
  repeat (refine QL.step (fun K hK => ?_); go_simp
          first
            | (refine hK _ ?_; clear hK K)
            | (apply Exists.intro
               refine ⟨fun w' hw => ?_, hK _ ?_⟩
               first
                 | with_reducible rfl
                 | (obtain ⟨j, rfl⟩ := hw.out; go_at_call 81; refine (hN.out j).mono ?_; rintro e w' ⟨rfl, rfl⟩; exact ⟨rfl, hw⟩)
                 | (obtain ⟨j, rfl⟩ := hw.out; rw [c1' j]; exact ⟨rfl, rfl⟩)
                 | (obtain ⟨j, rfl⟩ := hw.out; rw [c0' j]; exact ⟨rfl, rfl⟩)
                 | (obtain ⟨j, rfl⟩ := hw.out; rw [hlen j]; exact ⟨rfl, rfl⟩)
               clear hK K))
  refine QL.nil ?_
  intro w7 hC7
  obtain ⟨j, rfl⟩ := hC7.out
  go_wp2_with fail
  go_ret
  refine ⟨?_, j, rfl⟩
  simp
  rw [Bool.eq_iff_iff]
  simp
end Go.Proofs.Ytnmmeccbpcichaa
