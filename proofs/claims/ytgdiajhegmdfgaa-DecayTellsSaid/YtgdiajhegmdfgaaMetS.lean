/-
  slices.SortFunc laid at ids, and what it leaves when the order is that of nearness. Conditions: as each theorem says. (Printed by wip/gen/lay.py, its numbers turned into names by wip/gen/metsmark.py.)
-/
import Derived.Test.YtgdiajhegmdfgaaMetB
import Derived.Shelf.SlSortCmp.NoneTotal
import Derived.Ground.SlsfProg
namespace Go.Proofs.Ytgdiajhegmdfgaa
open Go.RowKit Go.Sort Go.Lib Go.Shelf

def Try.sortIDs_ren : Go.Shelf.Ren := ⟨fun | 6 => 41 | 15 => 69 | 14 => 68 | 28 => 89 | 29 => 90 | 20 => 81 | 21 => 82 | 22 => 83 | 23 => 84 | 24 => 85 | 25 => 86 | 26 => 87 | 27 => 88 | 46 => 97 | 47 => 98 | 48 => 99 | 49 => 100 | 50 => 101 | 57 => 103 | n => n, fun | 22 => 28 | 24 => 34 | 25 => 39 | 3 => 3 | 39 => 25 | 0 => 0 | 53 => 78 | 55 => 22 | 4 => 4 | 46 => 107 | 45 => 106 | 50 => 76 | 5 => 5 | 9 => 9 | 66 => 122 | 70 => 126 | 76 => 131 | 77 => 132 | n => n, fun | n => n⟩
theorem Try.sortIDs : Go.Proofs.SlLaysF0.n6 Try.prog Try.sortIDs_ren := {
    mixed := by kernel_rfl,
    f6 := ⟨Try.f41.name, by decide, Try.func41.trans (congrArg some (by kernel_rfl))⟩,
    f14 := ⟨Try.f68.name, by decide, Try.func68.trans (congrArg some (by kernel_rfl))⟩,
    f15 := Try.func69.trans (congrArg some (by kernel_rfl)),
    f20 := ⟨Try.f81.name, by decide, Try.func81.trans (congrArg some (by kernel_rfl))⟩,
    f21 := ⟨Try.f82.name, by decide, Try.func82.trans (congrArg some (by kernel_rfl))⟩,
    f22 := ⟨Try.f83.name, by decide, Try.func83.trans (congrArg some (by kernel_rfl))⟩,
    f23 := ⟨Try.f84.name, by decide, Try.func84.trans (congrArg some (by kernel_rfl))⟩,
    f24 := ⟨Try.f85.name, by decide, Try.func85.trans (congrArg some (by kernel_rfl))⟩,
    f25 := ⟨Try.f86.name, by decide, Try.func86.trans (congrArg some (by kernel_rfl))⟩,
    f26 := ⟨Try.f87.name, by decide, Try.func87.trans (congrArg some (by kernel_rfl))⟩,
    f27 := ⟨Try.f88.name, by decide, Try.func88.trans (congrArg some (by kernel_rfl))⟩,
    f28 := Try.func89.trans (congrArg some (by kernel_rfl)),
    f29 := Try.func90.trans (congrArg some (by kernel_rfl)),
    f46 := ⟨Try.f97.name, by decide, Try.func97.trans (congrArg some (by kernel_rfl))⟩,
    f47 := Try.func98.trans (congrArg some (by kernel_rfl)),
    f48 := Try.func99.trans (congrArg some (by kernel_rfl)),
    f49 := ⟨Try.f100.name, by decide, Try.func100.trans (congrArg some (by kernel_rfl))⟩,
    f50 := ⟨Try.f101.name, by decide, Try.func101.trans (congrArg some (by kernel_rfl))⟩,
    f57 := ⟨Try.f103.name, by decide, Try.func103.trans (congrArg some (by kernel_rfl))⟩,
    t0 := Try.underlying0,
    a0 := Try.isAgg0,
    z0 := Try.sizeOf0,
    v0 := Try.zeroValue0,
    t3 := Try.underlying3,
    a3 := Try.isAgg3,
    z3 := Try.sizeOf3,
    v3 := Try.zeroValue3,
    t4 := Try.underlying4,
    a4 := Try.isAgg4,
    z4 := Try.sizeOf4,
    v4 := Try.zeroValue4,
    t5 := Try.underlying5,
    a5 := Try.isAgg5,
    z5 := Try.sizeOf5,
    v5 := Try.zeroValue5,
    t9 := Try.underlying9,
    a9 := Try.isAgg9,
    z9 := Try.sizeOf9,
    v9 := Try.zeroValue9,
    t22 := Try.underlying28,
    a22 := Try.isAgg28,
    z22 := Try.sizeOf28,
    v22 := Try.zeroValue28,
    t25 := Try.underlying39,
    a25 := Try.isAgg39,
    z25 := Try.sizeOf39,
    v25 := Try.zeroValue39,
    t39 := Try.underlying25,
    a39 := Try.isAgg25,
    z39 := Try.sizeOf25,
    v39 := Try.zeroValue25,
    t45 := Try.underlying106,
    a45 := Try.isAgg106,
    z45 := Try.sizeOf106,
    v45 := Try.zeroValue106,
    t46 := Try.underlying107,
    a46 := Try.isAgg107,
    z46 := Try.sizeOf107,
    v46 := Try.zeroValue107,
    t50 := Try.underlying76,
    a50 := Try.isAgg76,
    z50 := Try.sizeOf76,
    v50 := Try.zeroValue76,
    t53 := Try.underlying78,
    a53 := Try.isAgg78,
    z53 := Try.sizeOf78,
    v53 := Try.zeroValue78,
    t55 := Try.underlying22,
    a55 := Try.isAgg22,
    z55 := Try.sizeOf22,
    v55 := Try.zeroValue22,
    t66 := Try.underlying122,
    a66 := Try.isAgg122,
    z66 := Try.sizeOf122,
    v66 := Try.zeroValue122,
    t70 := Try.underlying126,
    a70 := Try.isAgg126,
    z70 := Try.sizeOf126,
    v70 := Try.zeroValue126,
    t76 := Try.underlying131,
    a76 := Try.isAgg131,
    z76 := Try.sizeOf131,
    v76 := Try.zeroValue131,
    t77 := Try.underlying132,
    a77 := Try.isAgg132,
    z77 := Try.sizeOf132,
    v77 := Try.zeroValue132 }

theorem sorted_world (w : World) (g n : Nat) (d d' : Array Id20) (os : Array Obj) (h : IB w g d) (hd : d'.size = d.size) :
    Only (· = g) w (sortWorldK encId 20 w g 0 n d' os) ∧ IB (sortWorldK encId 20 w g 0 n d' os) g d' := by
  have hlt := h.lt
  have hsz : (sortWorldK encId 20 w g 0 n d' os).heap.size = w.heap.size + os.size := by simp [sortWorldK, putRowK, putRow, mapBlock, ahead]
  have hget : ∀ k, k < w.heap.size → (sortWorldK encId 20 w g 0 n d' os).heap[k]? = if g = k then (w.heap[k]?).map (onCells (putCells id 0 (flatK encId 20 d'))) else w.heap[k]? := by
    intro k hk
    show (w.heap.modify g (onCells (putCells id 0 (flatK encId 20 d'))) ++ os)[k]? = _
    rw [Array.getElem?_append_left (by simpa using hk), Array.getElem?_modify]
  refine ⟨⟨rfl, rfl, rfl, by omega, fun k hk hn => by rw [hget k hk, if_neg (fun e => hn e.symm)]⟩, ?_⟩
  unfold IB at h ⊢
  rw [hget g hlt, if_pos rfl, h]
  show some (Obj.cells (putCells id 0 (flatK encId 20 d') (idsV d)) _ _) = _
  congr 2
  apply Array.ext_getElem?
  intro t
  have hs' : (idsV d').size = (idsV d).size := by rw [idsV_size, idsV_size, hd]
  unfold putCells
  rw [Array.getElem?_mapIdx]
  by_cases ht : t < (idsV d).size
  · rw [Array.getElem?_eq_getElem ht, Array.getElem?_eq_getElem (by omega)]
    have ht' : t < (flatK encId 20 d').size := by unfold idsV at hs' ht; omega
    show some (if 0 ≤ t ∧ t < 0 + (flatK encId 20 d').size then id (flatK encId 20 d')[t - 0]! else (idsV d)[t]) = some (idsV d')[t]
    rw [if_pos ⟨Nat.zero_le _, by omega⟩, Nat.sub_zero, getElem!_pos _ t ht']
    rfl
  · rw [Array.getElem?_eq_none (by omega), Array.getElem?_eq_none (by omega)]
    rfl

theorem nearS_size (t : List UInt8) (d : Array Id20) : (nearS t d.toList).toArray.size = d.size := by simp [nearS]

set_option maxHeartbeats 1000000 in
theorem sort_IDs (t : List UInt8) (ht : t.length = 20) (g gb cap : Nat) (d : Array Id20) (w : World) (hI : IB w g d) (hT : BB 34 w gb t) (hne : gb ≠ g) (hsz : d.size < 4611686018427387904) :
    Calls Try.prog 41 #[.slice (some ⟨g, 0, none⟩) d.size cap, .func (.func 76) #[] #[.pointer (some ⟨gb, 0, none⟩)]] w fun e w' =>
      e = .returned (.tuple #[]) ∧ Only (· = g) w w' ∧ IB w' g (nearS t d.toList).toArray := by
  have eg : ∀ args w, (callFunc 76 args).run Try.prog w = .ok (.enter 76 args) w := enters_of Try.func76 (by kernel_rfl) rfl
  have hcmp : CmpLays Try.prog 76 #[.pointer (some ⟨gb, 0, none⟩)] encId 20 (nearC t) g 0 d.size w := by
    intro m os dk hs x y
    obtain ⟨ho, _⟩ := sorted_world w g m d dk os hI hs
    exact (metric_by1 t x.1 y.1 ht x.2 y.2 gb _ (hT.far ho hne)).mono fun e w' ⟨he, hg⟩ => ⟨he, hg.grow⟩
  have hcon := AnyQ.slices_SortFunc_total Try.sortIDs 20 Try.isAgg34 Try.sizeOf34 encId encId_length encId_one (nearC t) (near_swo t ht) 76 #[.pointer (some ⟨gb, 0, none⟩)] g 0 cap d w eg hcmp hI.holds hI.lt hsz (near_total t ht)
  refine hcon.mono ?_
  rintro e w' ⟨he, n, os, rfl⟩
  exact ⟨he, sorted_world w g n d _ os hI (nearS_size t d)⟩
end Go.Proofs.Ytgdiajhegmdfgaa
