/-
  slices.SortFunc laid at ids, and what it leaves when the order is that of nearness. Conditions: as each theorem says. (The laying's numbers are this seat's: printed by wip/gen/lay.py.)
-/
import Derived.Test.YtjdmbegmbffhfaaMetB
import Derived.Shelf.SlSortCmp.NoneTotal
import Derived.Ground.SlsfProg
namespace Go.Proofs.Ytjdmbegmbffhfaa
open Go.RowKit Go.Sort Go.Lib Go.Shelf

def Try.sortIDs_ren : Go.Shelf.Ren := ⟨fun | 6 => 82 | 15 => 103 | 14 => 102 | 28 => 115 | 29 => 116 | 20 => 107 | 21 => 108 | 22 => 109 | 23 => 110 | 24 => 111 | 25 => 112 | 26 => 113 | 27 => 114 | 46 => 117 | 47 => 118 | 48 => 119 | 49 => 120 | 50 => 121 | 57 => 122 | n => n, fun | 22 => 78 | 24 => 32 | 25 => 52 | 3 => 3 | 39 => 38 | 0 => 0 | 53 => 42 | 55 => 22 | 4 => 4 | 46 => 138 | 45 => 137 | 50 => 115 | 5 => 5 | 9 => 9 | 66 => 145 | 70 => 148 | 76 => 150 | 77 => 151 | n => n, fun | n => n⟩
theorem Try.sortIDs : Go.Proofs.SlLaysF0.n6 Try.prog Try.sortIDs_ren := {
    mixed := by kernel_rfl,
    f6 := ⟨Try.f82.name, by decide, Try.func82.trans (congrArg some (by kernel_rfl))⟩,
    f14 := ⟨Try.f102.name, by decide, Try.func102.trans (congrArg some (by kernel_rfl))⟩,
    f15 := Try.func103.trans (congrArg some (by kernel_rfl)),
    f20 := ⟨Try.f107.name, by decide, Try.func107.trans (congrArg some (by kernel_rfl))⟩,
    f21 := ⟨Try.f108.name, by decide, Try.func108.trans (congrArg some (by kernel_rfl))⟩,
    f22 := ⟨Try.f109.name, by decide, Try.func109.trans (congrArg some (by kernel_rfl))⟩,
    f23 := ⟨Try.f110.name, by decide, Try.func110.trans (congrArg some (by kernel_rfl))⟩,
    f24 := ⟨Try.f111.name, by decide, Try.func111.trans (congrArg some (by kernel_rfl))⟩,
    f25 := ⟨Try.f112.name, by decide, Try.func112.trans (congrArg some (by kernel_rfl))⟩,
    f26 := ⟨Try.f113.name, by decide, Try.func113.trans (congrArg some (by kernel_rfl))⟩,
    f27 := ⟨Try.f114.name, by decide, Try.func114.trans (congrArg some (by kernel_rfl))⟩,
    f28 := Try.func115.trans (congrArg some (by kernel_rfl)),
    f29 := Try.func116.trans (congrArg some (by kernel_rfl)),
    f46 := ⟨Try.f117.name, by decide, Try.func117.trans (congrArg some (by kernel_rfl))⟩,
    f47 := Try.func118.trans (congrArg some (by kernel_rfl)),
    f48 := Try.func119.trans (congrArg some (by kernel_rfl)),
    f49 := ⟨Try.f120.name, by decide, Try.func120.trans (congrArg some (by kernel_rfl))⟩,
    f50 := ⟨Try.f121.name, by decide, Try.func121.trans (congrArg some (by kernel_rfl))⟩,
    f57 := ⟨Try.f122.name, by decide, Try.func122.trans (congrArg some (by kernel_rfl))⟩,
    t0 := Try.underlying0,
    a0 := Try.isAgg0,
    z0 := Try.sizeOf0,
    v0 := Try.zeroValue0,
    t3 := Try.underlying3,
    a3 := Try.isAgg3,
    z3 := Try.sizeOf3,
    v3 := Try.zeroValue3,
    t4 := Try.underlying4,
    a4 := Try.isAgg4,
    z4 := Try.sizeOf4,
    v4 := Try.zeroValue4,
    t5 := Try.underlying5,
    a5 := Try.isAgg5,
    z5 := Try.sizeOf5,
    v5 := Try.zeroValue5,
    t9 := Try.underlying9,
    a9 := Try.isAgg9,
    z9 := Try.sizeOf9,
    v9 := Try.zeroValue9,
    t22 := Try.underlying78,
    a22 := Try.isAgg78,
    z22 := Try.sizeOf78,
    v22 := Try.zeroValue78,
    t25 := Try.underlying52,
    a25 := Try.isAgg52,
    z25 := Try.sizeOf52,
    v25 := Try.zeroValue52,
    t39 := Try.underlying38,
    a39 := Try.isAgg38,
    z39 := Try.sizeOf38,
    v39 := Try.zeroValue38,
    t45 := Try.underlying137,
    a45 := Try.isAgg137,
    z45 := Try.sizeOf137,
    v45 := Try.zeroValue137,
    t46 := Try.underlying138,
    a46 := Try.isAgg138,
    z46 := Try.sizeOf138,
    v46 := Try.zeroValue138,
    t50 := Try.underlying115,
    a50 := Try.isAgg115,
    z50 := Try.sizeOf115,
    v50 := Try.zeroValue115,
    t53 := Try.underlying42,
    a53 := Try.isAgg42,
    z53 := Try.sizeOf42,
    v53 := Try.zeroValue42,
    t55 := Try.underlying22,
    a55 := Try.isAgg22,
    z55 := Try.sizeOf22,
    v55 := Try.zeroValue22,
    t66 := Try.underlying145,
    a66 := Try.isAgg145,
    z66 := Try.sizeOf145,
    v66 := Try.zeroValue145,
    t70 := Try.underlying148,
    a70 := Try.isAgg148,
    z70 := Try.sizeOf148,
    v70 := Try.zeroValue148,
    t76 := Try.underlying150,
    a76 := Try.isAgg150,
    z76 := Try.sizeOf150,
    v76 := Try.zeroValue150,
    t77 := Try.underlying151,
    a77 := Try.isAgg151,
    z77 := Try.sizeOf151,
    v77 := Try.zeroValue151 }

theorem sorted_world (w : World) (g n : Nat) (d d' : Array Id20) (os : Array Obj) (h : IB w g d) (hd : d'.size = d.size) :
    Only (· = g) w (sortWorldK encId 20 w g 0 n d' os) ∧ IB (sortWorldK encId 20 w g 0 n d' os) g d' := by
  have hlt := h.lt
  have hsz : (sortWorldK encId 20 w g 0 n d' os).heap.size = w.heap.size + os.size := by simp [sortWorldK, putRowK, putRow, mapBlock, ahead]
  have hget : ∀ k, k < w.heap.size → (sortWorldK encId 20 w g 0 n d' os).heap[k]? = if g = k then (w.heap[k]?).map (onCells (putCells id 0 (flatK encId 20 d'))) else w.heap[k]? := by
    intro k hk
    show (w.heap.modify g (onCells (putCells id 0 (flatK encId 20 d'))) ++ os)[k]? = _
    rw [Array.getElem?_append_left (by simpa using hk), Array.getElem?_modify]
  refine ⟨⟨rfl, rfl, rfl, by omega, fun k hk hn => by rw [hget k hk, if_neg (fun e => hn e.symm)]⟩, ?_⟩
  unfold IB at h ⊢
  rw [hget g hlt, if_pos rfl, h]
  show some (Obj.cells (putCells id 0 (flatK encId 20 d') (idsV d)) _ _) = _
  congr 2
  apply Array.ext_getElem?
  intro t
  have hs' : (idsV d').size = (idsV d).size := by rw [idsV_size, idsV_size, hd]
  unfold putCells
  rw [Array.getElem?_mapIdx]
  by_cases ht : t < (idsV d).size
  · rw [Array.getElem?_eq_getElem ht, Array.getElem?_eq_getElem (by omega)]
    have ht' : t < (flatK encId 20 d').size := by unfold idsV at hs' ht; omega
    show some (if 0 ≤ t ∧ t < 0 + (flatK encId 20 d').size then id (flatK encId 20 d')[t - 0]! else (idsV d)[t]) = some (idsV d')[t]
    rw [if_pos ⟨Nat.zero_le _, by omega⟩, Nat.sub_zero, getElem!_pos _ t ht']
    rfl
  · rw [Array.getElem?_eq_none (by omega), Array.getElem?_eq_none (by omega)]
    rfl

theorem nearS_size (t : List UInt8) (d : Array Id20) : (nearS t d.toList).toArray.size = d.size := by simp [nearS]

set_option maxHeartbeats 1000000 in
theorem sort_IDs (t : List UInt8) (ht : t.length = 20) (g gb cap : Nat) (d : Array Id20) (w : World) (hI : IB w g d) (hT : BB 32 w gb t) (hne : gb ≠ g) (hsz : d.size < 4611686018427387904) :
    Calls Try.prog 82 #[.slice (some ⟨g, 0, none⟩) d.size cap, .func (.func 104) #[] #[.pointer (some ⟨gb, 0, none⟩)]] w fun e w' =>
      e = .returned (.tuple #[]) ∧ Only (· = g) w w' ∧ IB w' g (nearS t d.toList).toArray := by
  have eg : ∀ args w, (callFunc 104 args).run Try.prog w = .ok (.enter 104 args) w := enters_of Try.func104 (by kernel_rfl) rfl
  have hcmp : CmpLays Try.prog 104 #[.pointer (some ⟨gb, 0, none⟩)] encId 20 (nearC t) g 0 d.size w := by
    intro m os dk hs x y
    obtain ⟨ho, _⟩ := sorted_world w g m d dk os hI hs
    exact (metric_by1 t x.1 y.1 ht x.2 y.2 gb _ (hT.far ho hne)).mono fun e w' ⟨he, hg⟩ => ⟨he, hg.grow⟩
  have hcon := AnyQ.slices_SortFunc_total Try.sortIDs 20 Try.isAgg32 Try.sizeOf32 encId encId_length encId_one (nearC t) (near_swo t ht) 104 #[.pointer (some ⟨gb, 0, none⟩)] g 0 cap d w eg hcmp hI.holds hI.lt hsz (near_total t ht)
  refine hcon.mono ?_
  rintro e w' ⟨he, n, os, rfl⟩
  exact ⟨he, sorted_world w g n d _ os hI (nearS_size t d)⟩
end Go.Proofs.Ytjdmbegmbffhfaa
