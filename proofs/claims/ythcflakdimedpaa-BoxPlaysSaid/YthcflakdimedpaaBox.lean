/-
  What the calls of a box of ints do. Conditions: the box is one that New made, or none.
-/
import Derived.Test.YthcflakdimedpaaRows
import Derived.Test.YthcflakdimedpaaSlice
import Derived.Test.YthcflakdimedpaaChan
import Derived.ProofKit
import Derived.WalkLawsBesides
import Derived.WalkSpells
import Derived.BigQuiet
import Derived.Deep.QuietTactic
namespace Go.Proofs.Ythcflakdimedpaa
open Go.RowKit Go.Conc

theorem ret_int {k : IntKind} {a b : Int} (h : a = b) : Ending.returned (.int k a) = .returned (.int k b) := by rw [h]
theorem ret_bool {a b : Bool} (h : a = b) : Ending.returned (.bool a) = .returned (.bool b) := by rw [h]

theorem infoInt : (Try.prog.info? 3).map (fun i => (i.zero, i.size, i.bytes)) = some (some (.int .i64 0), 1, 8) := by kernel_rfl

def ints (l : List Int) : List Value := l.map fun x => .int .i64 x

/-- A box at block g, its channel at block c. -/
structure IsBox (w : World) (g c cap : Nat) (l : List Int) : Prop where
  box : w.heap[g]? = some (.cells #[.chan (some c)] 136 (0, 0))
  chan : ∃ s r, w.heap[c]? = some (.chan cap (ints l).toArray false s r false)

theorem IsBox.keep {w w' : World} {g c cap : Nat} {l : List Int} (h : IsBox w g c cap l) (hg : w'.heap[g]? = w.heap[g]?) (hc : w'.heap[c]? = w.heap[c]?) : IsBox w' g c cap l :=
  ⟨hg.trans h.box, h.chan.elim fun s ⟨r, h⟩ => ⟨s, r, hc.trans h⟩⟩
theorem IsBox.lt {w : World} {g c cap : Nat} {l : List Int} (h : IsBox w g c cap l) : g < w.heap.size ∧ c < w.heap.size := by
  obtain ⟨s, r, hc⟩ := h.chan
  exact ⟨(Array.getElem?_eq_some_iff.1 h.box).1, (Array.getElem?_eq_some_iff.1 hc).1⟩
theorem IsBox.ne {w : World} {g c cap : Nat} {l : List Int} (h : IsBox w g c cap l) : g ≠ c := by
  rintro rfl
  obtain ⟨s, r, hc⟩ := h.chan
  have := h.box.symm.trans hc
  cases this

theorem eql_chan_nil (c : Nat) : ∀ w : World, (binOp .eql 134 (.chan (some c)) (.chan none)).run Try.prog w = .ok (.bool false) w := fun w => by kernel_rfl

set_option maxHeartbeats 400000 in
theorem box_none_nil (w : World) : Calls Try.prog 83 #[.pointer none] w fun e w' => e = .returned (.bool true) ∧ w = w' := by
  go_enter Try.func83, Try.ntmps83
  go_wp2
  go_ret
  exact ⟨rfl, rfl⟩

set_option maxHeartbeats 400000 in
theorem box_none_box (w : World) (g c : Nat) (hg : w.heap[g]? = some (.cells #[.chan (some c)] 136 (0, 0))) : Calls Try.prog 83 #[.pointer (some ⟨g, 0, none⟩)] w fun e w' => e = .returned (.bool false) ∧ w = w' := by
  have hc := cell_of_row w g 0 _ _ _ hg
  simp only [List.getElem?_toArray, List.getElem?_cons_zero] at hc
  clear hg
  have heq := eql_chan_nil c
  go_enter Try.func83, Try.ntmps83
  go_wp2
  go_ret
  exact ⟨rfl, rfl⟩

set_option maxHeartbeats 400000 in
theorem box_New_bad (most : Int) (h : most < 1 ∨ 65536 < most) (w : World) : Calls Try.prog 14 #[.int .i64 most] w fun e w' => e = .returned (.pointer none) ∧ w = w' := by
  go_enter Try.func14, Try.ntmps14
  rcases h with h | h
  · go_wp2
    go_ret
    exact ⟨rfl, rfl⟩
  · have h1 : ¬ most < 1 := by omega
    go_wp2
    go_ret
    exact ⟨rfl, rfl⟩

set_option maxHeartbeats 400000 in
theorem box_New_good (n : Nat) (h0 : 1 ≤ n) (h1 : n ≤ 65536) (w : World) : Calls Try.prog 14 #[.int .i64 (n : Int)] w fun e w' => ∃ g c, e = .returned (.pointer (some ⟨g, 0, none⟩)) ∧ IsBox w' g c n [] ∧ Below w.heap.size w w' ∧ w.heap.size ≤ g ∧ w.heap.size ≤ c := by
  have hm : ∀ w : World, (Instr.makeChan 134 (.int .i64 (n : Int))).run Try.prog w = .ok (.chan (some w.heap.size)) (w.alloc (.chan n #[] false 0 0 false)) := by
    intro w
    obtain ⟨i, hi, _, _, hby⟩ := info_parts infoInt
    exact run_makeChan Try.underlying134 hi _ n (by omega) (by rw [hby]; omega)
  go_enter Try.func14, Try.ntmps14
  go_wp2
  go_ret
  have hsz : (w.alloc (.chan n #[] false 0 0 false)).heap.size = w.heap.size + 1 := by simp
  refine ⟨w.heap.size + 1, w.heap.size, rfl, ⟨?_, 0, 0, ?_⟩, ((Below.refl _ _).alloc (Nat.le_refl _) _).alloc (by simp) _, by omega, by omega⟩
  · have := heap_alloc_new (w.alloc (.chan n #[] false 0 0 false)) (.cells #[.chan (some w.heap.size)] 136)
    rwa [hsz] at this
  · rw [Below.heap_alloc _ _ _ (by rw [hsz]; omega)]
    exact heap_alloc_new w _

theorem zero_int (w : World) : (zeroValue 3).run Try.prog w = .ok (.int .i64 0) w := by kernel_rfl

/-- Behind a call of a box: its channel's block alone has turned. -/
theorem only_setChan (w : World) (c cap : Nat) (buf : Array Value) (cl : Bool) (s r : Nat) (tm : Bool) : w.grownBy (w.setChan c cap buf cl s r tm) (some c) :=
  ⟨rfl, rfl, rfl, Nat.le_of_eq (size_setChan w c cap buf cl s r tm).symm, fun k _ hk => by
    have : c ≠ k := fun e => hk (by rw [e])
    simp [World.setChan, Array.getElem?_setIfInBounds_ne this]⟩

theorem IsBox.set_ {w : World} {g c cap cap' : Nat} {l l' : List Int} {buf : Array Value} {s r : Nat} (h : IsBox w g c cap l) (hb : buf = (ints l').toArray) : IsBox (w.setChan c cap' buf false s r false) g c cap' l' :=
  ⟨((only_setChan w c cap' buf false s r false).block g h.lt.1 (fun e => h.ne (Option.some.inj e))).trans h.box, s, r, by rw [heap_setChan _ _ _ _ _ _ _ _ h.lt.2, hb]⟩

theorem IsBox.far {w w' : World} {g c cap k : Nat} {l : List Int} (h : IsBox w g c cap l) (ho : w.grownBy w' (some k)) (hg : g ≠ k) (hc : c ≠ k) : IsBox w' g c cap l :=
  h.keep (ho.block g h.lt.1 (fun e => hg (Option.some.inj e))) (ho.block c h.lt.2 (fun e => hc (Option.some.inj e)))

theorem ints_length (l : List Int) : (ints l).length = l.length := by simp [ints]

set_option maxHeartbeats 400000 in
theorem Put_room (g c cap : Nat) (l : List Int) (x : Int) (w : World) (h : IsBox w g c cap l) (hr : l.length < cap) :
    Calls Try.prog 15 #[.pointer (some ⟨g, 0, none⟩), .int .i64 x] w fun e w' => e = .returned (.bool true) ∧ IsBox w' g c cap (l ++ [x]) ∧ w.grownBy w' (some c) := by
  obtain ⟨s, r, hchan⟩ := h.chan
  have H := Lib.hid h
  have hbox := h.box
  have hcell := cell_of_row w g 0 _ _ _ hbox
  simp only [List.getElem?_toArray, List.getElem?_cons_zero] at hcell
  have HB := Lib.hid hbox
  have HC := Lib.hid hchan
  clear h hbox hchan
  refine calls_of_wpn Try.func15 rfl ?_
  simp only [Try.ntmps15, List.size_toArray, List.length_cons, List.length_nil, Nat.reduceAdd, Nat.reduceSub, Array.replicate_succ, Array.replicate_zero, List.push_toArray, List.append_toArray, List.nil_append, List.cons_append]
  refine wpn_seq_k fun K hK => ?_
  go_wp2_with fail
  refine wpn_seq_k fun K hK => ?_
  go_wp2_with fail
  refine (box_none_box _ g c HB.out).mono ?_; rintro e w1 ⟨rfl, rfl⟩
  go_wp2_with fail
  refine wpn_seq_k fun K hK => ?_
  go_wp2_with fail
  refine wpn_seq ?_
  refine wpn_send_room rfl _ _ rfl (zero_int _) rfl _ rfl HC.out (by rw [List.size_toArray, ints_length]; exact hr) ?_
  go_wp2_with fail
  refine wpn_of_wp ?_
  go_wp2
  go_ret
  exact ⟨rfl, H.out.set_ (by simp [ints]), only_setChan _ _ _ _ _ _ _ _⟩

set_option maxHeartbeats 400000 in
theorem Put_full (g c cap : Nat) (l : List Int) (x : Int) (w : World) (h : IsBox w g c cap l) (hr : cap ≤ l.length) :
    Calls Try.prog 15 #[.pointer (some ⟨g, 0, none⟩), .int .i64 x] w fun e w' => e = .returned (.bool false) ∧ w = w' := by
  obtain ⟨s, r, hchan⟩ := h.chan
  have H := Lib.hid h
  have hbox := h.box
  have hcell := cell_of_row w g 0 _ _ _ hbox
  simp only [List.getElem?_toArray, List.getElem?_cons_zero] at hcell
  have HB := Lib.hid hbox
  have HC := Lib.hid hchan
  clear h hbox hchan
  refine calls_of_wpn Try.func15 rfl ?_
  simp only [Try.ntmps15, List.size_toArray, List.length_cons, List.length_nil, Nat.reduceAdd, Nat.reduceSub, Array.replicate_succ, Array.replicate_zero, List.push_toArray, List.append_toArray, List.nil_append, List.cons_append]
  refine wpn_seq_k fun K hK => ?_
  go_wp2_with fail
  refine wpn_seq_k fun K hK => ?_
  go_wp2_with fail
  refine (box_none_box _ g c HB.out).mono ?_; rintro e w1 ⟨rfl, rfl⟩
  go_wp2_with fail
  refine wpn_seq_k fun K hK => ?_
  go_wp2_with fail
  refine wpn_seq ?_
  refine wpn_send_full rfl _ _ rfl (zero_int _) rfl _ rfl HC.out (by rw [List.size_toArray, ints_length]; exact hr) ?_
  go_wp2_with fail
  refine wpn_of_wp ?_
  go_wp2
  go_ret
  exact ⟨rfl, rfl⟩

set_option maxHeartbeats 400000 in
theorem Take_some (g c cap : Nat) (l : List Int) (x : Int) (w : World) (h : IsBox w g c cap (x :: l)) :
    Calls Try.prog 17 #[.pointer (some ⟨g, 0, none⟩)] w fun e w' => e = .returned (.tuple #[.int .i64 x, .bool true]) ∧ IsBox w' g c cap l ∧ w.grownBy w' (some c) := by
  obtain ⟨s, r, hchan⟩ := h.chan
  have H := Lib.hid h
  have hbox := h.box
  have hcell := cell_of_row w g 0 _ _ _ hbox
  simp only [List.getElem?_toArray, List.getElem?_cons_zero] at hcell
  have HB := Lib.hid hbox
  have HC := Lib.hid hchan
  clear h hbox hchan
  refine calls_of_wpn Try.func17 rfl ?_
  simp only [Try.ntmps17, List.size_toArray, List.length_cons, List.length_nil, Nat.reduceAdd, Nat.reduceSub, Array.replicate_succ, Array.replicate_zero, List.push_toArray, List.append_toArray, List.nil_append, List.cons_append]
  refine wpn_seq_k fun K hK => ?_
  go_wp2_with fail
  refine wpn_seq_k fun K hK => ?_
  go_wp2_with fail
  refine (box_none_box _ g c HB.out).mono ?_; rintro e w1 ⟨rfl, rfl⟩
  go_wp2_with fail
  refine wpn_seq_k fun K hK => ?_
  go_wp2_with fail
  refine wpn_seq ?_
  refine wpn_recv_buf rfl _ rfl (zero_int _) rfl HC.out (by simp [ints]) ?_
  go_wp2_with fail
  refine wpn_of_wp ?_
  go_wp2
  go_ret2
  exact ⟨rfl, H.out.set_ (by simp [ints, List.take_of_length_le]), only_setChan _ _ _ _ _ _ _ _⟩

set_option maxHeartbeats 400000 in
theorem Take_none (g c cap : Nat) (w : World) (h : IsBox w g c cap []) :
    Calls Try.prog 17 #[.pointer (some ⟨g, 0, none⟩)] w fun e w' => e = .returned (.tuple #[.int .i64 0, .bool false]) ∧ w = w' := by
  obtain ⟨s, r, hchan⟩ := h.chan
  have H := Lib.hid h
  have hbox := h.box
  have hcell := cell_of_row w g 0 _ _ _ hbox
  simp only [List.getElem?_toArray, List.getElem?_cons_zero] at hcell
  have HB := Lib.hid hbox
  have HC := Lib.hid hchan
  clear h hbox hchan
  refine calls_of_wpn Try.func17 rfl ?_
  simp only [Try.ntmps17, List.size_toArray, List.length_cons, List.length_nil, Nat.reduceAdd, Nat.reduceSub, Array.replicate_succ, Array.replicate_zero, List.push_toArray, List.append_toArray, List.nil_append, List.cons_append]
  refine wpn_seq_k fun K hK => ?_
  go_wp2_with fail
  refine wpn_seq_k fun K hK => ?_
  go_wp2_with fail
  refine (box_none_box _ g c HB.out).mono ?_; rintro e w1 ⟨rfl, rfl⟩
  go_wp2_with fail
  refine wpn_seq_k fun K hK => ?_
  go_wp2_with fail
  refine wpn_seq ?_
  refine wpn_recv_none rfl _ rfl (zero_int _) rfl HC.out ?_
  go_wp2_with fail
  refine wpn_of_wp ?_
  go_wp2
  go_ret2
  exact ⟨rfl, rfl⟩

set_option maxHeartbeats 400000 in
theorem Len_any (g c cap : Nat) (l : List Int) (w : World) (h : IsBox w g c cap l) :
    Calls Try.prog 21 #[.pointer (some ⟨g, 0, none⟩)] w fun e w' => e = .returned (.int .i64 (l.length : Int)) ∧ w = w' := by
  obtain ⟨s, r, hchan⟩ := h.chan
  have hbox := h.box
  have hcell := cell_of_row w g 0 _ _ _ hbox
  simp only [List.getElem?_toArray, List.getElem?_cons_zero] at hcell
  have hlen := fun ty => run_len_chan (P := Try.prog) 134 ty Try.underlying134 hchan
  rw [List.size_toArray, ints_length] at hlen
  have HB := Lib.hid hbox
  clear h hbox hchan
  go_enter Try.func21, Try.ntmps21
  go_wp2_with fail
  refine (box_none_box _ g c HB.out).mono ?_; rintro e w1 ⟨rfl, rfl⟩
  go_wp2_with fail
  go_ret
  exact ⟨rfl, rfl⟩

set_option maxHeartbeats 400000 in
theorem Room_any (g c cap : Nat) (l : List Int) (w : World) (h : IsBox w g c cap l) (hl : l.length ≤ cap) (hc : cap ≤ 65536) :
    Calls Try.prog 22 #[.pointer (some ⟨g, 0, none⟩)] w fun e w' => e = .returned (.int .i64 ((cap : Int) - (l.length : Int))) ∧ ∃ n, w' = w.drewN n := by
  obtain ⟨s, r, hchan⟩ := h.chan
  have hbox := h.box
  have hcell := cell_of_row w g 0 _ _ _ hbox
  simp only [List.getElem?_toArray, List.getElem?_cons_zero] at hcell
  have hlen := fun (n : Nat) ty => run_len_chan (P := Try.prog) (w := w.drewN n) 134 ty Try.underlying134 hchan
  have hcap := fun (n : Nat) ty => run_cap_chan (P := Try.prog) (w := w.drewN n) 134 ty Try.underlying134 hchan
  rw [List.size_toArray, ints_length] at hlen
  have HB := Lib.hid hbox
  clear h hbox hchan
  go_enter Try.func22, Try.ntmps22
  go_wp2_with fail
  refine (box_none_box _ g c HB.out).mono ?_; rintro e w1 ⟨rfl, rfl⟩
  go_wp2_with fail
  go_quiet (fail)
  go_wp2
  go_ret
  exact ⟨rfl, nq, rfl⟩

/-- What a take tells. -/
def headOf (l : List Int) : Int := l.headD 0

theorem Take_any (g c cap : Nat) (l : List Int) (w : World) (h : IsBox w g c cap l) :
    Calls Try.prog 17 #[.pointer (some ⟨g, 0, none⟩)] w fun e w' => e = .returned (.tuple #[.int .i64 (headOf l), .bool (!l.isEmpty)]) ∧ IsBox w' g c cap l.tail ∧ w.grownBy w' (some c) := by
  cases l with
  | nil => exact (Take_none g c cap w h).mono fun e w' ⟨he, hw⟩ => ⟨he, hw ▸ h, hw ▸ World.grownBy.refl w _⟩
  | cons x l => exact Take_some g c cap l x w h

theorem Put_any (g c cap : Nat) (l : List Int) (x : Int) (w : World) (h : IsBox w g c cap l) :
    Calls Try.prog 15 #[.pointer (some ⟨g, 0, none⟩), .int .i64 x] w fun e w' => e = .returned (.bool (decide (l.length < cap))) ∧ IsBox w' g c cap (if l.length < cap then l ++ [x] else l) ∧ w.grownBy w' (some c) := by
  by_cases hr : l.length < cap
  · exact (Put_room g c cap l x w h hr).mono fun e w' ⟨he, hb, ho⟩ => ⟨by rw [he]; simp [hr], by rw [if_pos hr]; exact hb, ho⟩
  · exact (Put_full g c cap l x w h (by omega)).mono fun e w' ⟨he, hw⟩ => ⟨by rw [he]; simp [hr], by rw [if_neg hr, ← hw]; exact h, hw ▸ World.grownBy.refl w _⟩

set_option maxHeartbeats 400000 in
theorem Either_any (g c cap : Nat) (l : List Int) (g2 c2 cap2 : Nat) (l2 : List Int) (w : World) (h : IsBox w g c cap l) (h2 : IsBox w g2 c2 cap2 l2) (d1 : g2 ≠ c) (d2 : c2 ≠ c) (d3 : g ≠ c2) :
    Calls Try.prog 20 #[.pointer (some ⟨g, 0, none⟩), .pointer (some ⟨g2, 0, none⟩)] w fun e w' =>
      e = .returned (.tuple #[.int .i64 (headOf (l ++ l2)), .bool (!(l ++ l2).isEmpty)]) ∧ IsBox w' g c cap l.tail ∧ IsBox w' g2 c2 cap2 (if l.isEmpty then l2.tail else l2) ∧ Only (fun k => k = c ∨ k = c2) w w' := by
  have H := Lib.hid h
  have H2 := Lib.hid h2
  clear h h2
  cases l with
  | nil =>
    go_enter Try.func20, Try.ntmps20
    go_wp2_with fail
    refine (Take_none g c cap _ H.out).mono ?_; rintro e w1 ⟨rfl, rfl⟩
    go_wp2_with fail
    refine (Take_any g2 c2 cap2 l2 _ H2.out).mono ?_; rintro e w1 ⟨rfl, hb1, ho1⟩
    go_wp2_with fail
    go_ret2
    exact ⟨rfl, H.out.far ho1 d3 (Ne.symm d2), hb1, Only.of_grown ho1 fun k hk _ => .inr (Option.some.inj hk).symm⟩
  | cons x l =>
    go_enter Try.func20, Try.ntmps20
    go_wp2_with fail
    refine (Take_some g c cap l x _ H.out).mono ?_; rintro e w1 ⟨rfl, hb1, ho1⟩
    go_wp2_with fail
    go_ret2
    exact ⟨rfl, hb1, H2.out.far ho1 d1 d2, Only.of_grown ho1 fun k hk _ => .inl (Option.some.inj hk).symm⟩

/-- A slice of ints that reads as a list, nil let in. -/
structure Ints (w : World) (A : Option Addr) (xs : List Int) : Prop where
  nil_ : A = none → xs = []
  row : ∀ ad, A = some ad → Row w ad (ints xs)

theorem Ints.at_ {w : World} {A : Option Addr} {xs : List Int} (h : Ints w A xs) {k : Nat} {x : Int} (hx : xs[k]? = some x) : ∃ ad, A = some ad ∧ w.cell? (ad.add k) = some (.int .i64 x) := by
  cases A with
  | none => rw [h.nil_ rfl] at hx; cases hx
  | some ad => exact ⟨ad, rfl, h.row ad rfl k _ (by simp [ints, hx])⟩

/-- A row of ints is not where a channel is. -/
theorem Ints.far {w w' : World} {A : Option Addr} {xs : List Int} (h : Ints w A xs) {S : Nat → Prop} (ho : Only S w w') (hS : ∀ k, S k → ∀ p : Addr, p.block = k → w.cell? p = none) : Ints w' A xs := by
  refine ⟨h.nil_, fun ad had j v hv => ?_⟩
  have h1 := h.row ad had j v hv
  have hlt := block_lt_of_cell h1
  by_cases hs : S (ad.add j).block
  · rw [hS _ hs (ad.add j) rfl] at h1; cases h1
  · rw [ho.cell hlt hs]; exact h1

theorem chan_no_cell {w : World} {c cap : Nat} {buf : Array Value} {cl : Bool} {s r : Nat} {tm : Bool} (hc : w.heap[c]? = some (.chan cap buf cl s r tm)) (p : Addr) (hp : p.block = c) : w.cell? p = none := by
  simp [World.cell?, hp, hc]

/-- How many find room. -/
def fits (l : List Int) (cap : Nat) (xs : List Int) : Nat := min (cap - l.length) xs.length

set_option maxHeartbeats 1000000 in
theorem Fill_any (g c cap : Nat) (l : List Int) (A : Option Addr) (cc : Nat) (xs : List Int) (len : Nat) (w : World) (h : IsBox w g c cap l) (hl : l.length ≤ cap) (hx : Ints w A xs) (hlen : len = xs.length) (hb : len ≤ 1000) :
    Calls Try.prog 18 #[.pointer (some ⟨g, 0, none⟩), .slice A len cc] w fun e w' =>
      e = .returned (.int .i64 ((fits l cap xs : Nat) : Int)) ∧ IsBox w' g c cap (l ++ xs.take (cap - l.length)) ∧ w.grownBy w' (some c) := by
  have H := Lib.hid h
  have HX := Lib.hid hx
  have HL := Lib.hid hlen
  obtain ⟨s0, r0, hchan0⟩ := h.chan
  have HC := Lib.hid hchan0
  clear h hx hlen hchan0
  go_enter Try.func18, Try.ntmps18
  go_wp2
  go_loopw [9] (fun i wr => ∃ k : Nat, k ≤ len ∧ i = .int .i64 k ∧ k ≤ cap - l.length ∧ Hid (IsBox wr g c cap (l ++ xs.take k)) ∧ w.grownBy wr (some c)) (fun i _ => len - (intOf i).toNat)
  case atStart => exact ⟨0, by omega, rfl, by omega, Lib.hid (by simpa using H.out), World.grownBy.refl w _⟩
  case round =>
    obtain ⟨k, hk, rfl, hkc, HB, ho⟩ := hrel
    by_cases hlt : k < len
    · obtain ⟨x, hxk⟩ : ∃ x, xs[k]? = some x := ⟨xs[k]'(by rw [← HL.out]; exact hlt), List.getElem?_eq_getElem _⟩
      obtain ⟨ad, rfl, hcell⟩ := (HX.out.far (Only.of_grown (S := fun k => k = c) ho fun k hk _ => (Option.some.inj hk).symm) fun k hk p hp => chan_no_cell HC.out p (hp.trans hk)).at_ hxk
      have hlk : (l ++ xs.take k).length = l.length + k := by
        rw [List.length_append, List.length_take]
        have := HL.out
        omega
      have HXK := Lib.hid hxk
      have HLK := Lib.hid hlk
      clear hxk hlk
      by_cases hroom : k < cap - l.length
      · go_wp2_with fail
        refine (Put_room g c cap _ x _ HB.out (by rw [HLK.out]; omega)).mono ?_; rintro e w1 ⟨rfl, hb1, ho1⟩
        have HB1 := Lib.hid hb1
        clear hb1
        go_wp2_with fail
        go_roundw
        case rel => exact ⟨k + 1, by omega, by go_num, by omega, Lib.hid (by
          have := HB1.out
          rwa [List.append_assoc, show xs.take k ++ [x] = xs.take (k + 1) by rw [List.take_add_one, HXK.out]; rfl] at this), ho.trans ho1⟩
        case measure => simp [intOf]; omega
      · go_wp2_with fail
        refine (Put_full g c cap _ x _ HB.out (by rw [HLK.out]; omega)).mono ?_; rintro e w1 ⟨rfl, rfl⟩
        go_wp2_with fail
        go_ret
        have hkc' : k = cap - l.length := by omega
        refine ⟨ret_int ?_, by rw [← hkc']; exact HB.out, ho⟩
        have := HL.out
        unfold fits
        omega
    · go_wp2
      go_ret
      have := HL.out
      refine ⟨ret_int (by unfold fits; omega), ?_, ho⟩
      have hb2 := HB.out
      rw [List.take_of_length_le (by omega)] at hb2
      rw [List.take_of_length_le (by omega)]
      exact hb2
end Go.Proofs.Ythcflakdimedpaa
