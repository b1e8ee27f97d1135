/-
  MetricSorts: whatever the input, signpostlaw04.MetricSorts returns true and leaves its arguments as they were. Conditions: none.
-/
import Derived.Test.YtjdmbegmbffhfaaAss
import Derived.Test.YtjdmbegmbffhfaaSrtQ
import Derived.Test.YtjdmbegmbffhfaaIdX
import Derived.Test.YtjdmbegmbffhfaaCallA
import Derived.Test.YtjdmbegmbffhfaaLstP
import Derived.Test.YtjdmbegmbffhfaaMetE
import Derived.Test.YtjdmbegmbffhfaaLstA
import Derived.Test.YtjdmbegmbffhfaaLstF
import Derived.Test.YtjdmbegmbffhfaaLstE
import Derived.Test.YtjdmbegmbffhfaaRows
import Derived.Test.YtjdmbegmbffhfaaSlice
import Derived.Deep.Slices
import Derived.ProofKit
import Derived.OpenShut
import Derived.Test.YtjdmbegmbffhfaaOctet
import Derived.Test.YtjdmbegmbffhfaaSrtC
import Derived.WalkKit
import Derived.SizedLaws
import Derived.Below
/-
  A region that draws its order, with guards that hold: each operation by an assertion of its own. Conditions: as each theorem says.
-/
namespace Go.Proofs.Ytjdmbegmbffhfaa

/-- What is asked of the region's shape: a guard is used; each waits for earlier ones alone; each slot is written once, and lies in the frame. -/
def shapeG (uses : Nat → List Nat) (n : Nat) : List Nat → Nat → List Oper → Bool
  | _, _, [] => true
  | used, i, o :: rest => (match o.guard with | none => true | some g => (uses i).contains g.1) && (depsOf o).all (fun k => decide (k < i)) &&
      (match o.dst with | none => true | some t => decide (t < n) && !used.contains t) &&
      shapeG uses n (match o.dst with | none => used | some t => t :: used) (i + 1) rest

theorem shapeG_at {uses : Nat → List Nat} {n : Nat} : ∀ (m : List Oper) (used : List Nat) (i : Nat), shapeG uses n used i m = true → ∀ k o, m[k]? = some o →
    (∀ g b, o.guard = some (g, b) → g ∈ uses (i + k)) ∧ (∀ j ∈ depsOf o, j < i + k) ∧ (∀ t, o.dst = some t → t < n ∧ t ∉ used ∧ ∀ k' o', k' < k → m[k']? = some o' → o'.dst ≠ some t)
  | [], _, _, _, k, o, h => by simp at h
  | o :: m, used, i, h, k, o', hk => by
    simp only [shapeG, Bool.and_eq_true] at h
    obtain ⟨⟨⟨h1, h2⟩, h3⟩, h4⟩ := h
    cases k with
    | zero =>
      simp only [List.getElem?_cons_zero, Option.some.injEq] at hk
      subst hk
      refine ⟨fun g b hg => by rw [hg] at h1; simpa using h1, fun j hj => by simpa using (List.all_eq_true.1 h2) j hj, fun t ht => ?_⟩
      rw [ht] at h3
      simp only [Bool.and_eq_true, decide_eq_true_eq, Bool.not_eq_true', List.contains_eq_mem, decide_eq_false_iff_not] at h3
      exact ⟨h3.1, h3.2, fun k' o' hk' => by omega⟩
    | succ k =>
      rw [List.getElem?_cons_succ] at hk
      obtain ⟨g1, g2, g3⟩ := shapeG_at m _ (i + 1) h4 k o' hk
      refine ⟨fun g b hg => by have := g1 g b hg; rwa [show i + 1 + k = i + (k + 1) by omega] at this, fun j hj => by have := g2 j hj; omega, fun t ht => ?_⟩
      obtain ⟨e1, e2, e3⟩ := g3 t ht
      refine ⟨e1, ?_, ?_⟩
      · intro hu
        apply e2
        cases o.dst with
        | none => exact hu
        | some s => exact List.mem_cons_of_mem _ hu
      · intro k' o'' hk' ho'' hd
        cases k' with
        | zero =>
          simp only [List.getElem?_cons_zero, Option.some.injEq] at ho''
          subst ho''
          rw [hd] at e2
          exact e2 (List.mem_cons_self ..)
        | succ k' =>
          rw [List.getElem?_cons_succ] at ho''
          exact e3 k' o'' (by omega) ho'' hd

set_option maxHeartbeats 2000000 in
/-- **A region that draws its order, each operation by its own assertion; guards that hold.** -/
theorem wp_region_guard {P : Program} {id : Nat} {Q : Exit → Act → World → Prop} {a0 : Act} {w0 : World} {l : List Oper} (uses anc : Nat → List Nat) (fin : Nat → Bool) (C : World → Prop) (Later : Nat → World → World → Prop) (φ : Nat → Value → World → Prop)
    (hm : P.follows .mixedOrders = true) (hB : shapeG uses a0.tmps.size [] 0 l = true) (hA : ancB uses anc 0 l = true) (hC : C w0.drew)
    (hCL : ∀ j w w', C w → Later j w w' → C w') (hφ : ∀ k i, k < l.length → i < l.length → k ≠ i → needB l.length uses anc fin k i = true → ∀ v w w', C w → φ k v w → Later i w w' → φ k v w')
    (hG1 : (l.all fun o => match o.guard with | none => true | some g => ((l[g.1]?).bind (·.dst)).isSome) = true)
    (hG2 : ∀ o ∈ l, ∀ g b, o.guard = some (g, b) → ∀ v w, φ g v w → v = .bool b)
    (hop : OpsOK P l uses C Later φ Q a0 0 l)
    (hend : ∀ (vs : Nat → Value) (w' : World), C w' → (∀ i, i < l.length → fin i = true → φ i (vs i) w') → Q .normal (putList l 0 vs a0) w') :
    (Code.region id l.toArray true).wp P Q a0 w0 := by
  have hsh := shapeG_at l [] 0 hB
  have han : ∀ k o, l[k]? = some o → (∀ j ∈ uses k, j ∈ depsOf o) ∧ (∀ j ∈ anc k, j ∈ depsOf o ∨ ∃ b ∈ depsOf o, j ∈ anc b) := fun k o h => by have := ancB_at l 0 hA k o h; rwa [Nat.zero_add] at this
  have hop' : ∀ i o, l[i]? = some o → OpOK P l uses C Later φ Q a0 i o := fun i o hi => by have := OpsOK.at l 0 i o hop hi; rwa [Nat.zero_add] at this
  -- what holds whenever some are done
  have main : ∀ (fuel : Nat) (listed : Array Bool) (a : Act) (w : World), C w → listed.size = l.length →
      (listed.toList.countP (! ·)) ≤ fuel →
      a.defers = a0.defers → a.tmps.size = a0.tmps.size →
      (∀ t, (∀ (k : Nat) ok, listed.getD k false = true → l[k]? = some ok → ok.dst ≠ some t) → a.tmps[t]? = a0.tmps[t]?) →
      (∀ (k : Nat) ok, listed.getD k false = true → l[k]? = some ok → (∀ j ∈ depsOf ok, listed.getD j false = true) ∧ ∃ v, ((fin k = true ∨ ∃ j, j < l.length ∧ listed.getD j false = false ∧ k ∈ uses j) → φ k v w) ∧ ∀ t, ok.dst = some t → a.tmps[t]? = some v) →
      wpAny P .any l.toArray Q fuel listed a w := by
    intro fuel
    have fin : ∀ (listed : Array Bool) (a : Act) (w : World), C w → listed.size = l.length →
        a.defers = a0.defers → a.tmps.size = a0.tmps.size →
        (∀ t, (∀ (k : Nat) ok, listed.getD k false = true → l[k]? = some ok → ok.dst ≠ some t) → a.tmps[t]? = a0.tmps[t]?) →
        (∀ (k : Nat) ok, listed.getD k false = true → l[k]? = some ok → (∀ j ∈ depsOf ok, listed.getD j false = true) ∧ ∃ v, ((fin k = true ∨ ∃ j, j < l.length ∧ listed.getD j false = false ∧ k ∈ uses j) → φ k v w) ∧ ∀ t, ok.dst = some t → a.tmps[t]? = some v) →
        Region.ready .any l.toArray listed = [] → Q .normal a w := by
      intro listed a w hc hls hdf hts hag hdn hr
      have all : ∀ n k, k ≤ n → k < l.length → listed.getD k false = true := by
        intro n
        induction n with
        | zero =>
          intro k hk hkl
          obtain rfl : k = 0 := by omega
          cases hb : listed.getD 0 false with
          | true => rfl
          | false =>
            have : 0 ∈ Region.ready .any l.toArray listed := by
              refine mem_ready.2 ⟨?_, l[0], by simp [hkl], fun e he hb' => ?_⟩
              · rw [← hb]; simp [Array.getD, show 0 < listed.size by omega]
              · have := (hsh 0 l[0] (by simp [hkl])).2.1 e.on (List.mem_map.2 ⟨e, List.mem_filter.2 ⟨by simpa using he, hb'⟩, rfl⟩)
                omega
            rw [hr] at this; cases this
        | succ n ih =>
          intro k hk hkl
          cases hb : listed.getD k false with
          | true => rfl
          | false =>
            have : k ∈ Region.ready .any l.toArray listed := by
              refine mem_ready.2 ⟨?_, l[k], by simp [hkl], fun e he hb' => ?_⟩
              · rw [← hb]; simp [Array.getD, show k < listed.size by omega]
              · have hd := (hsh k l[k] (by simp [hkl])).2.1 e.on (List.mem_map.2 ⟨e, List.mem_filter.2 ⟨by simpa using he, hb'⟩, rfl⟩)
                exact ih e.on (by omega) (by omega)
            rw [hr] at this; cases this
      have hvs : ∀ k, ∃ v, k < l.length → (fin k = true → φ k v w) ∧ ∀ ok, l[k]? = some ok → ∀ t, ok.dst = some t → a.tmps[t]? = some v := by
        intro k
        by_cases hk : k < l.length
        · obtain ⟨_, v, h1, h2⟩ := hdn k l[k] (all k k (Nat.le_refl _) hk) (by simp [hk])
          refine ⟨v, fun _ => ⟨fun hf => h1 (Or.inl hf), fun ok hok t ht => ?_⟩⟩
          rw [List.getElem?_eq_getElem hk] at hok
          exact h2 t (by rw [Option.some.inj hok]; exact ht)
        · exact ⟨undef, fun h => absurd h hk⟩
      have hch := Classical.skolem.1 hvs
      obtain ⟨vs, hvs⟩ := hch
      have hq := hend vs w hc (fun i hi hf => (hvs i hi).1 hf)
      have e : putList l 0 vs a0 = a := by
        obtain ⟨p1, p2, p3⟩ := putList_tmps l 0 vs a0
        have et : (putList l 0 vs a0).tmps = a.tmps := by
          apply Array.ext_getElem?
          intro t
          by_cases hex : ∃ (j : Nat) (o : Oper), l[j]? = some o ∧ o.dst = some t
          · obtain ⟨j, o, hj, hd⟩ := hex
            have hjl := (List.getElem?_eq_some_iff.1 hj).1
            have hlt := ((hsh j o hj).2.2 t hd).1
            rw [putList_at l 0 vs a0 j o t hj hd hlt (fun j' o' hjj ho' hd' => ((hsh j' o' ho').2.2 t hd').2.2 j o hjj hj hd), Nat.zero_add, (hvs j hjl).2 o hj t hd]
          · have hno : ∀ (j : Nat) (o : Oper), l[j]? = some o → o.dst ≠ some t := fun j o hj hd => hex ⟨j, o, hj, hd⟩
            rw [p3 t hno, hag t (fun k ok _ hk => hno k ok hk)]
        cases a
        cases hpl : putList l 0 vs a0
        rw [hpl] at et p1
        simp only at et p1 hdf
        rw [et, p1, hdf]
      rwa [e] at hq
    induction fuel with
    | zero =>
      intro listed a w hc hls hcnt hdf hts hag hdn
      have hr : Region.ready .any l.toArray listed = [] := by
        rw [List.eq_nil_iff_forall_not_mem]
        intro j hj
        obtain ⟨h1, o, ho, _⟩ := mem_ready.1 hj
        have hjl : j < listed.size := by
          rcases Nat.lt_or_ge j listed.size with h | h
          · exact h
          · simp [Array.getD, show ¬ j < listed.size by omega] at h1
        have h0 : listed.toList.countP (! ·) = 0 := by omega
        rw [List.countP_eq_zero] at h0
        have := h0 listed[j] (by simp)
        simp [Array.getD, hjl] at h1
        simp [h1] at this
      exact ⟨hr, fin listed a w hc hls hdf hts hag hdn hr⟩
    | succ fuel ih =>
      intro listed a w hc hls hcnt hdf hts hag hdn
      refine ⟨fun hr => fin listed a w hc hls hdf hts hag hdn hr, fun i hi => ?_⟩
      obtain ⟨hun, o, ho, hdeps⟩ := mem_ready.1 hi
      have hol : l[i]? = some o := by simpa using ho
      have hil := (List.getElem?_eq_some_iff.1 hol).1
      have hun' : listed.getD i false = false := by simp [Array.getD, show i < listed.size by omega] at hun ⊢; exact hun
      obtain ⟨s1, s2, s3⟩ := hsh i o hol
      have hdd : ∀ j ∈ depsOf o, listed.getD j false = true := by
        intro j hj
        obtain ⟨e, he, rfl⟩ := List.mem_map.1 hj
        obtain ⟨he1, he2⟩ := List.mem_filter.1 he
        exact hdeps e (by simpa using he1) he2
      have hancd : ∀ m k ok, k ≤ m → l[k]? = some ok → (∀ j ∈ depsOf ok, listed.getD j false = true) → ∀ j ∈ anc k, listed.getD j false = true := by
        intro m
        induction m with
        | zero =>
          intro k ok hk hok hd j hj
          rcases (han k ok hok).2 j hj with h | ⟨b, hb, _⟩
          · exact hd j h
          · have := (hsh k ok hok).2.1 b hb; omega
        | succ m ihm =>
          intro k ok hk hok hd j hj
          rcases (han k ok hok).2 j hj with h | ⟨b, hb, hjb⟩
          · exact hd j h
          · have hbk := (hsh k ok hok).2.1 b hb
            have hkl := (List.getElem?_eq_some_iff.1 hok).1
            have hbl : l[b]? = some l[b] := List.getElem?_eq_getElem (by omega)
            exact ihm b l[b] (by omega) hbl (hdn b l[b] (hd b hb) hbl).1 j hjb
      have hancd := fun k ok => hancd k k ok (Nat.le_refl _)
      have hwant : Region.wanted o (yielded l.toArray a.tmps) = true := by
        cases hg : o.guard with
        | none => simp [Region.wanted, hg]
        | some gb =>
          obtain ⟨g, b⟩ := gb
          have hu := s1 g b hg
          rw [Nat.zero_add] at hu
          have hgd := (han i o hol).1 g hu
          have hgl := hdd g hgd
          have h1 := List.all_eq_true.1 hG1 o (List.mem_of_getElem? hol)
          rw [hg] at h1
          simp only at h1
          cases hog : l[g]? with
          | none => rw [hog] at h1; simp at h1
          | some og =>
            rw [hog] at h1
            cases hod : og.dst with
            | none => simp [hod] at h1
            | some t =>
              obtain ⟨_, v, h2, h3⟩ := hdn g og hgl hog
              have hv := hG2 o (List.mem_of_getElem? hol) g b hg v w (h2 (Or.inr ⟨i, hil, hun', hu⟩))
              have h4 := h3 t hod
              rw [hv] at h4
              simp [Region.wanted, hg, yielded, hog, hod, h4]
      unfold wpOp
      rw [ho]
      simp only [hwant, if_true]
      refine Or.inl (hop' i o hol a w hc ?_ ?_ _ ?_)
      · intro t ht
        have := hag t (fun k ok hk hok hd => by
          have h1 := ht k ok hok hd
          have h2 := (hdn k ok hk hok).1 i h1
          rw [hun'] at h2; cases h2)
        show a.tmps.getD t undef = a0.tmps.getD t undef
        rw [Array.getD_eq_getD_getElem?, Array.getD_eq_getD_getElem?, this]
      · intro k hk ok hok
        obtain ⟨_, v, h1, h2⟩ := hdn k ok (hdd k ((han i o hol).1 k hk)) hok
        refine ⟨v, h1 (Or.inr ⟨i, hil, hun', hk⟩), fun t ht => ?_⟩
        show a.tmps.getD t undef = v
        rw [Array.getD_eq_getD_getElem?, h2 t ht]
        rfl
      · intro v w' hv hL
        have hget : ∀ k, (listed.setIfInBounds i true).getD k false = if k = i then true else listed.getD k false := by
          intro k
          rw [Array.getD_eq_getD_getElem?, Array.getD_eq_getD_getElem?, Array.getElem?_setIfInBounds]
          by_cases hk : i = k
          · rw [if_pos hk, if_pos hk.symm, if_pos (by omega)]; rfl
          · rw [if_neg hk, if_neg (fun e => hk e.symm)]
        refine ih (listed.setIfInBounds i true) (a.put o.dst v) w' (hCL _ _ _ hc hL) (by simp [hls]) ?_ ?_ ?_ ?_ ?_
        · -- one less is left
          have hi' : i < listed.toList.length := by simp; omega
          have hfi : listed.toList[i] = false := by simp [Array.getD, show i < listed.size by omega] at hun'; simpa using hun'
          have e1 : listed.toList = listed.toList.take i ++ false :: listed.toList.drop (i + 1) := by
            rw [← hfi, List.getElem_cons_drop, List.take_append_drop]
          have e2 : (listed.setIfInBounds i true).toList = listed.toList.take i ++ true :: listed.toList.drop (i + 1) := by
            rw [Array.toList_setIfInBounds, List.set_eq_take_append_cons_drop, if_pos hi']
          rw [e2]
          rw [e1] at hcnt
          simp only [List.countP_append, List.countP_cons] at hcnt ⊢
          simp at hcnt ⊢
          omega
        · unfold Act.put; cases o.dst <;> exact hdf
        · unfold Act.put; cases o.dst <;> simp [hts]
        · intro t ht
          have h1 : o.dst ≠ some t := ht i o (by rw [hget]; simp) hol
          have h2 := hag t (fun k ok hk hok => ht k ok (by rw [hget]; split <;> simp_all) hok)
          rw [← h2]
          unfold Act.put
          cases hd : o.dst with
          | none => rfl
          | some s =>
            show (a.tmps.setIfInBounds s v)[t]? = _
            rw [Array.getElem?_setIfInBounds, if_neg (fun e => h1 (by rw [hd, e]))]
        · intro k ok hk hok
          rw [hget] at hk
          by_cases hki : k = i
          · subst hki
            rw [hol] at hok
            obtain rfl := Option.some.inj hok
            refine ⟨fun j hj => by rw [hget]; split <;> simp [hdd j hj], v, fun _ => hv, fun t ht => ?_⟩
            rw [ht]
            show (a.tmps.setIfInBounds t v)[t]? = _
            rw [Array.getElem?_setIfInBounds, if_pos rfl, if_pos (by rw [hts]; exact (s3 t ht).1)]
          · rw [if_neg hki] at hk
            obtain ⟨h1, v', h2, h3⟩ := hdn k ok hk hok
            refine ⟨fun j hj => by rw [hget]; split <;> simp [h1 j hj], v', fun hn => ?_, fun t ht => ?_⟩
            · have hkl := (List.getElem?_eq_some_iff.1 hok).1
              have hik : i ∉ anc k := fun hd => by have := hancd k ok hok h1 i hd; rw [hun'] at this; cases this
              rcases hn with hn | ⟨j, hj1, hj2, hj3⟩
              · exact hφ k i hkl hil hki (by simp [needB, hn, hik]) _ _ _ hc (h2 (Or.inl hn)) hL
              · rw [hget] at hj2
                have hji : j ≠ i := fun e => by rw [if_pos e] at hj2; cases hj2
                rw [if_neg hji] at hj2
                have hna : j ∉ anc i := fun hd => by rw [hancd i o hol hdd j hd] at hj2; cases hj2
                exact hφ k i hkl hil hki (by simp only [needB, Bool.or_eq_true, List.any_eq_true, List.mem_range, Bool.and_eq_true]; exact ⟨by simpa using hik, Or.inr ⟨j, hj1, ⟨by simpa using hji, by simpa using hj3⟩, by simpa using hna⟩⟩) _ _ _ hc (h2 (Or.inr ⟨j, hj1, hj2, hj3⟩)) hL
            have hne : o.dst ≠ some t := by
              intro hd
              rcases Nat.lt_trichotomy k i with h | h | h
              · exact (s3 t hd).2.2 k ok h hok ht
              · exact hki h
              · exact ((hsh k ok hok).2.2 t ht).2.2 i o h hol hd
            rw [← h3 t ht]
            unfold Act.put
            cases hd : o.dst with
            | none => rfl
            | some s =>
              show (a.tmps.setIfInBounds s v)[t]? = _
              rw [Array.getElem?_setIfInBounds, if_neg (fun e => hne (by rw [hd, e]))]
  refine wp_region_any hm (main l.toArray.size _ a0 _ hC (by simp) ?_ rfl rfl (fun _ _ => rfl) ?_)
  · refine Nat.le_trans (List.countP_le_length) (by simp)
  · intro k ok hk
    simp [Array.getD] at hk
end Go.Proofs.Ytjdmbegmbffhfaa

/-
  Two regions of the reference's Sort by distance: an id's distance appended, whatever order is drawn. Conditions: as each theorem says.
-/
namespace Go.Proofs.Ytjdmbegmbffhfaa
open Go.RowKit Go.Sort Go.Lib

/-- Appended; what stood there stands. -/
theorem run_append_keep {sl T : TypeId} (h : IdTy sl T) (w : World) (base : Nat) (v : Value) (d e : Array Id20) (hown : OwnIds T w base v d) (q : Option Addr) (c : Nat) (hrow : IdRow w q e) (hn : d.size + e.size ≤ 500000) (hb : base ≤ w.heap.size) (ty : TypeId) :
    ∃ v' w', (Builtin.append_ #[sl, sl] ty #[v, .slice q e.size c]).run Try.prog w = .ok v' w' ∧ OwnIds T w' base v' (d ++ e) ∧ Below base w w' ∧
      OwnIds T w' base v d := by
  obtain ⟨i, hi, hz, hs, hby⟩ := info_parts h.i
  have hml : d.size + e.size ≤ maxLen := by simp [maxLen]; omega
  have hbd : (d.size + e.size) * 20 ≤ 140737488355328 := by omega
  have hzs : (Value.agg (bytesV (List.replicate 20 0)).toArray).cells.size = 20 := by simp [Value.cells, bytesV_length]
  by_cases he : e.size = 0
  · have e0 : e = #[] := by simpa using he
    subst e0
    exact ⟨v, w, run_append_zero h w base v d hown q c ty, by simpa using hown, Below.refl _ _, hown⟩
  · cases q with
    | none => exact absurd (by rw [hrow.none_ rfl]; rfl) he
    | some ad =>
      have hnews := hrow.row ad rfl
      rcases hown.2 with ⟨rfl, h2⟩ | ⟨g, cap, cur, rfl, hg1, hg2, hg3, hg4, hg5, hg6⟩
      · obtain ⟨v', w', r1, r2, r3, _, _⟩ := run_append_own_at (P := Try.prog) w base sl ty T i _ 20 20 h.u hi hz hs hby hzs (by omega) _ d.size _ hown ad e.size c (idsV e).toList (idsV_len e) hnews (idsV_one e) hml hbd hb
        have hbl : Below w.heap.size w w' := (Below.refl _ _).grown r3 (Nat.le_refl _) (fun k hk => by cases hk)
        refine ⟨v', w', r1, ?_, hbl.mono hb, hown.below hbl⟩
        unfold OwnIds
        rw [idsV_append, Array.size_append]
        exact r2
      · by_cases hfit : d.size + e.size ≤ cap
        · obtain ⟨w', r1, r2, r3⟩ := run_append_fits (P := Try.prog) w base sl ty T i 20 h.u hi hs g d.size cap _ hown ad e.size c (idsV e).toList (idsV_len e) hnews (idsV_one e) hfit
          refine ⟨_, w', r1, ?_, (Below.refl _ _).grown r3 hb (fun k hk => by obtain rfl := Option.some.inj hk; exact hg1), ?_⟩
          case refine_2 =>
            refine ⟨hown.1, ?_⟩
            rcases r2.2 with ⟨k1, _⟩ | ⟨g', cap', cur', k1, k2, k3, k4, k5, k6, k7⟩
            · cases k1
            · injection k1 with e1 e2 e3
              injection e1 with e1
              injection e1 with e1
              subst e1
              subst e3
              refine Or.inr ⟨g, cap, cur', rfl, k2, k3, hg3, k5, k6, ?_⟩
              have h1 : (idsV d).toList = ((idsV d).toList ++ (idsV e).toList).take (d.size * 20) := by rw [List.take_left' (idsV_len d)]
              rw [h1, ← k7, List.take_take, Nat.min_eq_left (by omega)]
          unfold OwnIds
          rw [idsV_append, Array.size_append]
          exact r2
        · have holds : ∀ j u, (idsV d).toList[j]? = some u → w.cell? ((⟨g, 0, none⟩ : Addr).add j) = some u := by
            intro j u hj
            refine Row.of_block hg2 j u ?_
            rw [← hg6, List.getElem?_take] at hj
            split at hj
            · exact hj
            · cases hj
          obtain ⟨v', w', r1, r2, r3⟩ := run_append_arg_grows (P := Try.prog) w sl ty T i _ 20 20 h.u hi hz hs hby hzs (by omega) ⟨g, 0, none⟩ d.size cap (idsV d).toList (idsV_len d) holds ad e.size c (idsV e).toList (idsV_len e) hnews (by omega) hml hbd
          have hbl : Below w.heap.size w w' := (Below.refl _ _).grown r3 (Nat.le_refl _) (fun k hk => by cases hk)
          refine ⟨v', w', r1, ?_, hbl.mono hb, hown.below hbl⟩
          have r2' : OwnIds T w' w.heap.size v' (d ++ e) := by
            unfold OwnIds
            rw [idsV_append, Array.size_append]
            exact r2
          exact r2'.mono hb

/-- .. as an operation. -/
theorem wp_append_keep {sl T : TypeId} (h : IdTy sl T) {w : World} {o : Oper} {a : Act} {K : Act → World → Prop} {Q : Exit → Act → World → Prop} (s x : Operand) (ho : o.op = .call { callee := .builtin .append, args := #[s, x], argTypes := #[sl, sl] })
    (base : Nat) (v : Value) (d e : Array Id20) (hs : a.eval s = v) (hown : OwnIds T w base v d) (q : Option Addr) (c : Nat) (hx : a.eval x = .slice q e.size c) (hrow : IdRow w q e) (hn : d.size + e.size ≤ 500000) (hb : base ≤ w.heap.size)
    (hK : ∀ v' w', OwnIds T w' base v' (d ++ e) → Below base w w' → OwnIds T w' base v d → K (a.put o.dst v') w') : o.wp Try.prog a w K Q := by
  obtain ⟨v', w', r1, r2, r3, r4⟩ := run_append_keep h w base v d e hown q c hrow hn hb o.type
  unfold Oper.wp
  simp [execOp, ho, resolve, invoke, builtin, hs, hx, r1, Result.andThen]
  exact hK _ _ r2 r3 r4

/-- An id's distance, as an id. -/
def xorI (t : List UInt8) (ht : t.length = 20) (x : Id20) : Id20 := ⟨xorB t x.1, by have := x.2; rw [xorB_length t x.1 (by omega), ht]⟩
def usesX : Nat → List Nat
  | 4 => [2, 3] | 5 => [4] | 6 => [1, 5] | 7 => [6] | 8 => [0, 7] | 9 => [8] | _ => []
def ancX : Nat → List Nat
  | 4 => [2, 3] | 5 => [4, 2, 3] | 6 => [1, 5, 4, 2, 3] | 7 => [6, 1, 5, 4, 2, 3] | 8 => [0, 7, 6, 1, 5, 4, 2, 3] | 9 => [0, 1, 2, 3, 4, 5, 6, 7, 8] | _ => []
def finX : Nat → Bool := fun i => i == 9
theorem needXb : ((List.range 10).all fun k => (List.range 10).all fun i => !(k != i && needB 10 usesX ancX finX k i) || i != 8) = true := by decide +kernel
theorem needX (k : Nat) (hk : k < 10) (i : Nat) (hi : i < 10) (hne : k ≠ i) (h : needB 10 usesX ancX finX k i = true) : i ≠ 8 := by
  have h1 := List.all_eq_true.1 (List.all_eq_true.1 needXb k (List.mem_range.2 hk)) i (List.mem_range.2 hi)
  rw [h] at h1
  simpa [hne] using h1
/-- What each operation yields. -/
def phiX (B : Nat) (vo : Value) (ad : Addr) (size cap : Nat) (t : List UInt8) (k : Nat) (x y : Id20) (E : Array Id20) : Nat → Value → World → Prop
  | 0 => fun v _ => v = vo
  | 1 => fun v _ => v = .agg (bytesV t).toArray
  | 2 => fun v _ => v = .slice (some ad) size cap
  | 3 => fun v _ => v = .int .i64 k
  | 4 => fun v _ => v = .pointer (some (ad.add (k * 20)))
  | 5 => fun v _ => v = .agg (bytesV x.1).toArray
  | 6 => fun v _ => v = .agg (bytesV y.1).toArray
  | 7 => fun v w => ∃ g, v = .slice (some ⟨g, 0, none⟩) 1 1 ∧ IdRow w (some ⟨g, 0, none⟩) #[y] ∧ g < w.heap.size
  | _ => fun v w => OwnIds 57 w B v (E ++ #[y])
def laterX (B : Nat) (vo : Value) (E : Array Id20) : Nat → World → World → Prop := fun j w w' => Below B w w' ∧ OwnIds 57 w' B vo E ∧ (j ≠ 8 → Below w.heap.size w w')

def opsX5 : List Oper := [{ dst := some 15, op := Op.move (Operand.tmp 5), type := 79, pos := "ref.go:15", after := #[], guard := none }, { dst := some 16, op := Op.load 57 (Operand.tmp 2), type := 57, pos := "ref.go:15", after := #[], guard := none }, { dst := some 17, op := Op.move (Operand.tmp 1), type := 79, pos := "ref.go:15", after := #[], guard := none }, { dst := some 18, op := Op.move (Operand.tmp 6), type := 3, pos := "ref.go:15", after := #[], guard := none }, { dst := some 19, op := Op.indexAddr 79 (Operand.tmp 17) (Operand.tmp 18), type := 0, pos := "ref.go:15", after := #[{ on := 2, ground := Ground.data }, { on := 3, ground := Ground.data }], guard := none }, { dst := some 20, op := Op.load 57 (Operand.tmp 19), type := 57, pos := "ref.go:15", after := #[{ on := 4, ground := Ground.data }], guard := none }, { dst := some 21, op := Op.call { callee := Callee.value (Operand.func 43), args := #[Operand.tmp 16, Operand.tmp 20], argTypes := #[57, 57] }, type := 57, pos := "ref.go:15", after := #[{ on := 1, ground := Ground.data }, { on := 5, ground := Ground.data }], guard := none }, { dst := some 22, op := Op.buildSlice 79 1 #[(0, Operand.tmp 21)], type := 79, pos := "ref.go:15", after := #[{ on := 6, ground := Ground.data }], guard := none }, { dst := some 23, op := Op.call { callee := Callee.builtin Builtin.append, args := #[Operand.tmp 15, Operand.tmp 22], argTypes := #[79, 79] }, type := 79, pos := "ref.go:15", after := #[{ on := 0, ground := Ground.data }, { on := 7, ground := Ground.data }, { on := 6, ground := Ground.chain }], guard := none }, { dst := some 5, op := Op.assign (Operand.tmp 23), type := 79, pos := "ref.go:15", after := #[{ on := 8, ground := Ground.data }, { on := 8, ground := Ground.chain }, { on := 0, ground := Ground.phase }, { on := 1, ground := Ground.phase }, { on := 2, ground := Ground.phase }, { on := 3, ground := Ground.phase }, { on := 4, ground := Ground.phase }, { on := 5, ground := Ground.phase }, { on := 6, ground := Ground.phase }, { on := 7, ground := Ground.phase }, { on := 8, ground := Ground.phase }], guard := none }]
theorem agreeX5 (t i : Nat) (k : Nat) (ok : Oper) (hk : opsX5[k]? = some ok) (hd : ok.dst = some t) (h : opsX5.all (fun o => o.dst != some t || (depsOf o).contains i) = true) : i ∈ depsOf ok := by
  have h1 := List.all_eq_true.1 h ok (List.mem_of_getElem? hk)
  rw [hd] at h1
  simpa using h1

set_option maxRecDepth 100000 in
set_option maxHeartbeats 2000000 in
theorem regionX5 {id : Nat} {Q : Exit → Act → World → Prop} {a0 : Act} {W : World} (t : List UInt8) (ht : t.length = 20) (B b2 : Nat) (vo : Value) (E : Array Id20) (ad : Addr) (d : Array Id20) (cap k : Nat) (x : Id20)
    (eo : a0.eval (.tmp 5) = vo) (e2 : a0.eval (.tmp 2) = .pointer (some ⟨b2, 0, none⟩)) (el : a0.eval (.tmp 1) = .slice (some ad) d.size cap) (ei : a0.eval (.tmp 6) = .int .i64 k) (hsz : a0.tmps.size = 42)
    (ho : OwnIds 57 W B vo E) (hB : B ≤ W.heap.size) (h2 : Row W ⟨b2, 0, none⟩ (bytesV t)) (l2 : b2 < B) (hk : k < d.size) (hx : d[k]! = x) (hd : IdRow W (some ad) d) (hdb : ad.block < B) (hl : E.size < 499999)
    (hK : ∀ (vs : Nat → Value) (w' : World), Below B W w' → OwnIds 57 w' B (vs 9) (E ++ #[xorI t ht x]) → Q .normal (putList opsX5 0 vs a0) w') :
    (Code.region id opsX5.toArray true).wp Try.prog Q a0 W := by
  have harg : ∀ w, Below B W w → Row w (ad.add (k * 20)) (bytesV x.1) := fun w hw => by
    rw [← hx]; exact (hd.below hw (fun a ha => by obtain rfl := Option.some.inj ha; exact hdb)).at rfl hk
  have hszX : opsX5.length = 10 := rfl
  have aT : IsAgg Try.prog 57 (bytesV t).length := by rw [bytes_len ht]; exact aggR3
  have hLr : ∀ i w, OwnIds 57 w B vo E → laterX B vo E i w w := fun i w h => ⟨Below.refl _ _, h, fun _ => Below.refl _ _⟩
  have hLb : ∀ i w w', Below B W w → OwnIds 57 w B vo E → Below w.heap.size w w' → laterX B vo E i w w' := fun i w w' hC ho hb => ⟨hb.mono (Nat.le_trans hB hC.size), ho.below hb, fun _ => hb⟩
  refine wp_region_assert usesX ancX finX (fun w => Below B W w ∧ OwnIds 57 w B vo E) (laterX B vo E) (phiX B vo ad d.size cap t k x (xorI t ht x) E) (by kernel_rfl) (by rw [hsz]; decide +kernel) (by decide +kernel) ⟨below_drewN (Below.refl _ _) 1, ho⟩ (fun j w w' h hL => ⟨h.1.trans hL.1, hL.2.1⟩) ?_ ?_ ?_
  · intro k' i hk' hi hne hneed v w w' hC h hL
    rw [hszX] at hk' hi hneed
    have hb := hL.2.2 (needX k' hk' i hi hne hneed)
    match k', hk' with
    | 0, _ => exact h
    | 1, _ => exact h
    | 2, _ => exact h
    | 3, _ => exact h
    | 4, _ => exact h
    | 5, _ => exact h
    | 6, _ => exact h
    | 7, _ => obtain ⟨g, h1, h2, h3⟩ := h; exact ⟨g, h1, h2.below hb (fun a ha => by obtain rfl := Option.some.inj ha; exact h3), Nat.lt_of_lt_of_le h3 hb.size⟩
    | 8, _ => exact OwnIds.below h hb
    | 9, _ => exact OwnIds.below h hb
    | m + 10, hm => exact absurd hm (by omega)
  · refine ⟨?_, ?_, ?_, ?_, ?_, ?_, ?_, ?_, ?_, ?_, trivial⟩
    · -- out
      intro a w hC hag hdp K hKK
      unfold Oper.wp
      rw [exec_move (.tmp 5) rfl]
      refine hKK _ _ ?_ (hLr _ _ hC.2)
      show a.eval (.tmp 5) = _
      rw [hag 5 (fun k ok hk hd => agreeX5 5 _ k ok hk hd (by decide +kernel)), eo]
    · -- t
      intro a w hC hag hdp K hKK
      exact wp_load_agg _ _ rfl ⟨b2, 0, none⟩ ((hag 2 (fun k ok hk hd => agreeX5 2 _ k ok hk hd (by decide +kernel))).trans e2) (bytesV t) (h2.below hC.1 l2) aT (hKK _ _ rfl (hLr _ _ hC.2))
    · -- l
      intro a w hC hag hdp K hKK
      unfold Oper.wp
      rw [exec_move (.tmp 1) rfl]
      refine hKK _ _ ?_ (hLr _ _ hC.2)
      show a.eval (.tmp 1) = _
      rw [hag 1 (fun k ok hk hd => agreeX5 1 _ k ok hk hd (by decide +kernel)), el]
    · -- i
      intro a w hC hag hdp K hKK
      unfold Oper.wp
      rw [exec_move (.tmp 6) rfl]
      refine hKK _ _ ?_ (hLr _ _ hC.2)
      show a.eval (.tmp 6) = _
      rw [hag 6 (fun k ok hk hd => agreeX5 6 _ k ok hk hd (by decide +kernel)), ei]
    · -- its place
      intro a w hC hag hdp K hKK
      obtain ⟨vp, hp, tp⟩ := hdp 2 (by decide) _ rfl
      have up := tp 17 rfl
      obtain ⟨vr, hr, tr⟩ := hdp 3 (by decide) _ rfl
      have ur := tr 18 rfl
      unfold Oper.wp
      rw [exec_index idTyR (.tmp 17) (.tmp 18) rfl ad d.size cap k (up.trans hp) (ur.trans hr) hk]
      exact hKK _ _ rfl (hLr _ _ hC.2)
    · -- the id
      intro a w hC hag hdp K hKK
      obtain ⟨vp, hp, tp⟩ := hdp 4 (by decide) _ rfl
      have up := tp 19 rfl
      exact wp_load_agg _ _ rfl (ad.add (k * 20)) (up.trans hp) (bytesV x.1) (harg w hC.1) (by rw [bytes_len x.2]; exact aggR3) (hKK _ _ rfl (hLr _ _ hC.2))
    · -- Xor
      intro a w hC hag hdp K hKK
      obtain ⟨vp, hp, tp⟩ := hdp 1 (by decide) _ rfl
      have up := tp 16 rfl
      obtain ⟨vr, hr, tr⟩ := hdp 5 (by decide) _ rfl
      have ur := tr 20 rfl
      refine wp_call 43 _ _ rfl (enters_of Try.func43 (by kernel_rfl) rfl) ?_
      have e : (#[Operand.tmp 16, Operand.tmp 20].map a.eval) = #[.agg (bytesV t).toArray, .agg (bytesV x.1).toArray] := by
        rw [show (#[Operand.tmp 16, Operand.tmp 20].map a.eval) = #[a.eval (.tmp 16), a.eval (.tmp 20)] from by simp, up, ur, show vp = _ from hp, show vr = _ from hr]
      rw [e]
      refine (ref_Xor t x.1 ht x.2 w).mono ?_
      rintro e' w' ⟨rfl, hb⟩
      exact ⟨_, rfl, hKK _ _ rfl (hLb _ _ _ hC.1 hC.2 hb)⟩
    · -- []ID{it}
      intro a w hC hag hdp K hKK
      obtain ⟨vp, hp, tp⟩ := hdp 6 (by decide) _ rfl
      have up := tp 21 rfl
      have hb : Below w.heap.size w (w.alloc (.cells (idsV #[xorI t ht x]) 57)) := (Below.refl _ _).alloc (Nat.le_refl _) _
      refine wp_build_one idTyR _ rfl (xorI t ht x) (up.trans hp) (hKK _ _ ⟨_, rfl, ⟨(fun h => by cases h), fun b hb' => ?_⟩, by simp⟩ (hLb _ _ _ hC.1 hC.2 hb))
      obtain rfl := Option.some.inj hb'
      exact Row.of_block (heap_alloc_new _ _)
    · -- append
      intro a w hC hag hdp K hKK
      obtain ⟨vp, hp, tp⟩ := hdp 0 (by decide) _ rfl
      have up := tp 15 rfl
      obtain ⟨vr, hr, tr⟩ := hdp 7 (by decide) _ rfl
      have ur := tr 22 rfl
      obtain ⟨g, hg1, hg2, hg3⟩ := hr
      refine wp_append_keep idTyR (.tmp 15) (.tmp 22) rfl B vo E #[xorI t ht x] (up.trans hp) hC.2 (some ⟨g, 0, none⟩) 1 (by rw [show a.eval (.tmp 22) = vr from ur, hg1]; rfl) hg2 (by simp; omega) (Nat.le_trans hB hC.1.size) ?_
      intro v' w' h1 h2 h3
      exact hKK v' w' h1 ⟨h2, h3, fun h => absurd rfl h⟩
    · -- out =
      intro a w hC hag hdp K hKK
      obtain ⟨vp, hp, tp⟩ := hdp 8 (by decide) _ rfl
      have up := tp 23 rfl
      unfold Oper.wp
      rw [exec_assign (.tmp 23) rfl]
      exact hKK _ _ (by rw [up]; exact hp) (hLr _ _ hC.2)
  · intro vs w' hC hf
    exact hK vs w' hC.1 (hf 9 (by rw [hszX]; decide) rfl)

def opsX11 : List Oper := [{ dst := some 32, op := Op.move (Operand.tmp 7), type := 79, pos := "ref.go:20", after := #[], guard := none }, { dst := some 33, op := Op.load 57 (Operand.tmp 2), type := 57, pos := "ref.go:20", after := #[], guard := none }, { dst := some 34, op := Op.move (Operand.tmp 5), type := 79, pos := "ref.go:20", after := #[], guard := none }, { dst := some 35, op := Op.move (Operand.tmp 8), type := 3, pos := "ref.go:20", after := #[], guard := none }, { dst := some 36, op := Op.indexAddr 79 (Operand.tmp 34) (Operand.tmp 35), type := 0, pos := "ref.go:20", after := #[{ on := 2, ground := Ground.data }, { on := 3, ground := Ground.data }], guard := none }, { dst := some 37, op := Op.load 57 (Operand.tmp 36), type := 57, pos := "ref.go:20", after := #[{ on := 4, ground := Ground.data }], guard := none }, { dst := some 38, op := Op.call { callee := Callee.value (Operand.func 43), args := #[Operand.tmp 33, Operand.tmp 37], argTypes := #[57, 57] }, type := 57, pos := "ref.go:20", after := #[{ on := 1, ground := Ground.data }, { on := 5, ground := Ground.data }], guard := none }, { dst := some 39, op := Op.buildSlice 79 1 #[(0, Operand.tmp 38)], type := 79, pos := "ref.go:20", after := #[{ on := 6, ground := Ground.data }], guard := none }, { dst := some 40, op := Op.call { callee := Callee.builtin Builtin.append, args := #[Operand.tmp 32, Operand.tmp 39], argTypes := #[79, 79] }, type := 79, pos := "ref.go:20", after := #[{ on := 0, ground := Ground.data }, { on := 7, ground := Ground.data }, { on := 6, ground := Ground.chain }], guard := none }, { dst := some 7, op := Op.assign (Operand.tmp 40), type := 79, pos := "ref.go:20", after := #[{ on := 8, ground := Ground.data }, { on := 8, ground := Ground.chain }, { on := 0, ground := Ground.phase }, { on := 1, ground := Ground.phase }, { on := 2, ground := Ground.phase }, { on := 3, ground := Ground.phase }, { on := 4, ground := Ground.phase }, { on := 5, ground := Ground.phase }, { on := 6, ground := Ground.phase }, { on := 7, ground := Ground.phase }, { on := 8, ground := Ground.phase }], guard := none }]
theorem agreeX11 (t i : Nat) (k : Nat) (ok : Oper) (hk : opsX11[k]? = some ok) (hd : ok.dst = some t) (h : opsX11.all (fun o => o.dst != some t || (depsOf o).contains i) = true) : i ∈ depsOf ok := by
  have h1 := List.all_eq_true.1 h ok (List.mem_of_getElem? hk)
  rw [hd] at h1
  simpa using h1

set_option maxRecDepth 100000 in
set_option maxHeartbeats 2000000 in
theorem regionX11 {id : Nat} {Q : Exit → Act → World → Prop} {a0 : Act} {W : World} (t : List UInt8) (ht : t.length = 20) (B b2 : Nat) (vo : Value) (E : Array Id20) (ad : Addr) (d : Array Id20) (cap k : Nat) (x : Id20)
    (eo : a0.eval (.tmp 7) = vo) (e2 : a0.eval (.tmp 2) = .pointer (some ⟨b2, 0, none⟩)) (el : a0.eval (.tmp 5) = .slice (some ad) d.size cap) (ei : a0.eval (.tmp 8) = .int .i64 k) (hsz : a0.tmps.size = 42)
    (ho : OwnIds 57 W B vo E) (hB : B ≤ W.heap.size) (h2 : Row W ⟨b2, 0, none⟩ (bytesV t)) (l2 : b2 < B) (hk : k < d.size) (hx : d[k]! = x) (hd : IdRow W (some ad) d) (hdb : ad.block < B) (hl : E.size < 499999)
    (hK : ∀ (vs : Nat → Value) (w' : World), Below B W w' → OwnIds 57 w' B (vs 9) (E ++ #[xorI t ht x]) → Q .normal (putList opsX11 0 vs a0) w') :
    (Code.region id opsX11.toArray true).wp Try.prog Q a0 W := by
  have harg : ∀ w, Below B W w → Row w (ad.add (k * 20)) (bytesV x.1) := fun w hw => by
    rw [← hx]; exact (hd.below hw (fun a ha => by obtain rfl := Option.some.inj ha; exact hdb)).at rfl hk
  have hszX : opsX11.length = 10 := rfl
  have aT : IsAgg Try.prog 57 (bytesV t).length := by rw [bytes_len ht]; exact aggR3
  have hLr : ∀ i w, OwnIds 57 w B vo E → laterX B vo E i w w := fun i w h => ⟨Below.refl _ _, h, fun _ => Below.refl _ _⟩
  have hLb : ∀ i w w', Below B W w → OwnIds 57 w B vo E → Below w.heap.size w w' → laterX B vo E i w w' := fun i w w' hC ho hb => ⟨hb.mono (Nat.le_trans hB hC.size), ho.below hb, fun _ => hb⟩
  refine wp_region_assert usesX ancX finX (fun w => Below B W w ∧ OwnIds 57 w B vo E) (laterX B vo E) (phiX B vo ad d.size cap t k x (xorI t ht x) E) (by kernel_rfl) (by rw [hsz]; decide +kernel) (by decide +kernel) ⟨below_drewN (Below.refl _ _) 1, ho⟩ (fun j w w' h hL => ⟨h.1.trans hL.1, hL.2.1⟩) ?_ ?_ ?_
  · intro k' i hk' hi hne hneed v w w' hC h hL
    rw [hszX] at hk' hi hneed
    have hb := hL.2.2 (needX k' hk' i hi hne hneed)
    match k', hk' with
    | 0, _ => exact h
    | 1, _ => exact h
    | 2, _ => exact h
    | 3, _ => exact h
    | 4, _ => exact h
    | 5, _ => exact h
    | 6, _ => exact h
    | 7, _ => obtain ⟨g, h1, h2, h3⟩ := h; exact ⟨g, h1, h2.below hb (fun a ha => by obtain rfl := Option.some.inj ha; exact h3), Nat.lt_of_lt_of_le h3 hb.size⟩
    | 8, _ => exact OwnIds.below h hb
    | 9, _ => exact OwnIds.below h hb
    | m + 10, hm => exact absurd hm (by omega)
  · refine ⟨?_, ?_, ?_, ?_, ?_, ?_, ?_, ?_, ?_, ?_, trivial⟩
    · -- out
      intro a w hC hag hdp K hKK
      unfold Oper.wp
      rw [exec_move (.tmp 7) rfl]
      refine hKK _ _ ?_ (hLr _ _ hC.2)
      show a.eval (.tmp 7) = _
      rw [hag 7 (fun k ok hk hd => agreeX11 7 _ k ok hk hd (by decide +kernel)), eo]
    · -- t
      intro a w hC hag hdp K hKK
      exact wp_load_agg _ _ rfl ⟨b2, 0, none⟩ ((hag 2 (fun k ok hk hd => agreeX11 2 _ k ok hk hd (by decide +kernel))).trans e2) (bytesV t) (h2.below hC.1 l2) aT (hKK _ _ rfl (hLr _ _ hC.2))
    · -- l
      intro a w hC hag hdp K hKK
      unfold Oper.wp
      rw [exec_move (.tmp 5) rfl]
      refine hKK _ _ ?_ (hLr _ _ hC.2)
      show a.eval (.tmp 5) = _
      rw [hag 5 (fun k ok hk hd => agreeX11 5 _ k ok hk hd (by decide +kernel)), el]
    · -- i
      intro a w hC hag hdp K hKK
      unfold Oper.wp
      rw [exec_move (.tmp 8) rfl]
      refine hKK _ _ ?_ (hLr _ _ hC.2)
      show a.eval (.tmp 8) = _
      rw [hag 8 (fun k ok hk hd => agreeX11 8 _ k ok hk hd (by decide +kernel)), ei]
    · -- its place
      intro a w hC hag hdp K hKK
      obtain ⟨vp, hp, tp⟩ := hdp 2 (by decide) _ rfl
      have up := tp 34 rfl
      obtain ⟨vr, hr, tr⟩ := hdp 3 (by decide) _ rfl
      have ur := tr 35 rfl
      unfold Oper.wp
      rw [exec_index idTyR (.tmp 34) (.tmp 35) rfl ad d.size cap k (up.trans hp) (ur.trans hr) hk]
      exact hKK _ _ rfl (hLr _ _ hC.2)
    · -- the id
      intro a w hC hag hdp K hKK
      obtain ⟨vp, hp, tp⟩ := hdp 4 (by decide) _ rfl
      have up := tp 36 rfl
      exact wp_load_agg _ _ rfl (ad.add (k * 20)) (up.trans hp) (bytesV x.1) (harg w hC.1) (by rw [bytes_len x.2]; exact aggR3) (hKK _ _ rfl (hLr _ _ hC.2))
    · -- Xor
      intro a w hC hag hdp K hKK
      obtain ⟨vp, hp, tp⟩ := hdp 1 (by decide) _ rfl
      have up := tp 33 rfl
      obtain ⟨vr, hr, tr⟩ := hdp 5 (by decide) _ rfl
      have ur := tr 37 rfl
      refine wp_call 43 _ _ rfl (enters_of Try.func43 (by kernel_rfl) rfl) ?_
      have e : (#[Operand.tmp 33, Operand.tmp 37].map a.eval) = #[.agg (bytesV t).toArray, .agg (bytesV x.1).toArray] := by
        rw [show (#[Operand.tmp 33, Operand.tmp 37].map a.eval) = #[a.eval (.tmp 33), a.eval (.tmp 37)] from by simp, up, ur, show vp = _ from hp, show vr = _ from hr]
      rw [e]
      refine (ref_Xor t x.1 ht x.2 w).mono ?_
      rintro e' w' ⟨rfl, hb⟩
      exact ⟨_, rfl, hKK _ _ rfl (hLb _ _ _ hC.1 hC.2 hb)⟩
    · -- []ID{it}
      intro a w hC hag hdp K hKK
      obtain ⟨vp, hp, tp⟩ := hdp 6 (by decide) _ rfl
      have up := tp 38 rfl
      have hb : Below w.heap.size w (w.alloc (.cells (idsV #[xorI t ht x]) 57)) := (Below.refl _ _).alloc (Nat.le_refl _) _
      refine wp_build_one idTyR _ rfl (xorI t ht x) (up.trans hp) (hKK _ _ ⟨_, rfl, ⟨(fun h => by cases h), fun b hb' => ?_⟩, by simp⟩ (hLb _ _ _ hC.1 hC.2 hb))
      obtain rfl := Option.some.inj hb'
      exact Row.of_block (heap_alloc_new _ _)
    · -- append
      intro a w hC hag hdp K hKK
      obtain ⟨vp, hp, tp⟩ := hdp 0 (by decide) _ rfl
      have up := tp 32 rfl
      obtain ⟨vr, hr, tr⟩ := hdp 7 (by decide) _ rfl
      have ur := tr 39 rfl
      obtain ⟨g, hg1, hg2, hg3⟩ := hr
      refine wp_append_keep idTyR (.tmp 32) (.tmp 39) rfl B vo E #[xorI t ht x] (up.trans hp) hC.2 (some ⟨g, 0, none⟩) 1 (by rw [show a.eval (.tmp 39) = vr from ur, hg1]; rfl) hg2 (by simp; omega) (Nat.le_trans hB hC.1.size) ?_
      intro v' w' h1 h2 h3
      exact hKK v' w' h1 ⟨h2, h3, fun h => absurd rfl h⟩
    · -- out =
      intro a w hC hag hdp K hKK
      obtain ⟨vp, hp, tp⟩ := hdp 8 (by decide) _ rfl
      have up := tp 40 rfl
      unfold Oper.wp
      rw [exec_assign (.tmp 40) rfl]
      exact hKK _ _ (by rw [up]; exact hp) (hLr _ _ hC.2)
  · intro vs w' hC hf
    exact hK vs w' hC.1 (hf 9 (by rw [hszX]; decide) rfl)
end Go.Proofs.Ytjdmbegmbffhfaa

/-
  The reference's Sort by distance. Conditions: the id is of twenty bytes; fewer than half a million ids.
-/
namespace Go.Proofs.Ytjdmbegmbffhfaa
open Go.RowKit Go.Sort Go.Lib

/-- All distances, as ids. -/
def farA (t : List UInt8) (ht : t.length = 20) (d : Array Id20) (k : Nat) : Array Id20 := (d.extract 0 k).map (xorI t ht)
theorem farA_size (t : List UInt8) (ht : t.length = 20) (d : Array Id20) (k : Nat) (hk : k ≤ d.size) : (farA t ht d k).size = k := by
  unfold farA; simp; omega
theorem farA_succ (t : List UInt8) (ht : t.length = 20) (d : Array Id20) (k : Nat) (x : Id20) (hk : k < d.size) (hx : d[k]! = x) : farA t ht d k ++ #[xorI t ht x] = farA t ht d (k + 1) := by
  unfold farA
  rw [← extract_succ d k hk, Array.map_append, hx]
  simp
theorem farA_all (t : List UInt8) (ht : t.length = 20) (d : Array Id20) : farA t ht d d.size = d.map (xorI t ht) := by
  unfold farA; simp
theorem xorB_back : ∀ (t x : List UInt8), t.length = x.length → xorB t (xorB t x) = x
  | [], [], _ => rfl
  | [], _ :: _, h => by simp at h
  | _ :: _, [], h => by simp at h
  | a :: t, b :: x, h => by
    show (a ^^^ (a ^^^ b)) :: xorB t (xorB t x) = b :: x
    rw [xorB_back t x (by simpa using h), ← UInt8.xor_assoc, UInt8.xor_self, UInt8.zero_xor]
theorem xorI_back (t : List UInt8) (ht : t.length = 20) (x : Id20) : xorI t ht (xorI t ht x) = x := Subtype.ext (xorB_back t x.1 (by have := x.2; omega))
theorem farC_xorI (t z : List UInt8) (ht : t.length = 20) (hz : z = List.replicate 20 0) (x y : Id20) : farC t (xorI t ht x).1 (xorI t ht y).1 = farC z x.1 y.1 := by
  have hzx : ∀ u : Id20, xorB z u.1 = u.1 := fun u => by
    obtain ⟨l, hl⟩ := u
    subst hz
    match l, hl with
    | [_, _, _, _, _, _, _, _, _, _, _, _, _, _, _, _, _, _, _, _], _ => simp [xorB, List.replicate]
  unfold farC
  rw [hzx, hzx]
  show Lib.compareBytes (xorB t (xorB t x.1)) (xorB t (xorB t y.1)) = _
  rw [xorB_back t x.1 (by have := x.2; omega), xorB_back t y.1 (by have := y.2; omega)]
/-- Distances, sorted, and turned back. -/
theorem far_sorted (t : List UInt8) (ht : t.length = 20) (d : Array Id20) : (putAll (d.map (xorI t ht)) d.size).map (xorI t ht) = nearD t d := by
  have h1 := putAll_near (d.map (xorI t ht))
  rw [Array.size_map] at h1
  rw [h1]
  obtain ⟨z, hz⟩ : ∃ z, List.replicate 20 (0 : UInt8) = z := ⟨_, rfl⟩
  have hzl : z.length = 20 := by rw [← hz]; simp
  obtain ⟨a1, a2⟩ := nearD_spec z hzl (d.map (xorI t ht))
  obtain ⟨b1, b2⟩ := nearD_spec t ht d
  rw [hz]
  refine near_unique t ht _ _ ?_ b1 fun y => ?_
  · rw [List.pairwise_map]
    exact a1.imp fun {x y} h => by rw [farC_xorI t z ht hz.symm]; exact h
  · rw [b2, List.mem_map]
    constructor
    · rintro ⟨a, ha, rfl⟩
      rw [a2] at ha
      simp only [Array.toList_map, List.mem_map] at ha
      obtain ⟨b, hb, rfl⟩ := ha
      rwa [xorI_back]
    · intro hy
      refine ⟨xorI t ht y, (a2 _).2 ?_, xorI_back t ht y⟩
      simp only [Array.toList_map, List.mem_map]
      exact ⟨y, hy, rfl⟩

set_option maxRecDepth 100000 in
set_option maxHeartbeats 8000000 in
theorem ref04_Sort (t : List UInt8) (ht : t.length = 20) (p : Option Addr) (d : Array Id20) (cap : Nat) (w : World) (hp : IdRow w p d) (hpb : ∀ a, p = some a → a.block < w.heap.size) (hn : d.size < 499990) :
    Calls Try.prog 54 #[.agg (bytesV t).toArray, .slice p d.size cap] w fun e w' => ∃ v, e = .returned v ∧ OwnIds 57 w' w.heap.size v (nearD t d).toArray ∧ Below w.heap.size w w' := by
  have st := bytes_size ht
  have hb1 : Below w.heap.size w (w.alloc (.cells (bytesV t).toArray 57)) := (Below.refl _ _).alloc (Nat.le_refl _) _
  have HB := Lib.hid hb1
  have i1 : Hid (Row (w.alloc (.cells (bytesV t).toArray 57)) ⟨w.heap.size, 0, none⟩ (bytesV t)) := Lib.hid (Row.of_block (heap_alloc_new _ _))
  have hs1 : Hid ((w.alloc (.cells (bytesV t).toArray 57)).heap.size = w.heap.size + 1) := Lib.hid (by simp)
  have HP := Lib.hid (hp.below hb1 hpb)
  have HPB := Lib.hid hpb
  have HFS := Lib.hid (far_sorted t ht d)
  have HSZ := Lib.hid (farA_size t ht d)
  have HTL := Lib.hid ht
  clear hp hpb hb1
  go_enter Try.func54, Try.ntmps54
  go_wp2_with fail
  generalize (w.alloc (.cells (bytesV t).toArray 57)) = W at *
  go_loopw [5, 6] (fun s5 s6 wr => ∃ (k : Nat) (q : Option Addr) (c : Nat), s6 = .int .i64 k ∧ k ≤ d.size ∧ s5 = .slice q k c ∧ Hid (OwnIds 57 wr (w.heap.size + 1) (.slice q k c) (farA t HTL.out d k)) ∧ Hid (Below (w.heap.size + 1) W wr)) (fun _ s6 _ => d.size - (intOf s6).toNat)
  case atStart => exact ⟨0, none, 0, rfl, Nat.zero_le _, rfl, Lib.hid (by simpa [farA] using OwnIds.nil _ _ _), Lib.hid (Below.refl _ _)⟩
  case round =>
    obtain ⟨k, q, c, rfl, hk, rfl, HO, HBW⟩ := hrel
    by_cases hlt : k < d.size
    · obtain ⟨ad, rfl⟩ := HP.out.some_of (by omega)
      obtain ⟨x, hx⟩ : ∃ x, d[k]! = x := ⟨_, rfl⟩
      have HX := Lib.hid hx
      have hkd : (k : Int) < (d.size : Int) := by omega
      have hk5 : (k : Int) < 500000 := by omega
      clear hx
      go_wp2_with fail
      refine regionX5 t HTL.out (w.heap.size + 1) w.heap.size _ (farA t HTL.out d k) ad d cap k x rfl rfl rfl rfl rfl HO.out (by rw [← hs1.out]; exact HBW.out.size) (i1.out.below HBW.out (by simp)) (by omega) hlt HX.out (HP.out.below HBW.out (fun a ha => Nat.lt_succ_of_lt (HPB.out a ha))) (Nat.lt_succ_of_lt (HPB.out ad rfl)) (by rw [HSZ.out k hk]; omega) ?_
      intro vs w5 hb5 ho5
      rw [farA_succ t HTL.out d k x hlt HX.out] at ho5
      obtain ⟨q5, c5, hv5, _, _, _, _, _⟩ := ho5.form
      rw [HSZ.out (k + 1) hlt] at hv5
      rw [hv5] at ho5
      have HO5 := Lib.hid ho5
      have HB5 := Lib.hid (HBW.out.trans hb5)
      have HV5 := Lib.hid hv5
      clear ho5 hb5 hv5 HO HBW
      simp only [putList, opsX5]
      rw [HV5.out]
      go_wp2_with fail
      go_roundw
      case rel => exact ⟨k + 1, q5, c5, by go_num, by omega, by go_num, HO5, HB5⟩
      case measure => simp [intOf]; omega
    · have hke : k = d.size := by omega
      subst hke
      obtain ⟨E, hE⟩ : ∃ E, farA t HTL.out d d.size = E := ⟨_, rfl⟩
      have hEs : E.size = d.size := by rw [← hE]; exact HSZ.out _ (Nat.le_refl _)
      have hEm : E = d.map (xorI t HTL.out) := by rw [← hE]; exact farA_all t HTL.out d
      rw [hE] at HO
      have ho := HO.out
      obtain ⟨qf, cf, hvf, hrf, _, hqf, _, _⟩ := ho.form
      injection hvf with e1 e2 e3
      subst e1
      subst e3
      have hS := ref_Sort q E c wr hrf (fun a ha => (hqf a ha).2) (by omega)
      rw [hEs] at hS
      have HS := Lib.hid hS
      rw [← hEm] at HFS
      clear hS ho hrf hqf hE hEm HO hEs e2
      go_wp2_with fail
      refine HS.out.mono ?_
      rintro e w2 ⟨v2, rfl, ho2, hb2⟩
      obtain ⟨L, hL⟩ : ∃ L, putAll E d.size = L := ⟨_, rfl⟩
      rw [hL] at ho2 HFS
      obtain ⟨q2, c2, hv2, hr2, _, hq2, _, _⟩ := ho2.form
      have hLs : L.toArray.size = L.length := by simp
      have hLn : L.length ≤ d.size := by rw [← hL]; exact putAll_length E d.size
      rw [hLs] at hv2
      subst hv2
      have HR2 := Lib.hid hr2
      have HQ2 : Hid (∀ a, q2 = some a → a.block < w2.heap.size) := Lib.hid (fun a ha => (hq2 a ha).2)
      have HB2 : Hid (Below (w.heap.size + 1) W w2) := Lib.hid (HBW.out.trans (hb2.mono (by rw [← hs1.out]; exact HBW.out.size)))
      have HLN := Lib.hid hLn
      have HFM : Hid (farA t HTL.out L.toArray L.length = (nearD t d).toArray) := Lib.hid (by
        have h1 := farA_all t HTL.out L.toArray
        rw [hLs] at h1
        rw [h1, ← HFS.out]
        simp)
      have HSL : Hid (∀ k, k ≤ L.length → (farA t HTL.out L.toArray k).size = k) := Lib.hid (fun k hk => farA_size t HTL.out L.toArray k (by rw [hLs]; exact hk))
      clear ho2 hb2 hr2 hq2 hLs hLn hL HFS HS HBW HSZ
      go_wp2_with fail
      go_loopw [7, 8] (fun s7 s8 wr => ∃ (k : Nat) (q : Option Addr) (c : Nat), s8 = .int .i64 k ∧ k ≤ L.length ∧ s7 = .slice q k c ∧ Hid (OwnIds 57 wr w2.heap.size (.slice q k c) (farA t HTL.out L.toArray k)) ∧ Hid (Below w2.heap.size w2 wr)) (fun _ s8 _ => L.length - (intOf s8).toNat)
      case atStart => exact ⟨0, none, 0, rfl, Nat.zero_le _, rfl, Lib.hid (by simpa [farA] using OwnIds.nil _ _ _), Lib.hid (Below.refl _ _)⟩
      case round =>
        obtain ⟨k, q, c, rfl, hk, rfl, HO, HBW⟩ := hrel
        by_cases hlt : k < L.length
        · have hlt2 : k < L.toArray.size := by simpa using hlt
          obtain ⟨ad, rfl⟩ := HR2.out.some_of (by omega)
          obtain ⟨x, hx⟩ : ∃ x, L.toArray[k]! = x := ⟨_, rfl⟩
          have HX := Lib.hid hx
          have HK2 := Lib.hid hlt2
          have hkd : (k : Int) < (L.length : Int) := by omega
          have hk5 : (k : Int) < 500000 := by have := HLN.out; omega
          clear hx hlt2
          have hsz2 : Hid (w.heap.size + 1 ≤ w2.heap.size) := Lib.hid (by rw [← hs1.out]; exact HB2.out.size)
          go_wp2_with fail
          refine regionX11 t HTL.out w2.heap.size w.heap.size _ (farA t HTL.out L.toArray k) ad L.toArray _ k x rfl rfl rfl rfl rfl HO.out HBW.out.size ((i1.out.below HB2.out (by simp)).below HBW.out hsz2.out) (Nat.lt_of_lt_of_le (Nat.lt_succ_self _) hsz2.out) HK2.out HX.out (HR2.out.below HBW.out HQ2.out) (HQ2.out ad rfl) (by rw [HSL.out k hk]; have := HLN.out; omega) ?_
          intro vs w5 hb5 ho5
          rw [farA_succ t HTL.out L.toArray k x HK2.out HX.out] at ho5
          obtain ⟨q5, c5, hv5, _, _, _, _, _⟩ := ho5.form
          rw [HSL.out (k + 1) hlt] at hv5
          rw [hv5] at ho5
          have HO5 := Lib.hid ho5
          have HB5 := Lib.hid (HBW.out.trans hb5)
          have HV5 := Lib.hid hv5
          clear ho5 hb5 hv5 HO HBW
          simp only [putList, opsX11]
          rw [HV5.out]
          go_wp2_with fail
          go_roundw
          case rel => exact ⟨k + 1, q5, c5, by go_num, by omega, by go_num, HO5, HB5⟩
          case measure => simp [intOf]; omega
        · have hke : k = L.length := by omega
          subst hke
          rw [HFM.out] at HO
          go_wp2_with fail
          refine bodyPost_ret (results_tmp rfl _ _ _) rfl ?_
          refine ⟨_, rfl, HO.out.mono ?_, ?_⟩
          · have := HB2.out.size
            have := HB.out.size
            omega
          · exact (HB.out.trans (HB2.out.mono (Nat.le_succ _))).trans (HBW.out.mono (Nat.le_trans HB.out.size HB2.out.size))
end Go.Proofs.Ytjdmbegmbffhfaa

/-
  The reference's Least, Has and Rank. Conditions: the ids are of twenty bytes; fewer than half a million of them.
-/
namespace Go.Proofs.Ytjdmbegmbffhfaa
open Go.RowKit Go.Sort Go.Lib

theorem wpList_slice_h {sl T : TypeId} (h : IdTy sl T) {w : World} {ops : Array Oper} {rest : List Oper} {o : Oper} {a : Act} {Q : Exit → Act → World → Prop} (hgd : o.guard = none) (x y : Operand) (ho : o.op = .slice sl x none (some y) none) (q : Option Addr) (len c n : Nat) (hx : a.eval x = .slice q len c) (hy : a.eval y = .int .i64 (n : Int)) (hn : n ≤ c)
    (hK : wpList Try.prog ops Q rest (a.put o.dst (.slice (if c = 0 then q else q.map (·.add (0 * 20))) n c)) w) : wpList Try.prog ops Q (o :: rest) a w :=
  wpList_plain hgd fun K hk => by
    unfold Oper.wp
    rw [exec_slice_h h x y ho q len c n hx hy hn]
    exact hk _ _ hK
theorem headAddr (q : Option Addr) (c : Nat) : (if c = 0 then q else q.map (·.add (0 * 20))) = q := by
  split
  · rfl
  · cases q with
    | none => rfl
    | some a => show some (a.add (0 * 20)) = some a; rw [Nat.zero_mul, add_zero]

set_option maxRecDepth 100000 in
set_option maxHeartbeats 4000000 in
theorem ref04_Least (t : List UInt8) (ht : t.length = 20) (p : Option Addr) (d : Array Id20) (cap : Nat) (n : Int) (w : World) (hp : IdRow w p d) (hpb : ∀ a, p = some a → a.block < w.heap.size) (hn : d.size < 499990) :
    Calls Try.prog 56 #[.agg (bytesV t).toArray, .slice p d.size cap, .int .i64 n] w fun e w' => ∃ q c, e = .returned (.slice q ((nearD t d).take n.toNat).length c) ∧ IdRow w' q ((nearD t d).take n.toNat).toArray ∧ (∀ a, q = some a → a.block < w'.heap.size) ∧ Below w.heap.size w w' := by
  have st := bytes_size ht
  have haT : Hid (IsAgg Try.prog 57 (bytesV t).length) := Lib.hid (by rw [bytes_len ht]; exact aggR3)
  have i1 : Hid (Row (w.alloc (.cells (bytesV t).toArray 57)) ⟨w.heap.size, 0, none⟩ (bytesV t)) := Lib.hid (Row.of_block (heap_alloc_new _ _))
  have hb1 : Below w.heap.size w (w.alloc (.cells (bytesV t).toArray 57)) := (Below.refl _ _).alloc (Nat.le_refl _) _
  have hS := ref04_Sort t ht p d cap (w.alloc (.cells (bytesV t).toArray 57)) (hp.below hb1 hpb) (fun a ha => Nat.lt_of_lt_of_le (hpb a ha) hb1.size) hn
  have hdl := nearD_length t d
  obtain ⟨l, hl⟩ : ∃ l, nearD t d = l := ⟨_, rfl⟩
  rw [hl] at hS hdl ⊢
  have HS := Lib.hid hS
  have HB1 := Lib.hid hb1
  clear hp hpb hS hb1 hl
  go_enter Try.func56, Try.ntmps56
  go_wp2_with ((with_reducible show wpList _ _ _ (⟨some 8, _, _, _, _, _⟩ :: _) _ _); refine wpList_load_agg (o := ⟨some 8, _, _, _, _, _⟩) rfl _ (.tmp 3) rfl _ rfl (bytesV t) i1.out haT.out ?_)
  refine HS.out.mono ?_
  rintro e w1 ⟨v, rfl, ho, hb2⟩
  obtain ⟨q, c, hv, hr, _, hq, hlc, _⟩ := ho.form
  have hls : l.toArray.size = l.length := by simp
  rw [hls] at hv hlc
  subst hv
  have HB : Hid (Below w.heap.size w w1) := Lib.hid (HB1.out.trans (hb2.mono HB1.out.size))
  obtain ⟨m, hm⟩ : ∃ m : Nat, (m : Int) = max 0 (min n (l.length : Int)) := ⟨(max 0 (min n (l.length : Int))).toNat, by omega⟩
  have hm1 : m ≤ l.length := by omega
  have hm2 : m = ((l.take n.toNat)).length := by rw [List.length_take]; omega
  have hm3 : l.take m = l.take n.toNat := by
    rw [hm2, List.length_take, ← List.take_take, List.take_length]
  have HR := Lib.hid hr
  have HQ : Hid (∀ a, q = some a → a.block < w1.heap.size) := Lib.hid (fun a ha => (hq a ha).2)
  have HM1 := Lib.hid hm1
  have HM2 := Lib.hid hm2
  have HM3 := Lib.hid hm3
  have HLC := Lib.hid hlc
  have hm' : max 0 (min n (l.length : Int)) = (m : Int) := hm.symm
  clear ho hb2 hr hq hls hlc hm hm1 hm2 hm3 HS HB1 i1
  go_wp2_with ((with_reducible show wpList _ _ _ (⟨some 17, _, _, _, _, _⟩ :: _) _ _); refine wpList_slice_h idTyR (o := ⟨some 17, _, _, _, _, _⟩) rfl (.tmp 11) (.tmp 16) rfl q l.length c m rfl rfl (Nat.le_trans HM1.out HLC.out) ?_)
  refine bodyPost_ret (results_tmp rfl _ _ _) rfl ?_
  refine ⟨q, c, by rw [← HM2.out]; rfl, ?_, HQ.out, HB.out⟩
  have h := idrow_take HR.out m c HM1.out
  rwa [headAddr, HM3.out] at h

/-- The worlds of Has. -/
structure HasW (w0 : World) (p : Option Addr) (d : Array Id20) (x : Id20) (w : World) : Prop where
  row : IdRow w p d
  box : Row w ⟨w0.heap.size, 0, none⟩ (bytesV x.1)
  bel : Below w0.heap.size w0 w
theorem HasW.drew {w0 w : World} {p : Option Addr} {d : Array Id20} {x : Id20} (h : HasW w0 p d x w) : HasW w0 p d x w.drew := ⟨⟨h.row.none_, h.row.row⟩, h.box, below_drewN h.bel 1⟩

set_option maxRecDepth 100000 in
set_option maxHeartbeats 4000000 in
theorem ref04_Has (p : Option Addr) (d : Array Id20) (cap : Nat) (x : Id20) (w : World) (hp : IdRow w p d) (hpb : ∀ a, p = some a → a.block < w.heap.size) (hn : d.size < 500000) :
    Calls Try.prog 81 #[.slice p d.size cap, .agg (bytesV x.1).toArray] w fun e w' => e = .returned (.bool (decide (x ∈ d.toList))) ∧ Below w.heap.size w w' := by
  have sx := bytes_size x.2
  have HG : Hid (∀ x : Id20, IsAgg Try.prog 57 (bytesV x.1).length) := Lib.hid (fun x => by rw [bytes_len x.2]; exact aggR3)
  have hb1 : Below w.heap.size w (w.alloc (.cells (bytesV x.1).toArray 57)) := (Below.refl _ _).alloc (Nat.le_refl _) _
  have HW : Hid (HasW w p d x (w.alloc (.cells (bytesV x.1).toArray 57))) := Lib.hid ⟨hp.below hb1 hpb, Row.of_block (heap_alloc_new _ _), hb1⟩
  clear hp hpb hb1
  go_enter Try.func81, Try.ntmps81
  go_wp2_with fail
  go_loopw [5] (fun s5 wr => ∃ k : Nat, s5 = .int .i64 k ∧ k ≤ d.size ∧ Hid (HasW w p d x wr) ∧ Hid (∀ j, j < k → d[j]! ≠ x)) (fun s5 _ => d.size - (intOf s5).toNat)
  case atStart => exact ⟨0, rfl, Nat.zero_le _, HW, Lib.hid (fun j hj => by omega)⟩
  case round =>
    clear HW
    obtain ⟨k, rfl, hk, HW, HN⟩ := hrel
    by_cases hlt : k < d.size
    · obtain ⟨ad, rfl⟩ := HW.out.row.some_of (by omega)
      obtain ⟨y, hy⟩ : ∃ y, d[k]! = y := ⟨_, rfl⟩
      have HY := Lib.hid hy
      have hk1 : (k : Int) < (d.size : Int) := by omega
      have hq : ∀ w, (binOp .eql 57 (.agg (bytesV y.1).toArray) (.agg (bytesV x.1).toArray)).run Try.prog w = .ok (.bool (decide (y.1 = x.1))) w := fun w =>
        (info_parts infoByte).elim fun _ hi => eql_bytes w 20 Try.underlying57 Try.underlying5 plainByte cellsByte hi.1 y.1 x.1 y.2 x.2
      clear hy
      by_cases hxy : y = x
      · subst hxy
        rw [decide_eq_true rfl] at hq
        go_wp2_with fail
        refine wp_region_QL (HasW w (some ad) d y) (by kernel_rfl) (by kernel_rfl) HW.out.drew ?_
        repeat (first
          | (refine QL.load (o := ⟨some 15, _, _, _, _, _⟩) (by rfl) _ _ rfl _ rfl (bytesV y.1) (fun w h => h.row.atx hlt HY.out) (HG.out _) ?_)
          | (refine QL.load (o := ⟨some 16, _, _, _, _, _⟩) (by rfl) _ _ rfl _ rfl (bytesV y.1) (fun w h => h.box) (HG.out _) ?_)
          | (refine QL.step (fun K hK => ?_); go_simp
             first
               | (refine hK _ ?_; clear hK K)
               | (apply Exists.intro
                  refine ⟨fun w hw => ?_, hK _ ?_⟩
                  first
                    | with_reducible rfl
                  clear hK K)))
        refine QL.nil ?_
        intro w7 hC7
        clear HW
        have HW := Lib.hid hC7
        clear hC7
        go_wp2_with fail
        go_ret
        have hm : y ∈ d.toList := by
          rw [← HY.out, getElem!_pos _ k hlt]
          simp
        exact ⟨by simpa using hm, HW.out.bel⟩
      · have HXY : Hid (y ≠ x) := Lib.hid hxy
        rw [decide_eq_false (fun e => hxy (Subtype.ext e))] at hq
        clear hxy
        go_wp2_with fail
        refine wp_region_QL (HasW w (some ad) d x) (by kernel_rfl) (by kernel_rfl) HW.out.drew ?_
        repeat (first
          | (refine QL.load (o := ⟨some 15, _, _, _, _, _⟩) (by rfl) _ _ rfl _ rfl (bytesV y.1) (fun w h => h.row.atx hlt HY.out) (HG.out _) ?_)
          | (refine QL.load (o := ⟨some 16, _, _, _, _, _⟩) (by rfl) _ _ rfl _ rfl (bytesV x.1) (fun w h => h.box) (HG.out _) ?_)
          | (refine QL.step (fun K hK => ?_); go_simp
             first
               | (refine hK _ ?_; clear hK K)
               | (apply Exists.intro
                  refine ⟨fun w hw => ?_, hK _ ?_⟩
                  first
                    | with_reducible rfl
                  clear hK K)))
        refine QL.nil ?_
        intro w7 hC7
        clear HW
        have HW := Lib.hid hC7
        clear hC7
        go_wp2_with fail
        go_roundw
        case rel =>
          refine ⟨k + 1, by go_num, by omega, HW, Lib.hid (fun j hj => ?_)⟩
          by_cases e : j = k
          · rw [e, HY.out]; exact HXY.out
          · exact HN.out j (by omega)
        case measure => simp [intOf]; omega
    · have hk2 : k = d.size := by omega
      subst hk2
      go_wp2_with fail
      go_ret
      have hm : ¬ x ∈ d.toList := by
        intro h
        obtain ⟨i, hi, e⟩ := List.mem_iff_getElem.1 h
        have hi' : i < d.size := by simpa using hi
        exact absurd (by rw [getElem!_pos _ i hi']; simpa using e) (HN.out i hi')
      exact ⟨by simpa using hm, HW.out.bel⟩
end Go.Proofs.Ytjdmbegmbffhfaa

/-
  The reference's Insert. Conditions: the ids are of twenty bytes; fewer than half a million of them.
-/
namespace Go.Proofs.Ytjdmbegmbffhfaa
open Go.RowKit Go.Sort Go.Lib

def opsJ : List Oper := [{ dst := some 11, op := Op.load 57 (Operand.tmp 4), type := 57, pos := "ref.go:55", after := #[], guard := none }, { dst := some 12, op := Op.buildSlice 79 0 #[], type := 79, pos := "ref.go:55", after := #[], guard := none }, { dst := some 13, op := Op.move (Operand.tmp 1), type := 79, pos := "ref.go:55", after := #[], guard := none }, { dst := some 14, op := Op.call { callee := Callee.builtin Builtin.append, args := #[Operand.tmp 12, Operand.tmp 13], argTypes := #[79, 79] }, type := 79, pos := "ref.go:55", after := #[{ on := 1, ground := Ground.data }, { on := 2, ground := Ground.data }], guard := none }, { dst := some 15, op := Op.load 57 (Operand.tmp 6), type := 57, pos := "ref.go:55", after := #[], guard := none }, { dst := some 16, op := Op.buildSlice 79 1 #[(0, Operand.tmp 15)], type := 79, pos := "ref.go:55", after := #[{ on := 4, ground := Ground.data }], guard := none }, { dst := some 17, op := Op.call { callee := Callee.builtin Builtin.append, args := #[Operand.tmp 14, Operand.tmp 16], argTypes := #[79, 79] }, type := 79, pos := "ref.go:55", after := #[{ on := 3, ground := Ground.data }, { on := 5, ground := Ground.data }, { on := 3, ground := Ground.chain }], guard := none }, { dst := some 18, op := Op.move (Operand.tmp 3), type := 3, pos := "ref.go:55", after := #[], guard := none }, { dst := some 19, op := Op.call { callee := Callee.value (Operand.func 56), args := #[Operand.tmp 11, Operand.tmp 17, Operand.tmp 18], argTypes := #[57, 79, 3] }, type := 79, pos := "ref.go:55", after := #[{ on := 0, ground := Ground.data }, { on := 6, ground := Ground.data }, { on := 7, ground := Ground.data }, { on := 6, ground := Ground.chain }], guard := none }, { dst := some 10, op := Op.assign (Operand.tmp 19), type := 79, pos := "ref.go:55", after := #[{ on := 8, ground := Ground.data }, { on := 8, ground := Ground.chain }, { on := 0, ground := Ground.phase }, { on := 1, ground := Ground.phase }, { on := 2, ground := Ground.phase }, { on := 3, ground := Ground.phase }, { on := 4, ground := Ground.phase }, { on := 5, ground := Ground.phase }, { on := 6, ground := Ground.phase }, { on := 7, ground := Ground.phase }, { on := 8, ground := Ground.phase }], guard := none }]
def usesJ : Nat → List Nat
  | 3 => [1, 2] | 5 => [4] | 6 => [3, 5] | 8 => [0, 6, 7] | 9 => [8] | _ => []
def ancJ : Nat → List Nat
  | 3 => [1, 2] | 5 => [4] | 6 => [3, 5, 1, 2, 4] | 8 => [0, 6, 7, 3, 5, 1, 2, 4] | 9 => [0, 1, 2, 3, 4, 5, 6, 7, 8] | _ => []
def finJ : Nat → Bool := fun i => i == 9
/-- What each operation yields. -/
def phiJ (W : World) (p : Option Addr) (cap : Nat) (t : List UInt8) (d : Array Id20) (x : Id20) (L : List Id20) (most : Int) : Nat → Value → World → Prop
  | 0 => fun v _ => v = .agg (bytesV t).toArray
  | 1 => fun v w => (∃ g, v = .slice (some ⟨g, 0, none⟩) 0 0) ∧ OwnIds 57 w W.heap.size v #[]
  | 2 => fun v _ => v = .slice p d.size cap
  | 3 => fun v w => OwnIds 57 w W.heap.size v d
  | 4 => fun v _ => v = .agg (bytesV x.1).toArray
  | 5 => fun v w => ∃ g, v = .slice (some ⟨g, 0, none⟩) 1 1 ∧ IdRow w (some ⟨g, 0, none⟩) #[x] ∧ g < w.heap.size
  | 6 => fun v w => OwnIds 57 w W.heap.size v (d ++ #[x])
  | 7 => fun v _ => v = .int .i64 most
  | _ => fun v w => ∃ q c, v = .slice q L.length c ∧ IdRow w q L.toArray ∧ ∀ a, q = some a → a.block < w.heap.size
def laterJ (W : World) : Nat → World → World → Prop := fun j w w' => Below W.heap.size w w' ∧ (j ≠ 6 → Below w.heap.size w w')
theorem needJb : ((List.range 10).all fun k => (List.range 10).all fun i => !(k != i && needB 10 usesJ ancJ finJ k i) || (i != 6 || (k == 0 || k == 7))) = true := by decide +kernel
theorem needJ (k : Nat) (hk : k < 10) (i : Nat) (hi : i < 10) (hne : k ≠ i) (h : needB 10 usesJ ancJ finJ k i = true) : i ≠ 6 ∨ k = 0 ∨ k = 7 := by
  have h1 := List.all_eq_true.1 (List.all_eq_true.1 needJb k (List.mem_range.2 hk)) i (List.mem_range.2 hi)
  rw [h] at h1
  simpa [hne] using h1
theorem agreeJ (t i : Nat) (k : Nat) (ok : Oper) (hk : opsJ[k]? = some ok) (hd : ok.dst = some t) (h : opsJ.all (fun o => o.dst != some t || (depsOf o).contains i) = true) : i ∈ depsOf ok := by
  have h1 := List.all_eq_true.1 h ok (List.mem_of_getElem? hk)
  rw [hd] at h1
  simpa using h1

set_option maxRecDepth 100000 in
set_option maxHeartbeats 2000000 in
theorem regionJ {id : Nat} {Q : Exit → Act → World → Prop} {a0 : Act} {W : World} (t : List UInt8) (ht : t.length = 20) (x : Id20) (p : Option Addr) (d : Array Id20) (cap : Nat) (most : Int) (b4 b6 : Nat)
    (e1 : a0.eval (.tmp 1) = .slice p d.size cap) (e3 : a0.eval (.tmp 3) = .int .i64 most) (e4 : a0.eval (.tmp 4) = .pointer (some ⟨b4, 0, none⟩)) (e6 : a0.eval (.tmp 6) = .pointer (some ⟨b6, 0, none⟩)) (hsz : a0.tmps.size = 30)
    (h4 : Row W ⟨b4, 0, none⟩ (bytesV t)) (h6 : Row W ⟨b6, 0, none⟩ (bytesV x.1)) (l4 : b4 < W.heap.size) (l6 : b6 < W.heap.size) (hp : IdRow W p d) (hpb : ∀ a, p = some a → a.block < W.heap.size) (hd : d.size < 499980)
    (hK : ∀ (vs : Nat → Value) (w' : World), Below W.heap.size W w' → (∃ q c, vs 9 = .slice q (withOne t d x most).length c ∧ IdRow w' q (withOne t d x most).toArray ∧ ∀ a, q = some a → a.block < w'.heap.size) → Q .normal (putList opsJ 0 vs a0) w') :
    (Code.region id opsJ.toArray true).wp Try.prog Q a0 W := by
  have hsz10 : opsJ.length = 10 := rfl
  have haT : IsAgg Try.prog 57 (bytesV t).length := by rw [bytes_len ht]; exact aggR3
  have haX : IsAgg Try.prog 57 (bytesV x.1).length := by rw [bytes_len x.2]; exact aggR3
  refine wp_region_assert usesJ ancJ finJ (fun w => Below W.heap.size W w) (laterJ W) (phiJ W p cap t d x (withOne t d x most) most) (by kernel_rfl) (by rw [hsz]; decide +kernel) (by decide +kernel) (below_drewN (Below.refl _ _) 1) (fun j w w' h hL => h.trans hL.1) ?_ ?_ ?_
  · intro k' i hk' hi hne hneed v w w' hC h hL
    rw [hsz10] at hk' hi hneed
    rcases needJ k' hk' i hi hne hneed with h5 | rfl | rfl
    · have hb := hL.2 h5
      have hq : ∀ v : Value, (∃ q c, v = .slice q (withOne t d x most).length c ∧ IdRow w q (withOne t d x most).toArray ∧ ∀ a, q = some a → a.block < w.heap.size) → ∃ q c, v = .slice q (withOne t d x most).length c ∧ IdRow w' q (withOne t d x most).toArray ∧ ∀ a, q = some a → a.block < w'.heap.size := by
        rintro v ⟨q, c, h1, h2, h3⟩
        exact ⟨q, c, h1, h2.below hb h3, fun a ha => Nat.lt_of_lt_of_le (h3 a ha) hb.size⟩
      match k', hk' with
      | 0, _ => exact h
      | 1, _ => exact ⟨h.1, h.2.below hb⟩
      | 2, _ => exact h
      | 3, _ => exact OwnIds.below h hb
      | 4, _ => exact h
      | 5, _ => obtain ⟨g, h1, h2, h3⟩ := h; exact ⟨g, h1, h2.below hb (fun a ha => by obtain rfl := Option.some.inj ha; exact h3), Nat.lt_of_lt_of_le h3 hb.size⟩
      | 6, _ => exact OwnIds.below h hb
      | 7, _ => exact h
      | 8, _ => exact hq v h
      | 9, _ => exact hq v h
      | m + 10, hm => exact absurd hm (by omega)
    · exact h
    · exact h
  · have hLr : ∀ i w, laterJ W i w w := fun i w => ⟨Below.refl _ _, fun _ => Below.refl _ _⟩
    have hLb : ∀ i w w', Below W.heap.size W w → Below w.heap.size w w' → laterJ W i w w' := fun i w w' hC hb => ⟨hb.mono hC.size, fun _ => hb⟩
    refine ⟨?_, ?_, ?_, ?_, ?_, ?_, ?_, ?_, ?_, ?_, trivial⟩
    · -- t
      intro a w hC hag hdp K hKK
      exact wp_load_agg _ _ rfl ⟨b4, 0, none⟩ ((hag 4 (fun k ok hk hd => agreeJ 4 _ k ok hk hd (by decide +kernel))).trans e4) (bytesV t) (h4.below hC l4) haT (hKK _ _ rfl (hLr _ _))
    · -- []ID{}
      intro a w hC hag hdp K hKK
      have hb : Below w.heap.size w (w.alloc (.cells #[] 57)) := (Below.refl _ _).alloc (Nat.le_refl _) _
      unfold Oper.wp
      rw [exec_empty idTyR rfl]
      refine hKK _ _ ⟨⟨_, rfl⟩, ?_⟩ (hLb _ _ _ hC hb)
      exact ⟨by rw [idsV_len], Or.inr ⟨w.heap.size, 0, #[], rfl, hC.size, heap_alloc_new _ _, Nat.le_refl _, by simp [maxLen], rfl, by rw [idsV_nil]; rfl⟩⟩
    · -- l
      refine OpOK.value (hLr _) fun a w hC hag hdp => ⟨_, exec_move _ rfl, ?_⟩
      show a.eval (.tmp 1) = _
      rw [hag 1 (fun k ok hk hd => agreeJ 1 _ k ok hk hd (by decide +kernel)), e1]
    · -- append(.., l)
      intro a w hC hag hdp K hKK
      obtain ⟨vp, hp, tp⟩ := hdp 1 (by decide) _ rfl
      have up := tp 12 rfl
      obtain ⟨vr, hr, tr⟩ := hdp 2 (by decide) _ rfl
      have ur := tr 13 rfl
      obtain ⟨⟨g, hg⟩, ho⟩ := hp
      have hr' : vr = .slice p d.size cap := hr
      refine wp_append_ids idTyR (.tmp 12) (.tmp 13) rfl W.heap.size vp #[] d up ho p cap (by rw [show a.eval (.tmp 13) = vr from ur, hr']) (IdRow.below ‹IdRow W p d› hC hpb) (by simp; omega) hC.size ?_
      intro v' w' h1 h2 h3
      have h1' : OwnIds 57 w' W.heap.size v' d := by simpa using h1
      refine hKK v' w' h1' ⟨h2, fun _ => h3 fun g' cap' hv => ?_⟩
      rw [hg] at hv
      injection hv with _ _ h5
      exact h5.symm
    · -- id
      intro a w hC hag hdp K hKK
      exact wp_load_agg _ _ rfl ⟨b6, 0, none⟩ ((hag 6 (fun k ok hk hd => agreeJ 6 _ k ok hk hd (by decide +kernel))).trans e6) (bytesV x.1) (h6.below hC l6) haX (hKK _ _ rfl (hLr _ _))
    · -- []ID{id}
      intro a w hC hag hdp K hKK
      obtain ⟨vp, hp, tp⟩ := hdp 4 (by decide) _ rfl
      have up := tp 15 rfl
      have hb : Below w.heap.size w (w.alloc (.cells (idsV #[x]) 57)) := (Below.refl _ _).alloc (Nat.le_refl _) _
      refine wp_build_one idTyR _ rfl x (up.trans hp) (hKK _ _ ⟨_, rfl, ⟨(fun h => by cases h), fun b hb' => ?_⟩, by simp⟩ (hLb _ _ _ hC hb))
      obtain rfl := Option.some.inj hb'
      exact Row.of_block (heap_alloc_new _ _)
    · -- append(.., id)
      intro a w hC hag hdp K hKK
      obtain ⟨vp, hp, tp⟩ := hdp 3 (by decide) _ rfl
      have up := tp 14 rfl
      obtain ⟨vr, hr, tr⟩ := hdp 5 (by decide) _ rfl
      have ur := tr 16 rfl
      obtain ⟨g, hg1, hg2, hg3⟩ := hr
      refine wp_append_ids idTyR (.tmp 14) (.tmp 16) rfl W.heap.size vp d #[x] up hp (some ⟨g, 0, none⟩) 1 (by rw [show a.eval (.tmp 16) = vr from ur, hg1]; rfl) hg2 (by simp; omega) hC.size ?_
      intro v' w' h1 h2 _
      exact hKK v' w' h1 ⟨h2, fun h => absurd rfl h⟩
    · -- most
      refine OpOK.value (hLr _) fun a w hC hag hdp => ⟨_, exec_move _ rfl, ?_⟩
      show a.eval (.tmp 3) = _
      rw [hag 3 (fun k ok hk hd => agreeJ 3 _ k ok hk hd (by decide +kernel)), e3]
    · -- Least
      intro a w hC hag hdp K hKK
      obtain ⟨vp, hp, tp⟩ := hdp 0 (by decide) _ rfl
      have up := tp 11 rfl
      obtain ⟨vr, hr, tr⟩ := hdp 6 (by decide) _ rfl
      have ur := tr 17 rfl
      obtain ⟨vs, hs, ts⟩ := hdp 7 (by decide) _ rfl
      have us := ts 18 rfl
      have hr' : OwnIds 57 w W.heap.size vr (d ++ #[x]) := hr
      obtain ⟨q, c, hv, hrow, _, hqb, _, _⟩ := hr'.form
      refine wp_call 56 _ _ rfl (enters_of Try.func56 (by kernel_rfl) rfl) ?_
      have e : (#[Operand.tmp 11, Operand.tmp 17, Operand.tmp 18].map a.eval) = #[.agg (bytesV t).toArray, .slice q (d ++ #[x]).size c, .int .i64 most] := by
        rw [show (#[Operand.tmp 11, Operand.tmp 17, Operand.tmp 18].map a.eval) = #[a.eval (.tmp 11), a.eval (.tmp 17), a.eval (.tmp 18)] from by simp, up, ur, us, show vp = _ from hp, hv, show vs = _ from hs]
      rw [e]
      refine (ref04_Least t ht q (d ++ #[x]) c most w hrow (fun a ha => (hqb a ha).2) (by simp; omega)).mono ?_
      rintro e' w' ⟨q', c', rfl, h1, h2, hb⟩
      exact ⟨_, rfl, hKK _ _ ⟨q', c', rfl, h1, h2⟩ (hLb _ _ _ hC hb)⟩
    · -- out =
      refine OpOK.value (hLr _) fun a w hC hag hdp => ?_
      obtain ⟨vp, hp, tp⟩ := hdp 8 (by decide) _ rfl
      have up := tp 19 rfl
      exact ⟨_, exec_assign _ rfl, by rw [up]; exact hp⟩
  · intro vs w' hC hf
    exact hK vs w' hC (hf 9 (by rw [hsz10]; decide) rfl)

set_option maxRecDepth 100000 in
set_option maxHeartbeats 4000000 in
theorem ref04_Insert (t : List UInt8) (ht : t.length = 20) (x : Id20) (p : Option Addr) (d : Array Id20) (cap : Nat) (most : Int) (w : World) (hp : IdRow w p d) (hpb : ∀ a, p = some a → a.block < w.heap.size) (hd : d.size < 499980) :
    Calls Try.prog 51 #[.agg (bytesV t).toArray, .slice p d.size cap, .agg (bytesV x.1).toArray, .int .i64 most] w fun e w' =>
      ∃ q c, e = .returned (.tuple #[.slice q (withOne t d x most).length c, .bool (decide (x ∈ withOne t d x most) && !decide (x ∈ d.toList))]) ∧ IdRow w' q (withOne t d x most).toArray ∧ (∀ a, q = some a → a.block < w'.heap.size) ∧ Below w.heap.size w w' := by
  have st := bytes_size ht
  have sx := bytes_size x.2
  have HG : Hid (IsAgg Try.prog 57 (bytesV x.1).length) := Lib.hid (by rw [bytes_len x.2]; exact aggR3)
  have hb2 : Below w.heap.size w ((w.alloc (.cells (bytesV t).toArray 57)).alloc (.cells (bytesV x.1).toArray 57)) := ((Below.refl _ _).alloc (Nat.le_refl _) _).alloc (by simp) _
  have HB := Lib.hid hb2
  have HP := Lib.hid (hp.below hb2 hpb)
  have HPB : Hid (∀ a, p = some a → a.block < ((w.alloc (.cells (bytesV t).toArray 57)).alloc (.cells (bytesV x.1).toArray 57)).heap.size) := Lib.hid (fun a ha => Nat.lt_of_lt_of_le (hpb a ha) hb2.size)
  have h4 : Hid (Row ((w.alloc (.cells (bytesV t).toArray 57)).alloc (.cells (bytesV x.1).toArray 57)) ⟨w.heap.size, 0, none⟩ (bytesV t)) := Lib.hid (BB.row (T := 57) (BB.alloc (l := t) (heap_alloc_new _ _) _))
  have h6 : Hid (Row ((w.alloc (.cells (bytesV t).toArray 57)).alloc (.cells (bytesV x.1).toArray 57)) ⟨w.heap.size + 1, 0, none⟩ (bytesV x.1)) := Lib.hid (BB.row (T := 57) (heap_alloc2_new _ _ _))
  have hs2 : Hid (((w.alloc (.cells (bytesV t).toArray 57)).alloc (.cells (bytesV x.1).toArray 57)).heap.size = w.heap.size + 1 + 1) := Lib.hid (by simp)
  have HN := Lib.hid hd
  obtain ⟨L, hL⟩ : ∃ L, withOne t d x most = L := ⟨_, rfl⟩
  rw [hL]
  have HL0 := Lib.hid hL
  clear hp hpb hb2 hL
  go_enter Try.func51, Try.ntmps51
  go_wp2_with fail
  generalize ((w.alloc (.cells (bytesV t).toArray 57)).alloc (.cells (bytesV x.1).toArray 57)) = W at *
  refine regionJ t ht x p d cap most w.heap.size (w.heap.size + 1) rfl rfl rfl rfl rfl h4.out h6.out (by rw [hs2.out]; omega) (by rw [hs2.out]; omega) HP.out HPB.out hd ?_
  intro vs w7 hb7 ho7
  have hL := HL0.out
  rw [hL] at ho7
  obtain ⟨q, c, hv, hrow, hqb⟩ := ho7
  have hLs : L.toArray.size = L.length := by simp
  have hLn : L.length < 500000 := by
    rw [← hL]
    unfold withOne
    have := nearD_length t (d ++ #[x])
    simp at this ⊢
    omega
  have HV : Hid (vs 9 = .slice q L.length c) := Lib.hid hv
  have HQ := Lib.hid hqb
  have HR := Lib.hid hrow
  have HB7 : Hid (Below w.heap.size w w7) := Lib.hid (HB.out.trans (hb7.mono HB.out.size))
  have HP7 := Lib.hid (HP.out.below hb7 HPB.out)
  have HPB7 : Hid (∀ a, p = some a → a.block < w7.heap.size) := Lib.hid (fun a ha => Nat.lt_of_lt_of_le (HPB.out a ha) hb7.size)
  have h67 : Hid (Row w7 ⟨w.heap.size + 1, 0, none⟩ (bytesV x.1)) := Lib.hid (h6.out.below hb7 (by show w.heap.size + 1 < _; rw [hs2.out]; omega))
  have h6b : Hid (w.heap.size + 1 < w7.heap.size) := Lib.hid (by have := hs2.out; have := hb7.size; omega)
  have HC1 := Lib.hid (ref04_Has q L.toArray c x w7 hrow hqb (by rw [hLs]; exact hLn))
  rw [hLs] at HC1
  clear hv hrow hqb hb7 hL hLs hLn HB HP HPB h4 h6 hs2
  simp only [putList, opsJ]
  rw [HV.out]
  go_wp2_with ((with_reducible show wpList _ _ _ (⟨some 22, _, _, _, _, _⟩ :: _) _ _); refine wpList_load_agg (o := ⟨some 22, _, _, _, _, _⟩) rfl _ (.tmp 6) rfl _ rfl (bytesV x.1) h67.out HG.out ?_)
  refine HC1.out.mono ?_
  rintro e w8 ⟨rfl, hb8⟩
  have h68 : Hid (Row w8 ⟨w.heap.size + 1, 0, none⟩ (bytesV x.1)) := Lib.hid (h67.out.below hb8 h6b.out)
  have HC2 := Lib.hid (ref04_Has p d cap x w8 (HP7.out.below hb8 HPB7.out) (fun a ha => Nat.lt_of_lt_of_le (HPB7.out a ha) hb8.size) (by have := HN.out; omega))
  have HR8 := Lib.hid (HR.out.below hb8 HQ.out)
  have HQ8 : Hid (∀ a, q = some a → a.block < w8.heap.size) := Lib.hid (fun a ha => Nat.lt_of_lt_of_le (HQ.out a ha) hb8.size)
  have HB8 : Hid (Below w.heap.size w w8) := Lib.hid (HB7.out.trans (hb8.mono HB7.out.size))
  clear hb8 h67 h6b HP7 HPB7 HC1 HB7 HR HQ
  by_cases hx : x ∈ L
  · rw [decide_eq_true hx]
    have HX := Lib.hid hx
    clear hx
    go_wp2_with ((with_reducible show wpList _ _ _ (⟨some 26, _, _, _, _, _⟩ :: _) _ _); refine wpList_load_guardI (o := ⟨some 26, _, _, _, _, _⟩) (by rfl) _ (.tmp 6) rfl _ rfl (bytesV x.1) h68.out HG.out ?_)
    refine HC2.out.mono ?_
    rintro e w9 ⟨rfl, hb9⟩
    have HR9 := Lib.hid (HR8.out.below hb9 HQ8.out)
    have HQ9 : Hid (∀ a, q = some a → a.block < w9.heap.size) := Lib.hid (fun a ha => Nat.lt_of_lt_of_le (HQ8.out a ha) hb9.size)
    have HB9 : Hid (Below w.heap.size w w9) := Lib.hid (HB8.out.trans (hb9.mono HB8.out.size))
    clear hb9 HR8 HQ8 HB8 HC2
    obtain ⟨b, hb⟩ : ∃ b, decide (x ∈ d.toList) = b := ⟨_, rfl⟩
    rw [hb]
    have HBB := Lib.hid hb
    clear hb
    cases b
    all_goals
      go_wp2_with fail
      go_ret2
      exact ⟨q, c, by rw [decide_eq_true HX.out, HBB.out]; rfl, HR9.out, HQ9.out, HB9.out⟩
  · rw [decide_eq_false hx]
    have HX : Hid (¬ x ∈ L) := Lib.hid hx
    clear hx
    go_wp2_with fail
    go_ret2
    exact ⟨q, c, by rw [decide_eq_false HX.out]; rfl, HR8.out, HQ8.out, HB8.out⟩
end Go.Proofs.Ytjdmbegmbffhfaa

/-
  The reference's Rank, and same. Conditions: the ids are of twenty bytes; fewer than half a million of them.
-/
namespace Go.Proofs.Ytjdmbegmbffhfaa
open Go.RowKit Go.Sort Go.Lib

/-- How many of the first k are nearer. -/
def cntB (t x : List UInt8) (l : List Id20) (k : Nat) : Nat := (l.take k).countP fun y => decide (farC t y.1 x < 0)
theorem cntB_le (t x : List UInt8) (l : List Id20) (k : Nat) : cntB t x l k ≤ k := Nat.le_trans List.countP_le_length (by simp; omega)
theorem cntB_succ (t x : List UInt8) (l : List Id20) (k : Nat) (y : Id20) (h : l[k]? = some y) : cntB t x l (k + 1) = cntB t x l k + (if farC t y.1 x < 0 then 1 else 0) := by
  unfold cntB
  rw [List.take_add_one, h, List.countP_append]
  simp [List.countP_cons]
/-- It is the rank. -/
theorem cntB_rank (t : List UInt8) (l : List Id20) (x : Id20) (n : Nat) (h : RankIs t l x n) : ∀ k, k ≤ l.length → cntB t x.1 l k = min k n
  | 0, _ => by simp [cntB]
  | k + 1, hk => by
    obtain ⟨h1, h2, h3⟩ := h
    have hy : l[k]? = some l[k] := List.getElem?_eq_getElem (by omega)
    have he : l.toArray[k]! = l[k] := by rw [getElem!_pos _ k (by simp; omega)]; simp
    rw [cntB_succ t x.1 l k _ hy, cntB_rank t l x n ⟨h1, h2, h3⟩ k (by omega)]
    by_cases hkn : k < n
    · have := h2 k hkn
      rw [he] at this
      rw [if_pos this]; omega
    · have := h3 k (by omega) (by omega)
      rw [he] at this
      rw [if_neg (by omega)]; omega

/-- The worlds of Rank. -/
structure RkW (w0 : World) (t x : List UInt8) (q : Option Addr) (l : List Id20) (w : World) : Prop where
  tb : Row w ⟨w0.heap.size, 0, none⟩ (bytesV t)
  xb : Row w ⟨w0.heap.size + 1, 0, none⟩ (bytesV x)
  lo : w0.heap.size + 1 < w.heap.size
  row : IdRow w q l.toArray
  rowb : ∀ a, q = some a → a.block < w.heap.size
  bel : Below w0.heap.size w0 w
theorem RkW.below {w0 w w' : World} {t x : List UInt8} {q : Option Addr} {l : List Id20} (h : RkW w0 t x q l w) (hb : Below w.heap.size w w') : RkW w0 t x q l w' :=
  ⟨h.tb.below hb (Nat.lt_of_succ_lt h.lo), h.xb.below hb h.lo, Nat.lt_of_lt_of_le h.lo hb.size, h.row.below hb h.rowb, fun a ha => Nat.lt_of_lt_of_le (h.rowb a ha) hb.size, h.bel.trans (hb.mono h.bel.size)⟩
theorem RkW.drew {w0 w : World} {t x : List UInt8} {q : Option Addr} {l : List Id20} (h : RkW w0 t x q l w) : RkW w0 t x q l w.drew := ⟨h.tb, h.xb, h.lo, ⟨h.row.none_, h.row.row⟩, h.rowb, below_drewN h.bel 1⟩

set_option maxRecDepth 100000 in
set_option maxHeartbeats 8000000 in
theorem ref04_Rank (t : List UInt8) (ht : t.length = 20) (x : Id20) (p : Option Addr) (d : Array Id20) (cap : Nat) (w : World) (hp : IdRow w p d) (hpb : ∀ a, p = some a → a.block < w.heap.size) (hn : d.size < 499990) :
    Calls Try.prog 58 #[.agg (bytesV t).toArray, .agg (bytesV x.1).toArray, .slice p d.size cap] w fun e w' => e = .returned (.int .i64 (cntB t x.1 (nearD t d) (nearD t d).length : Nat)) ∧ Below w.heap.size w w' := by
  have st := bytes_size ht
  have sx := bytes_size x.2
  have haT : Hid (IsAgg Try.prog 57 (bytesV t).length) := Lib.hid (by rw [bytes_len ht]; exact aggR3)
  have HG : Hid (∀ x : Id20, IsAgg Try.prog 57 (bytesV x.1).length) := Lib.hid (fun x => by rw [bytes_len x.2]; exact aggR3)
  have hb2 : Below w.heap.size w ((w.alloc (.cells (bytesV t).toArray 57)).alloc (.cells (bytesV x.1).toArray 57)) := ((Below.refl _ _).alloc (Nat.le_refl _) _).alloc (by simp) _
  have h3 : Hid (Row ((w.alloc (.cells (bytesV t).toArray 57)).alloc (.cells (bytesV x.1).toArray 57)) ⟨w.heap.size, 0, none⟩ (bytesV t)) := Lib.hid (BB.row (T := 57) (BB.alloc (l := t) (heap_alloc_new _ _) _))
  have h4 : Hid (Row ((w.alloc (.cells (bytesV t).toArray 57)).alloc (.cells (bytesV x.1).toArray 57)) ⟨w.heap.size + 1, 0, none⟩ (bytesV x.1)) := Lib.hid (BB.row (T := 57) (heap_alloc2_new _ _ _))
  have hs2 : Hid (((w.alloc (.cells (bytesV t).toArray 57)).alloc (.cells (bytesV x.1).toArray 57)).heap.size = w.heap.size + 1 + 1) := Lib.hid (by simp)
  have hS := ref04_Sort t ht p d cap _ (hp.below hb2 hpb) (fun a ha => Nat.lt_of_lt_of_le (hpb a ha) hb2.size) hn
  have hdl := nearD_length t d
  obtain ⟨l, hl⟩ : ∃ l, nearD t d = l := ⟨_, rfl⟩
  rw [hl] at hS hdl ⊢
  have HS := Lib.hid hS
  have HB := Lib.hid hb2
  have HTL := Lib.hid ht
  clear hp hpb hS hb2 hl
  go_enter Try.func58, Try.ntmps58
  go_wp2_with ((with_reducible show wpList _ _ _ (⟨some 10, _, _, _, _, _⟩ :: _) _ _); refine wpList_load_agg (o := ⟨some 10, _, _, _, _, _⟩) rfl _ (.tmp 3) rfl _ rfl (bytesV t) h3.out haT.out ?_)
  refine HS.out.mono ?_
  rintro e w1 ⟨v, rfl, ho, hb⟩
  obtain ⟨q, c, hv, hr, _, hq, _, _⟩ := ho.form
  have hls : l.toArray.size = l.length := by simp
  rw [hls] at hv
  subst hv
  have HW : Hid (RkW w t x.1 q l w1) := Lib.hid ⟨h3.out.below hb (by rw [hs2.out]; show w.heap.size < w.heap.size + 1 + 1; omega), h4.out.below hb (by rw [hs2.out]; show w.heap.size + 1 < w.heap.size + 1 + 1; omega), Nat.lt_of_lt_of_le (by rw [hs2.out]; omega) hb.size, hr, fun a ha => (hq a ha).2, HB.out.trans (hb.mono HB.out.size)⟩
  have hl5 : l.length < 499990 := by omega
  clear ho hb hr hq hls h3 h4 hs2 HS HB
  go_wp2_with fail
  go_loopw [7, 9] (fun s7 s9 wr => ∃ k : Nat, s9 = .int .i64 k ∧ k ≤ l.length ∧ s7 = .int .i64 (cntB t x.1 l k : Nat) ∧ Hid (RkW w t x.1 q l wr)) (fun _ s9 _ => l.length - (intOf s9).toNat)
  case atStart => exact ⟨0, rfl, Nat.zero_le _, by simp [cntB], HW⟩
  case round =>
    clear HW
    obtain ⟨k, rfl, hk, rfl, HW⟩ := hrel
    by_cases hlt : k < l.length
    · obtain ⟨y, hy⟩ : ∃ y, l[k]? = some y := ⟨l[k], List.getElem?_eq_getElem hlt⟩
      have HY := Lib.hid hy
      have HYA := Lib.hid (toArray_at' hy)
      obtain ⟨aq, rfl⟩ := HW.out.row.some_of (by simpa using Nat.lt_of_le_of_lt (Nat.zero_le _) hlt)
      have hk1 : (k : Int) < (l.length : Int) := by omega
      have HCM : Hid (∀ w, Calls Try.prog 47 #[.agg (bytesV t).toArray, .agg (bytesV y.1).toArray, .agg (bytesV x.1).toArray] w fun e w' => e = .returned (.int .i64 (farC t y.1 x.1)) ∧ Below w.heap.size w w') := Lib.hid (fun w => ref04_Cmp t y.1 x.1 HTL.out y.2 x.2 w)
      have hC := cntB_succ t x.1 l k y hy
      have hcl := cntB_le t x.1 l k
      obtain ⟨n, hn'⟩ : ∃ n, cntB t x.1 l k = n := ⟨_, rfl⟩
      rw [hn'] at hC hcl ⊢
      have HC := Lib.hid hC
      generalize farC t y.1 x.1 = r at HCM HC
      have hn5 : (n : Int) < 499990 := by omega
      have hk5 : (k : Int) < 499990 := by omega
      clear hy hC hn' hcl
      by_cases hr : r < 0
      · have hrd : decide (r < 0) = true := decide_eq_true hr
        have HR := Lib.hid hr
        clear hr
        go_wp2_with fail
        refine wp_region_QL (RkW w t x.1 (some aq) l) (by kernel_rfl) (by kernel_rfl) HW.out.drew ?_
        repeat (first
          | (refine QL.load (o := ⟨some 19, _, _, _, _, _⟩) (by rfl) _ _ rfl _ rfl (bytesV t) (fun w h => h.tb) haT.out ?_)
          | (refine QL.load (o := ⟨some 23, _, _, _, _, _⟩) (by rfl) _ _ rfl _ rfl (bytesV y.1) (fun w h => h.row.atx HYA.out.1 HYA.out.2) (HG.out _) ?_)
          | (refine QL.load (o := ⟨some 24, _, _, _, _, _⟩) (by rfl) _ _ rfl _ rfl (bytesV x.1) (fun w h => h.xb) (HG.out _) ?_)
          | (refine QL.step (fun K hK => ?_); go_simp
             first
               | (refine hK _ ?_; clear hK K)
               | (apply Exists.intro
                  refine ⟨fun w hw => ?_, hK _ ?_⟩
                  first
                    | with_reducible rfl
                    | (go_at_call 47; refine (HCM.out _).mono ?_; rintro e w' ⟨rfl, hbx⟩; exact ⟨rfl, hw.below hbx⟩)
                  clear hK K)))
        refine QL.nil ?_
        intro w7 hC7
        clear HW
        have HW := Lib.hid hC7
        clear hC7
        go_wp2_with fail
        go_roundw
        case rel => exact ⟨k + 1, by go_num, by omega, by rw [HC.out, if_pos HR.out]; go_num, HW⟩
        case measure => simp [intOf]; omega
      · have hrd : decide (r < 0) = false := decide_eq_false hr
        have HR := Lib.hid hr
        clear hr
        go_wp2_with fail
        refine wp_region_QL (RkW w t x.1 (some aq) l) (by kernel_rfl) (by kernel_rfl) HW.out.drew ?_
        repeat (first
          | (refine QL.load (o := ⟨some 19, _, _, _, _, _⟩) (by rfl) _ _ rfl _ rfl (bytesV t) (fun w h => h.tb) haT.out ?_)
          | (refine QL.load (o := ⟨some 23, _, _, _, _, _⟩) (by rfl) _ _ rfl _ rfl (bytesV y.1) (fun w h => h.row.atx HYA.out.1 HYA.out.2) (HG.out _) ?_)
          | (refine QL.load (o := ⟨some 24, _, _, _, _, _⟩) (by rfl) _ _ rfl _ rfl (bytesV x.1) (fun w h => h.xb) (HG.out _) ?_)
          | (refine QL.step (fun K hK => ?_); go_simp
             first
               | (refine hK _ ?_; clear hK K)
               | (apply Exists.intro
                  refine ⟨fun w hw => ?_, hK _ ?_⟩
                  first
                    | with_reducible rfl
                    | (go_at_call 47; refine (HCM.out _).mono ?_; rintro e w' ⟨rfl, hbx⟩; exact ⟨rfl, hw.below hbx⟩)
                  clear hK K)))
        refine QL.nil ?_
        intro w7 hC7
        clear HW
        have HW := Lib.hid hC7
        clear hC7
        go_wp2_with fail
        go_roundw
        case rel => exact ⟨k + 1, by go_num, by omega, by rw [HC.out, if_neg (by have := HR.out; omega), Nat.add_zero], HW⟩
        case measure => simp [intOf]; omega
    · have hk2 : k = l.length := by omega
      subst hk2
      go_wp2_with fail
      go_ret
      exact ⟨rfl, HW.out.bel⟩

/-- The worlds of same. -/
structure SmW (w0 : World) (pa pb : Option Addr) (d : Array Id20) (w : World) : Prop where
  a : IdRow w pa d
  b : IdRow w pb d
  bel : Below w0.heap.size w0 w
theorem SmW.below {w0 w w' : World} {pa pb : Option Addr} {d : Array Id20} (ha : ∀ a, pa = some a → a.block < w0.heap.size) (hb : ∀ a, pb = some a → a.block < w0.heap.size) (h : SmW w0 pa pb d w) (hw : Below w.heap.size w w') : SmW w0 pa pb d w' :=
  ⟨h.a.below hw (fun a q => Nat.lt_of_lt_of_le (ha a q) h.bel.size), h.b.below hw (fun a q => Nat.lt_of_lt_of_le (hb a q) h.bel.size), h.bel.trans (hw.mono h.bel.size)⟩
structure SmX (w0 : World) (pa pb : Option Addr) (d : Array Id20) (g : Nat) (x : Id20) (w : World) : Prop where
  law : SmW w0 pa pb d w
  box : Row w ⟨g, 0, none⟩ (bytesV x.1)
theorem SmX.drew {w0 w : World} {pa pb : Option Addr} {d : Array Id20} {g : Nat} {x : Id20} (h : SmX w0 pa pb d g x w) : SmX w0 pa pb d g x w.drew := ⟨⟨⟨h.law.a.none_, h.law.a.row⟩, ⟨h.law.b.none_, h.law.b.row⟩, below_drewN h.law.bel 1⟩, h.box⟩

set_option maxRecDepth 100000 in
set_option maxHeartbeats 4000000 in
theorem law_same (pa pb : Option Addr) (d : Array Id20) (ca cb : Nat) (w : World) (ha : IdRow w pa d) (hab : ∀ a, pa = some a → a.block < w.heap.size) (hb : IdRow w pb d) (hbb : ∀ a, pb = some a → a.block < w.heap.size) (hn : d.size < 500000) :
    Calls Try.prog 52 #[.slice pa d.size ca, .slice pb d.size cb] w fun e w' => e = .returned (.bool true) ∧ Below w.heap.size w w' := by
  have HG : Hid (∀ x : Id20, IsAgg Try.prog 32 (bytesV x.1).length) := Lib.hid (fun x => by rw [bytes_len x.2]; exact aggID)
  have HGR : Hid (∀ x : Id20, IsAgg Try.prog 57 (bytesV x.1).length) := Lib.hid (fun x => by rw [bytes_len x.2]; exact aggR3)
  have HW : Hid (SmW w pa pb d w) := Lib.hid ⟨ha, hb, Below.refl _ _⟩
  have HA := Lib.hid hab
  have HBB := Lib.hid hbb
  clear ha hb hab hbb
  go_enter Try.func52, Try.ntmps52
  go_wp2_with fail
  go_loopw [14] (fun s14 wr => ∃ k : Nat, s14 = .int .i64 k ∧ k ≤ d.size ∧ Hid (SmW w pa pb d wr)) (fun s14 _ => d.size - (intOf s14).toNat)
  case atStart => exact ⟨0, rfl, Nat.zero_le _, HW⟩
  case round =>
    clear HW
    obtain ⟨k, rfl, hk, HW⟩ := hrel
    by_cases hlt : k < d.size
    · obtain ⟨aa, rfl⟩ := HW.out.a.some_of (by omega)
      obtain ⟨ab, rfl⟩ := HW.out.b.some_of (by omega)
      obtain ⟨x, hx⟩ : ∃ x, d[k]! = x := ⟨_, rfl⟩
      have HX := Lib.hid hx
      have hkd : (k : Int) < (d.size : Int) := by omega
      have hk5 : (k : Int) < 500000 := by omega
      have hq : ∀ w, (binOp .neq 57 (.agg (bytesV x.1).toArray) (.agg (bytesV x.1).toArray)).run Try.prog w = .ok (.bool false) w := fun w => by
        rw [(info_parts infoByte).elim fun _ hi => neq_bytes w 20 Try.underlying57 Try.underlying5 plainByte cellsByte hi.1 x.1 x.1 x.2 x.2]
        simp
      have hr : Hid (Row wr (aa.add (k * 20)) (bytesV x.1)) := Lib.hid (HW.out.a.atx hlt hx)
      have HV : Hid (SmX w (some aa) (some ab) d wr.heap.size x (wr.alloc (.cells (bytesV x.1).toArray 32))) := Lib.hid ⟨HW.out.below HA.out HBB.out ((Below.refl _ _).alloc (Nat.le_refl _) _), Row.of_block (heap_alloc_new _ _)⟩
      clear hx HW
      go_wp2_with (first
        | ((with_reducible show wpList _ _ _ (⟨some 18, _, _, _, _, _⟩ :: _) _ _); refine wpList_load_agg (o := ⟨some 18, _, _, _, _, _⟩) rfl _ (.tmp 17) rfl _ rfl (bytesV x.1) hr.out (HG.out _) ?_)
        | ((with_reducible show wpList _ _ _ (⟨none, _, _, _, _, _⟩ :: _) _ _); refine wpList_store_new (o := ⟨none, _, _, _, _, _⟩) rfl _ (.tmp 6) (.tmp 18) rfl _ _ rfl (bytesV x.1) rfl 20 (by kernel_rfl) (bytes_len x.2) rfl (bytesV_one _) ?_))
      refine wp_region_QL (SmX w (some aa) (some ab) d wr.heap.size x) (by kernel_rfl) (by kernel_rfl) HV.out.drew ?_
      repeat (first
        | (refine QL.load (o := ⟨some 19, _, _, _, _, _⟩) (by rfl) _ _ rfl _ rfl (bytesV x.1) (fun w h => h.box) (HG.out _) ?_)
        | (refine QL.load (o := ⟨some 23, _, _, _, _, _⟩) (by rfl) _ _ rfl _ rfl (bytesV x.1) (fun w h => h.law.b.atx hlt HX.out) (HGR.out _) ?_)
        | (refine QL.step (fun K hK => ?_); go_simp
           first
             | (refine hK _ ?_; clear hK K)
             | (apply Exists.intro
                refine ⟨fun w hw => ?_, hK _ ?_⟩
                first
                  | with_reducible rfl
                clear hK K)))
      refine QL.nil ?_
      intro w7 hC7
      have HW : Hid (SmW w (some aa) (some ab) d w7) := Lib.hid hC7.law
      clear hC7 HV hr
      go_wp2_with fail
      go_roundw
      case rel => exact ⟨k + 1, by go_num, by omega, HW⟩
      case measure => simp [intOf]; omega
    · have hk2 : k = d.size := by omega
      subst hk2
      go_wp2_with fail
      go_ret
      exact ⟨rfl, HW.out.bel⟩
end Go.Proofs.Ytjdmbegmbffhfaa

/-
  MetricSorts' answer: a region of 43 operations with calls under '&&', whatever order is drawn. Conditions: as the theorem says.
-/
namespace Go.Proofs.Ytjdmbegmbffhfaa
open Go.RowKit Go.Sort Go.Lib

/-- A slice of these ids. -/
def IdsV (w : World) (L : List Id20) (v : Value) : Prop := ∃ q c, v = .slice q L.length c ∧ IdRow w q L.toArray ∧ ∀ a, q = some a → a.block < w.heap.size
theorem IdsV.below {w w' : World} {L : List Id20} {v : Value} (h : IdsV w L v) (hb : Below w.heap.size w w') : IdsV w' L v := by
  obtain ⟨q, c, h1, h2, h3⟩ := h
  exact ⟨q, c, h1, h2.below hb h3, fun a ha => Nat.lt_of_lt_of_le (h3 a ha) hb.size⟩
theorem OwnIds.idsV {T : TypeId} {w : World} {base : Nat} {v : Value} {L : List Id20} (h : OwnIds T w base v L.toArray) : IdsV w L v := by
  obtain ⟨q, c, hv, hr, _, hq, _, _⟩ := h.form
  exact ⟨q, c, by rw [hv]; simp, hr, fun a ha => (hq a ha).2⟩
section
variable (t : List UInt8) (ht : t.length = 20) (x : Id20) (p : Option Addr) (d : Array Id20) (cap : Nat) (n : Int) (w : World) (hp : IdRow w p d) (hpb : ∀ a, p = some a → a.block < w.heap.size) (hd : d.size < 499980)
include ht hp hpb hd
theorem sortV : Calls Try.prog 53 #[.agg (bytesV t).toArray, .slice p d.size cap] w fun e w' => ∃ v, e = .returned v ∧ IdsV w' (nearD t d) v ∧ Below w.heap.size w w' := by
  refine (metric_Sort t ht p d cap w hp hpb (by omega)).mono ?_
  rintro e w' ⟨rfl, hb, hi⟩
  refine ⟨_, rfl, ⟨_, _, rfl, ⟨(fun h => by cases h), fun a ha => ?_⟩, fun a ha => ?_⟩, hb⟩
  · obtain rfl := Option.some.inj ha
    intro j u hj
    refine Row.of_block hi j u ?_
    have e2 : (nearD t d ++ List.replicate (d.size - (nearD t d).length) noId).toArray = (nearD t d).toArray ++ (List.replicate (d.size - (nearD t d).length) noId).toArray := by simp
    rw [e2, idsV_append, List.getElem?_append_left (List.getElem?_eq_some_iff.1 hj).1]
    exact hj
  · obtain rfl := Option.some.inj ha
    exact hi.lt
theorem rsortV : Calls Try.prog 54 #[.agg (bytesV t).toArray, .slice p d.size cap] w fun e w' => ∃ v, e = .returned v ∧ IdsV w' (nearD t d) v ∧ Below w.heap.size w w' := by
  refine (ref04_Sort t ht p d cap w hp hpb (by omega)).mono ?_
  rintro e w' ⟨v, rfl, ho, hb⟩
  exact ⟨v, rfl, ho.idsV, hb⟩
theorem leastV : Calls Try.prog 55 #[.agg (bytesV t).toArray, .slice p d.size cap, .int .i64 n] w fun e w' => ∃ v, e = .returned v ∧ IdsV w' ((nearD t d).take n.toNat) v ∧ Below w.heap.size w w' := by
  refine (metric_Least t ht p d cap n w hp hpb (by omega)).mono ?_
  rintro e w' ⟨v, rfl, ho, hb⟩
  exact ⟨v, rfl, ho.idsV, hb⟩
theorem rleastV : Calls Try.prog 56 #[.agg (bytesV t).toArray, .slice p d.size cap, .int .i64 n] w fun e w' => ∃ v, e = .returned v ∧ IdsV w' ((nearD t d).take n.toNat) v ∧ Below w.heap.size w w' := by
  refine (ref04_Least t ht p d cap n w hp hpb (by omega)).mono ?_
  rintro e w' ⟨q, c, rfl, h1, h2, hb⟩
  exact ⟨_, rfl, ⟨q, c, rfl, h1, h2⟩, hb⟩
theorem rankV : Calls Try.prog 57 #[.agg (bytesV t).toArray, .agg (bytesV x.1).toArray, .slice p d.size cap] w fun e w' => e = .returned (.int .i64 (cntB t x.1 (nearD t d) (nearD t d).length : Nat)) ∧ Below w.heap.size w w' := by
  refine (metric_Rank t ht x p d cap w hp hpb (by omega)).mono ?_
  rintro e w' ⟨m, rfl, hm, hb⟩
  have h := cntB_rank t (nearD t d) x m hm (nearD t d).length (Nat.le_refl _)
  have hm1 := hm.1
  rw [Nat.min_eq_right hm1] at h
  exact ⟨by rw [h], hb⟩
theorem rrankV : Calls Try.prog 58 #[.agg (bytesV t).toArray, .agg (bytesV x.1).toArray, .slice p d.size cap] w fun e w' => e = .returned (.int .i64 (cntB t x.1 (nearD t d) (nearD t d).length : Nat)) ∧ Below w.heap.size w w' :=
  ref04_Rank t ht x p d cap w hp hpb (by omega)
end
theorem sameV {L : List Id20} {va vb : Value} {w : World} (ha : IdsV w L va) (hb : IdsV w L vb) (hl : L.length < 500000) : Calls Try.prog 52 #[va, vb] w fun e w' => e = .returned (.bool true) ∧ Below w.heap.size w w' := by
  obtain ⟨q, c, rfl, h1, h2⟩ := ha
  obtain ⟨q', c', rfl, h3, h4⟩ := hb
  have h := law_same q q' L.toArray c c' w h1 h2 h3 h4 (by simpa using hl)
  simpa using h
theorem exec_pickT {ρ : Operand → Value} {w : World} {o : Oper} (x y z : Operand) (ho : o.op = .pick x y z) (hx : ρ x = .bool true) : (execOp ρ o).run Try.prog w = .ok (.value (ρ y)) w := by simp [execOp, ho, hx, asBool]
theorem exec_eqlI {ρ : Operand → Value} {w : World} {o : Oper} (x y : Operand) (ho : o.op = .binOp .eql 3 x y 3) (a : Int) (hx : ρ x = .int .i64 a) (hy : ρ y = .int .i64 a) : (execOp ρ o).run Try.prog w = .ok (.value (.bool true)) w := by
  simp [execOp, ho, hx, hy, binOp, eqGuard, Op.intCmp]
theorem exec_eqlB {ρ : Operand → Value} {w : World} {o : Oper} (x y : Operand) (ho : o.op = .binOp .eql 4 x y 4) (b : Bool) (hx : ρ x = .bool b) (hy : ρ y = .bool b) : (execOp ρ o).run Try.prog w = .ok (.value (.bool true)) w := by
  have h : (binOp .eql 4 (.bool b) (.bool b)).run Try.prog w = .ok (.bool true) w := by cases b <;> kernel_rfl
  simp [execOp, ho, hx, hy, eqGuard, h]

def opsV : List Oper := [{ dst := some 36, op := Op.load 32 (Operand.tmp 4), type := 32, pos := "law.go:41", after := #[], guard := none }, { dst := some 37, op := Op.move (Operand.tmp 2), type := 78, pos := "law.go:41", after := #[], guard := none }, { dst := some 38, op := Op.call { callee := Callee.value (Operand.func 53), args := #[Operand.tmp 36, Operand.tmp 37], argTypes := #[32, 78] }, type := 78, pos := "law.go:41", after := #[{ on := 0, ground := Ground.data }, { on := 1, ground := Ground.data }], guard := none }, { dst := some 39, op := Op.load 32 (Operand.tmp 4), type := 32, pos := "law.go:41", after := #[], guard := none }, { dst := some 40, op := Op.move (Operand.tmp 9), type := 79, pos := "law.go:41", after := #[], guard := none }, { dst := some 41, op := Op.call { callee := Callee.value (Operand.func 54), args := #[Operand.tmp 39, Operand.tmp 40], argTypes := #[57, 79] }, type := 79, pos := "law.go:41", after := #[{ on := 3, ground := Ground.data }, { on := 4, ground := Ground.data }, { on := 2, ground := Ground.chain }], guard := none }, { dst := some 42, op := Op.call { callee := Callee.value (Operand.func 52), args := #[Operand.tmp 38, Operand.tmp 41], argTypes := #[78, 79] }, type := 4, pos := "law.go:41", after := #[{ on := 2, ground := Ground.data }, { on := 5, ground := Ground.data }, { on := 5, ground := Ground.chain }], guard := none }, { dst := some 43, op := Op.move (Operand.tmp 42), type := 4, pos := "law.go:41", after := #[{ on := 6, ground := Ground.data }, { on := 6, ground := Ground.chain }], guard := none }, { dst := some 44, op := Op.load 32 (Operand.tmp 4), type := 32, pos := "law.go:41", after := #[{ on := 7, ground := Ground.guard }], guard := some (7, true) }, { dst := some 45, op := Op.move (Operand.tmp 2), type := 78, pos := "law.go:41", after := #[{ on := 7, ground := Ground.guard }], guard := some (7, true) }, { dst := some 46, op := Op.move (Operand.tmp 3), type := 3, pos := "law.go:41", after := #[{ on := 7, ground := Ground.guard }], guard := some (7, true) }, { dst := some 47, op := Op.call { callee := Callee.value (Operand.func 55), args := #[Operand.tmp 44, Operand.tmp 45, Operand.tmp 46], argTypes := #[32, 78, 3] }, type := 78, pos := "law.go:41", after := #[{ on := 8, ground := Ground.data }, { on := 9, ground := Ground.data }, { on := 10, ground := Ground.data }, { on := 7, ground := Ground.chain }, { on := 7, ground := Ground.guard }], guard := some (7, true) }, { dst := some 48, op := Op.load 32 (Operand.tmp 4), type := 32, pos := "law.go:41", after := #[{ on := 7, ground := Ground.guard }], guard := some (7, true) }, { dst := some 49, op := Op.move (Operand.tmp 9), type := 79, pos := "law.go:41", after := #[{ on := 7, ground := Ground.guard }], guard := some (7, true) }, { dst := some 50, op := Op.move (Operand.tmp 3), type := 3, pos := "law.go:41", after := #[{ on := 7, ground := Ground.guard }], guard := some (7, true) }, { dst := some 51, op := Op.call { callee := Callee.value (Operand.func 56), args := #[Operand.tmp 48, Operand.tmp 49, Operand.tmp 50], argTypes := #[57, 79, 3] }, type := 79, pos := "law.go:41", after := #[{ on := 12, ground := Ground.data }, { on := 13, ground := Ground.data }, { on := 14, ground := Ground.data }, { on := 11, ground := Ground.chain }, { on := 7, ground := Ground.guard }], guard := some (7, true) }, { dst := some 52, op := Op.call { callee := Callee.value (Operand.func 52), args := #[Operand.tmp 47, Operand.tmp 51], argTypes := #[78, 79] }, type := 4, pos := "law.go:41", after := #[{ on := 11, ground := Ground.data }, { on := 15, ground := Ground.data }, { on := 15, ground := Ground.chain }, { on := 7, ground := Ground.guard }], guard := some (7, true) }, { dst := some 53, op := Op.pick (Operand.tmp 43) (Operand.tmp 52) (Operand.const (Value.bool false)), type := 4, pos := "law.go:41", after := #[{ on := 7, ground := Ground.data }, { on := 16, ground := Ground.data }], guard := none }, { dst := some 54, op := Op.move (Operand.tmp 53), type := 4, pos := "law.go:41", after := #[{ on := 17, ground := Ground.data }, { on := 16, ground := Ground.chain }], guard := none }, { dst := some 55, op := Op.load 32 (Operand.tmp 4), type := 32, pos := "law.go:41", after := #[{ on := 18, ground := Ground.guard }], guard := some (18, true) }, { dst := some 56, op := Op.load 32 (Operand.tmp 5), type := 32, pos := "law.go:41", after := #[{ on := 18, ground := Ground.guard }], guard := some (18, true) }, { dst := some 57, op := Op.move (Operand.tmp 2), type := 78, pos := "law.go:41", after := #[{ on := 18, ground := Ground.guard }], guard := some (18, true) }, { dst := some 58, op := Op.call { callee := Callee.value (Operand.func 57), args := #[Operand.tmp 55, Operand.tmp 56, Operand.tmp 57], argTypes := #[32, 32, 78] }, type := 3, pos := "law.go:41", after := #[{ on := 19, ground := Ground.data }, { on := 20, ground := Ground.data }, { on := 21, ground := Ground.data }, { on := 18, ground := Ground.chain }, { on := 18, ground := Ground.guard }], guard := some (18, true) }, { dst := some 59, op := Op.load 32 (Operand.tmp 4), type := 32, pos := "law.go:41", after := #[{ on := 18, ground := Ground.guard }], guard := some (18, true) }, { dst := some 60, op := Op.load 32 (Operand.tmp 5), type := 32, pos := "law.go:41", after := #[{ on := 18, ground := Ground.guard }], guard := some (18, true) }, { dst := some 61, op := Op.move (Operand.tmp 9), type := 79, pos := "law.go:41", after := #[{ on := 18, ground := Ground.guard }], guard := some (18, true) }, { dst := some 62, op := Op.call { callee := Callee.value (Operand.func 58), args := #[Operand.tmp 59, Operand.tmp 60, Operand.tmp 61], argTypes := #[57, 57, 79] }, type := 3, pos := "law.go:41", after := #[{ on := 23, ground := Ground.data }, { on := 24, ground := Ground.data }, { on := 25, ground := Ground.data }, { on := 22, ground := Ground.chain }, { on := 18, ground := Ground.guard }], guard := some (18, true) }, { dst := some 63, op := Op.binOp BinOp.eql 3 (Operand.tmp 58) (Operand.tmp 62) 3, type := 4, pos := "law.go:41", after := #[{ on := 22, ground := Ground.data }, { on := 26, ground := Ground.data }, { on := 18, ground := Ground.guard }], guard := some (18, true) }, { dst := some 64, op := Op.pick (Operand.tmp 54) (Operand.tmp 63) (Operand.const (Value.bool false)), type := 4, pos := "law.go:41", after := #[{ on := 18, ground := Ground.data }, { on := 27, ground := Ground.data }], guard := none }, { dst := some 65, op := Op.move (Operand.tmp 64), type := 4, pos := "law.go:41", after := #[{ on := 28, ground := Ground.data }, { on := 26, ground := Ground.chain }], guard := none }, { dst := some 66, op := Op.move (Operand.tmp 10), type := 78, pos := "law.go:41", after := #[{ on := 29, ground := Ground.guard }], guard := some (29, true) }, { dst := some 67, op := Op.move (Operand.tmp 12), type := 79, pos := "law.go:41", after := #[{ on := 29, ground := Ground.guard }], guard := some (29, true) }, { dst := some 68, op := Op.call { callee := Callee.value (Operand.func 52), args := #[Operand.tmp 66, Operand.tmp 67], argTypes := #[78, 79] }, type := 4, pos := "law.go:41", after := #[{ on := 30, ground := Ground.data }, { on := 31, ground := Ground.data }, { on := 29, ground := Ground.chain }, { on := 29, ground := Ground.guard }], guard := some (29, true) }, { dst := some 69, op := Op.pick (Operand.tmp 65) (Operand.tmp 68) (Operand.const (Value.bool false)), type := 4, pos := "law.go:41", after := #[{ on := 29, ground := Ground.data }, { on := 32, ground := Ground.data }], guard := none }, { dst := some 70, op := Op.move (Operand.tmp 69), type := 4, pos := "law.go:41", after := #[{ on := 33, ground := Ground.data }, { on := 32, ground := Ground.chain }], guard := none }, { dst := some 71, op := Op.move (Operand.tmp 11), type := 4, pos := "law.go:41", after := #[{ on := 34, ground := Ground.guard }], guard := some (34, true) }, { dst := some 72, op := Op.move (Operand.tmp 13), type := 4, pos := "law.go:41", after := #[{ on := 34, ground := Ground.guard }], guard := some (34, true) }, { dst := some 73, op := Op.binOp BinOp.eql 4 (Operand.tmp 71) (Operand.tmp 72) 4, type := 4, pos := "law.go:41", after := #[{ on := 35, ground := Ground.data }, { on := 36, ground := Ground.data }, { on := 34, ground := Ground.guard }], guard := some (34, true) }, { dst := some 74, op := Op.pick (Operand.tmp 70) (Operand.tmp 73) (Operand.const (Value.bool false)), type := 4, pos := "law.go:41", after := #[{ on := 34, ground := Ground.data }, { on := 37, ground := Ground.data }], guard := none }, { dst := some 75, op := Op.move (Operand.tmp 74), type := 4, pos := "law.go:41", after := #[{ on := 38, ground := Ground.data }, { on := 34, ground := Ground.chain }], guard := none }, { dst := some 76, op := Op.call { callee := Callee.value (Operand.func 48), args := #[], argTypes := #[] }, type := 4, pos := "law.go:41", after := #[{ on := 39, ground := Ground.chain }, { on := 39, ground := Ground.guard }], guard := some (39, true) }, { dst := some 77, op := Op.pick (Operand.tmp 75) (Operand.tmp 76) (Operand.const (Value.bool false)), type := 4, pos := "law.go:41", after := #[{ on := 39, ground := Ground.data }, { on := 40, ground := Ground.data }], guard := none }, { dst := some 8, op := Op.assign (Operand.tmp 77), type := 4, pos := "law.go:41", after := #[{ on := 41, ground := Ground.data }, { on := 40, ground := Ground.chain }, { on := 0, ground := Ground.phase }, { on := 1, ground := Ground.phase }, { on := 2, ground := Ground.phase }, { on := 3, ground := Ground.phase }, { on := 4, ground := Ground.phase }, { on := 5, ground := Ground.phase }, { on := 6, ground := Ground.phase }, { on := 7, ground := Ground.phase }, { on := 8, ground := Ground.phase }, { on := 9, ground := Ground.phase }, { on := 10, ground := Ground.phase }, { on := 11, ground := Ground.phase }, { on := 12, ground := Ground.phase }, { on := 13, ground := Ground.phase }, { on := 14, ground := Ground.phase }, { on := 15, ground := Ground.phase }, { on := 16, ground := Ground.phase }, { on := 17, ground := Ground.phase }, { on := 18, ground := Ground.phase }, { on := 19, ground := Ground.phase }, { on := 20, ground := Ground.phase }, { on := 21, ground := Ground.phase }, { on := 22, ground := Ground.phase }, { on := 23, ground := Ground.phase }, { on := 24, ground := Ground.phase }, { on := 25, ground := Ground.phase }, { on := 26, ground := Ground.phase }, { on := 27, ground := Ground.phase }, { on := 28, ground := Ground.phase }, { on := 29, ground := Ground.phase }, { on := 30, ground := Ground.phase }, { on := 31, ground := Ground.phase }, { on := 32, ground := Ground.phase }, { on := 33, ground := Ground.phase }, { on := 34, ground := Ground.phase }, { on := 35, ground := Ground.phase }, { on := 36, ground := Ground.phase }, { on := 37, ground := Ground.phase }, { on := 38, ground := Ground.phase }, { on := 39, ground := Ground.phase }, { on := 40, ground := Ground.phase }, { on := 41, ground := Ground.phase }], guard := none }]
def usesV : Nat → List Nat
  | 2 => [0, 1]
  | 5 => [3, 4]
  | 6 => [2, 5]
  | 7 => [6]
  | 8 => [7]
  | 9 => [7]
  | 10 => [7]
  | 11 => [8, 9, 10, 7]
  | 12 => [7]
  | 13 => [7]
  | 14 => [7]
  | 15 => [12, 13, 14, 7]
  | 16 => [11, 15, 7]
  | 17 => [7, 16]
  | 18 => [17]
  | 19 => [18]
  | 20 => [18]
  | 21 => [18]
  | 22 => [19, 20, 21, 18]
  | 23 => [18]
  | 24 => [18]
  | 25 => [18]
  | 26 => [23, 24, 25, 18]
  | 27 => [22, 26, 18]
  | 28 => [18, 27]
  | 29 => [28]
  | 30 => [29]
  | 31 => [29]
  | 32 => [30, 31, 29]
  | 33 => [29, 32]
  | 34 => [33]
  | 35 => [34]
  | 36 => [34]
  | 37 => [35, 36, 34]
  | 38 => [34, 37]
  | 39 => [38]
  | 40 => [39]
  | 41 => [39, 40]
  | 42 => [41]
  | _ => []
def ancV : Nat → List Nat := fun _ => []
def finV : Nat → Bool := fun i => i == 42
theorem agreeV (t i : Nat) (k : Nat) (ok : Oper) (hk : opsV[k]? = some ok) (hd : ok.dst = some t) (h : opsV.all (fun o => o.dst != some t || (depsOf o).contains i) = true) : i ∈ depsOf ok := by
  have h1 := List.all_eq_true.1 h ok (List.mem_of_getElem? hk)
  rw [hd] at h1
  simpa using h1
theorem guardsV : (opsV.all fun o => match o.guard with | none => true | some g => g.2 && [7, 18, 29, 34, 39].contains g.1) = true := by decide +kernel
/-- What each operation yields. -/
def phiV (p : Option Addr) (d : Array Id20) (cap : Nat) (qw : Option Addr) (cw : Nat) (t : List UInt8) (x : Id20) (n : Int) (N M L : List Id20) (b : Bool) : Nat → Value → World → Prop
  | 0 => fun v _ => v = .agg (bytesV t).toArray
  | 1 => fun v _ => v = .slice p d.size cap
  | 2 => fun v w => IdsV w N v
  | 3 => fun v _ => v = .agg (bytesV t).toArray
  | 4 => fun v _ => v = .slice qw d.size cw
  | 5 => fun v w => IdsV w N v
  | 6 => fun v _ => v = .bool true
  | 7 => fun v _ => v = .bool true
  | 8 => fun v _ => v = .agg (bytesV t).toArray
  | 9 => fun v _ => v = .slice p d.size cap
  | 10 => fun v _ => v = .int .i64 n
  | 11 => fun v w => IdsV w M v
  | 12 => fun v _ => v = .agg (bytesV t).toArray
  | 13 => fun v _ => v = .slice qw d.size cw
  | 14 => fun v _ => v = .int .i64 n
  | 15 => fun v w => IdsV w M v
  | 16 => fun v _ => v = .bool true
  | 17 => fun v _ => v = .bool true
  | 18 => fun v _ => v = .bool true
  | 19 => fun v _ => v = .agg (bytesV t).toArray
  | 20 => fun v _ => v = .agg (bytesV x.1).toArray
  | 21 => fun v _ => v = .slice p d.size cap
  | 22 => fun v _ => v = .int .i64 (cntB t x.1 N N.length : Nat)
  | 23 => fun v _ => v = .agg (bytesV t).toArray
  | 24 => fun v _ => v = .agg (bytesV x.1).toArray
  | 25 => fun v _ => v = .slice qw d.size cw
  | 26 => fun v _ => v = .int .i64 (cntB t x.1 N N.length : Nat)
  | 27 => fun v _ => v = .bool true
  | 28 => fun v _ => v = .bool true
  | 29 => fun v _ => v = .bool true
  | 30 => fun v w => IdsV w L v
  | 31 => fun v w => IdsV w L v
  | 32 => fun v _ => v = .bool true
  | 33 => fun v _ => v = .bool true
  | 34 => fun v _ => v = .bool true
  | 35 => fun v _ => v = .bool b
  | 36 => fun v _ => v = .bool b
  | 37 => fun v _ => v = .bool true
  | 38 => fun v _ => v = .bool true
  | 39 => fun v _ => v = .bool true
  | 40 => fun v _ => v = .bool true
  | 41 => fun v _ => v = .bool true
  | _ => fun v _ => v = .bool true

set_option maxRecDepth 100000 in
set_option maxHeartbeats 8000000 in
theorem regionV {id : Nat} {Q : Exit → Act → World → Prop} {a0 : Act} {W : World} (t : List UInt8) (ht : t.length = 20) (x : Id20) (p : Option Addr) (d : Array Id20) (cap : Nat) (qw : Option Addr) (cw : Nat) (n : Int) (L : List Id20) (b : Bool) (vx vy : Value) (b4 b5 : Nat)
    (e2 : a0.eval (.tmp 2) = .slice p d.size cap) (e3 : a0.eval (.tmp 3) = .int .i64 n) (e4 : a0.eval (.tmp 4) = .pointer (some ⟨b4, 0, none⟩)) (e5 : a0.eval (.tmp 5) = .pointer (some ⟨b5, 0, none⟩)) (e9 : a0.eval (.tmp 9) = .slice qw d.size cw)
    (e10 : a0.eval (.tmp 10) = vx) (e11 : a0.eval (.tmp 11) = .bool b) (e12 : a0.eval (.tmp 12) = vy) (e13 : a0.eval (.tmp 13) = .bool b) (hsz : a0.tmps.size = 78)
    (h4 : Row W ⟨b4, 0, none⟩ (bytesV t)) (h5 : Row W ⟨b5, 0, none⟩ (bytesV x.1)) (l4 : b4 < W.heap.size) (l5 : b5 < W.heap.size) (hp : IdRow W p d) (hpb : ∀ a, p = some a → a.block < W.heap.size) (hw : IdRow W qw d) (hwb : ∀ a, qw = some a → a.block < W.heap.size)
    (hx : IdsV W L vx) (hy : IdsV W L vy) (hL : L.length < 500000) (hd : d.size < 499980)
    (hK : ∀ (a1 : Act) (w' : World), Below W.heap.size W w' → a1.defers = a0.defers → a1.tmps.size = a0.tmps.size → a1.eval (.tmp 8) = .bool true → Q .normal a1 w') :
    (Code.region id opsV.toArray true).wp Try.prog Q a0 W := by
  have hszV : opsV.length = 43 := rfl
  have haT : IsAgg Try.prog 32 (bytesV t).length := by rw [bytes_len ht]; exact aggID
  have haX : IsAgg Try.prog 32 (bytesV x.1).length := by rw [bytes_len x.2]; exact aggID
  have P1 : ∀ w, Below W.heap.size W w → IdRow w p d := fun w hC => hp.below hC hpb
  have P2 : ∀ w, Below W.heap.size W w → ∀ a, p = some a → a.block < w.heap.size := fun w hC a ha => Nat.lt_of_lt_of_le (hpb a ha) hC.size
  have W1 : ∀ w, Below W.heap.size W w → IdRow w qw d := fun w hC => hw.below hC hwb
  have W2 : ∀ w, Below W.heap.size W w → ∀ a, qw = some a → a.block < w.heap.size := fun w hC a ha => Nat.lt_of_lt_of_le (hwb a ha) hC.size
  have hlen := nearD_length t d
  obtain ⟨N, hN⟩ : ∃ N, nearD t d = N := ⟨_, rfl⟩
  obtain ⟨M, hM⟩ : ∃ M, (nearD t d).take n.toNat = M := ⟨_, rfl⟩
  have hMl : M.length < 500000 := by rw [← hM, List.length_take]; omega
  have hNl : N.length < 500000 := by rw [← hN]; omega
  refine wp_region_guard usesV ancV finV (fun w => Below W.heap.size W w) (fun _ w w' => Below w.heap.size w w') (phiV p d cap qw cw t x n N M L b) (by kernel_rfl) (by rw [hsz]; decide +kernel) (by decide +kernel) (below_drewN (Below.refl _ _) 1) (fun j w w' h hL => h.trans (hL.mono h.size)) ?_ (by decide +kernel) ?_ ?_ ?_
  · intro k' i hk' hi hne hneed v w w' hC h hb
    rw [hszV] at hk'
    match k', hk' with
    | 0, _ => exact h
    | 1, _ => exact h
    | 2, _ => exact IdsV.below h hb
    | 3, _ => exact h
    | 4, _ => exact h
    | 5, _ => exact IdsV.below h hb
    | 6, _ => exact h
    | 7, _ => exact h
    | 8, _ => exact h
    | 9, _ => exact h
    | 10, _ => exact h
    | 11, _ => exact IdsV.below h hb
    | 12, _ => exact h
    | 13, _ => exact h
    | 14, _ => exact h
    | 15, _ => exact IdsV.below h hb
    | 16, _ => exact h
    | 17, _ => exact h
    | 18, _ => exact h
    | 19, _ => exact h
    | 20, _ => exact h
    | 21, _ => exact h
    | 22, _ => exact h
    | 23, _ => exact h
    | 24, _ => exact h
    | 25, _ => exact h
    | 26, _ => exact h
    | 27, _ => exact h
    | 28, _ => exact h
    | 29, _ => exact h
    | 30, _ => exact IdsV.below h hb
    | 31, _ => exact IdsV.below h hb
    | 32, _ => exact h
    | 33, _ => exact h
    | 34, _ => exact h
    | 35, _ => exact h
    | 36, _ => exact h
    | 37, _ => exact h
    | 38, _ => exact h
    | 39, _ => exact h
    | 40, _ => exact h
    | 41, _ => exact h
    | 42, _ => exact h
    | m + 43, hm => exact absurd hm (by omega)
  · intro o ho g bb hg v w hv
    have h1 := List.all_eq_true.1 guardsV o ho
    rw [hg] at h1
    simp only [Bool.and_eq_true, List.contains_eq_mem, List.mem_cons, List.not_mem_nil, or_false, decide_eq_true_eq] at h1
    obtain ⟨rfl, h2⟩ := h1
    rcases h2 with rfl | rfl | rfl | rfl | rfl <;> exact hv
  · have hLr : ∀ w : World, Below w.heap.size w w := fun w => Below.refl _ _
    refine ⟨?_, ?_, ?_, ?_, ?_, ?_, ?_, ?_, ?_, ?_, ?_, ?_, ?_, ?_, ?_, ?_, ?_, ?_, ?_, ?_, ?_, ?_, ?_, ?_, ?_, ?_, ?_, ?_, ?_, ?_, ?_, ?_, ?_, ?_, ?_, ?_, ?_, ?_, ?_, ?_, ?_, ?_, ?_, trivial⟩
    · -- 0
      intro a w hC hag hdp K hKK
      exact wp_load_agg _ _ rfl ⟨b4, 0, none⟩ ((hag 4 (fun k ok hk hd => agreeV 4 _ k ok hk hd (by decide +kernel))).trans e4) (bytesV t) (h4.below hC l4) haT (hKK _ _ rfl (hLr _))
    · -- 1
      refine OpOK.value hLr fun a w hC hag hdp => ⟨_, exec_moveK _ rfl, ?_⟩
      show a.eval (.tmp 2) = _
      rw [hag 2 (fun k ok hk hd => agreeV 2 _ k ok hk hd (by decide +kernel)), e2]
    · -- 2
      intro a w hC hag hdp K hKK
      obtain ⟨vp, hp, tp⟩ := hdp 0 (by decide) _ rfl
      have up := tp 36 rfl
      obtain ⟨vq, hq, tq⟩ := hdp 1 (by decide) _ rfl
      have uq := tq 37 rfl
      refine wp_call 53 _ _ rfl (enters_of Try.func53 (by kernel_rfl) rfl) ?_
      have e : (#[Operand.tmp 36, Operand.tmp 37].map a.eval) = #[.agg (bytesV t).toArray, .slice p d.size cap] := by
        rw [show (#[Operand.tmp 36, Operand.tmp 37].map a.eval) = #[a.eval (.tmp 36), a.eval (.tmp 37)] from by simp, up, uq, show vp = _ from hp, show vq = _ from hq]
      rw [e]
      refine (sortV t ht p d cap w (P1 w hC) (P2 w hC) hd).mono ?_
      rintro e' w' ⟨v, rfl, hv, hb⟩
      rw [hN] at hv
      exact ⟨_, rfl, hKK _ _ hv hb⟩
    · -- 3
      intro a w hC hag hdp K hKK
      exact wp_load_agg _ _ rfl ⟨b4, 0, none⟩ ((hag 4 (fun k ok hk hd => agreeV 4 _ k ok hk hd (by decide +kernel))).trans e4) (bytesV t) (h4.below hC l4) haT (hKK _ _ rfl (hLr _))
    · -- 4
      refine OpOK.value hLr fun a w hC hag hdp => ⟨_, exec_moveK _ rfl, ?_⟩
      show a.eval (.tmp 9) = _
      rw [hag 9 (fun k ok hk hd => agreeV 9 _ k ok hk hd (by decide +kernel)), e9]
    · -- 5
      intro a w hC hag hdp K hKK
      obtain ⟨vp, hp, tp⟩ := hdp 3 (by decide) _ rfl
      have up := tp 39 rfl
      obtain ⟨vq, hq, tq⟩ := hdp 4 (by decide) _ rfl
      have uq := tq 40 rfl
      refine wp_call 54 _ _ rfl (enters_of Try.func54 (by kernel_rfl) rfl) ?_
      have e : (#[Operand.tmp 39, Operand.tmp 40].map a.eval) = #[.agg (bytesV t).toArray, .slice qw d.size cw] := by
        rw [show (#[Operand.tmp 39, Operand.tmp 40].map a.eval) = #[a.eval (.tmp 39), a.eval (.tmp 40)] from by simp, up, uq, show vp = _ from hp, show vq = _ from hq]
      rw [e]
      refine (rsortV t ht qw d cw w (W1 w hC) (W2 w hC) hd).mono ?_
      rintro e' w' ⟨v, rfl, hv, hb⟩
      rw [hN] at hv
      exact ⟨_, rfl, hKK _ _ hv hb⟩
    · -- 6
      intro a w hC hag hdp K hKK
      obtain ⟨vp, hp, tp⟩ := hdp 2 (by decide) _ rfl
      have up := tp 38 rfl
      obtain ⟨vq, hq, tq⟩ := hdp 5 (by decide) _ rfl
      have uq := tq 41 rfl
      refine wp_call 52 _ _ rfl (enters_of Try.func52 (by kernel_rfl) rfl) ?_
      have e : (#[Operand.tmp 38, Operand.tmp 41].map a.eval) = #[vp, vq] := by
        rw [show (#[Operand.tmp 38, Operand.tmp 41].map a.eval) = #[a.eval (.tmp 38), a.eval (.tmp 41)] from by simp, up, uq]
      rw [e]
      refine (sameV (L := N) hp hq (by assumption)).mono ?_
      rintro e' w' ⟨rfl, hb⟩
      exact ⟨_, rfl, hKK _ _ rfl hb⟩
    · -- 7
      refine OpOK.value hLr fun a w hC hag hdp => ?_
      obtain ⟨vp, hp, tp⟩ := hdp 6 (by decide) _ rfl
      have up := tp 42 rfl
      exact ⟨_, exec_moveK _ rfl, by rw [up]; exact hp⟩
    · -- 8
      intro a w hC hag hdp K hKK
      exact wp_load_agg _ _ rfl ⟨b4, 0, none⟩ ((hag 4 (fun k ok hk hd => agreeV 4 _ k ok hk hd (by decide +kernel))).trans e4) (bytesV t) (h4.below hC l4) haT (hKK _ _ rfl (hLr _))
    · -- 9
      refine OpOK.value hLr fun a w hC hag hdp => ⟨_, exec_moveK _ rfl, ?_⟩
      show a.eval (.tmp 2) = _
      rw [hag 2 (fun k ok hk hd => agreeV 2 _ k ok hk hd (by decide +kernel)), e2]
    · -- 10
      refine OpOK.value hLr fun a w hC hag hdp => ⟨_, exec_moveK _ rfl, ?_⟩
      show a.eval (.tmp 3) = _
      rw [hag 3 (fun k ok hk hd => agreeV 3 _ k ok hk hd (by decide +kernel)), e3]
    · -- 11
      intro a w hC hag hdp K hKK
      obtain ⟨vp, hp, tp⟩ := hdp 8 (by decide) _ rfl
      have up := tp 44 rfl
      obtain ⟨vq, hq, tq⟩ := hdp 9 (by decide) _ rfl
      have uq := tq 45 rfl
      obtain ⟨vr, hr, tr⟩ := hdp 10 (by decide) _ rfl
      have ur := tr 46 rfl
      refine wp_call 55 _ _ rfl (enters_of Try.func55 (by kernel_rfl) rfl) ?_
      have e : (#[Operand.tmp 44, Operand.tmp 45, Operand.tmp 46].map a.eval) = #[.agg (bytesV t).toArray, .slice p d.size cap, .int .i64 n] := by
        rw [show (#[Operand.tmp 44, Operand.tmp 45, Operand.tmp 46].map a.eval) = #[a.eval (.tmp 44), a.eval (.tmp 45), a.eval (.tmp 46)] from by simp, up, uq, ur, show vp = _ from hp, show vq = _ from hq, show vr = _ from hr]
      rw [e]
      refine (leastV t ht p d cap n w (P1 w hC) (P2 w hC) hd).mono ?_
      rintro e' w' ⟨v, rfl, hv, hb⟩
      rw [hM] at hv
      exact ⟨_, rfl, hKK _ _ hv hb⟩
    · -- 12
      intro a w hC hag hdp K hKK
      exact wp_load_agg _ _ rfl ⟨b4, 0, none⟩ ((hag 4 (fun k ok hk hd => agreeV 4 _ k ok hk hd (by decide +kernel))).trans e4) (bytesV t) (h4.below hC l4) haT (hKK _ _ rfl (hLr _))
    · -- 13
      refine OpOK.value hLr fun a w hC hag hdp => ⟨_, exec_moveK _ rfl, ?_⟩
      show a.eval (.tmp 9) = _
      rw [hag 9 (fun k ok hk hd => agreeV 9 _ k ok hk hd (by decide +kernel)), e9]
    · -- 14
      refine OpOK.value hLr fun a w hC hag hdp => ⟨_, exec_moveK _ rfl, ?_⟩
      show a.eval (.tmp 3) = _
      rw [hag 3 (fun k ok hk hd => agreeV 3 _ k ok hk hd (by decide +kernel)), e3]
    · -- 15
      intro a w hC hag hdp K hKK
      obtain ⟨vp, hp, tp⟩ := hdp 12 (by decide) _ rfl
      have up := tp 48 rfl
      obtain ⟨vq, hq, tq⟩ := hdp 13 (by decide) _ rfl
      have uq := tq 49 rfl
      obtain ⟨vr, hr, tr⟩ := hdp 14 (by decide) _ rfl
      have ur := tr 50 rfl
      refine wp_call 56 _ _ rfl (enters_of Try.func56 (by kernel_rfl) rfl) ?_
      have e : (#[Operand.tmp 48, Operand.tmp 49, Operand.tmp 50].map a.eval) = #[.agg (bytesV t).toArray, .slice qw d.size cw, .int .i64 n] := by
        rw [show (#[Operand.tmp 48, Operand.tmp 49, Operand.tmp 50].map a.eval) = #[a.eval (.tmp 48), a.eval (.tmp 49), a.eval (.tmp 50)] from by simp, up, uq, ur, show vp = _ from hp, show vq = _ from hq, show vr = _ from hr]
      rw [e]
      refine (rleastV t ht qw d cw n w (W1 w hC) (W2 w hC) hd).mono ?_
      rintro e' w' ⟨v, rfl, hv, hb⟩
      rw [hM] at hv
      exact ⟨_, rfl, hKK _ _ hv hb⟩
    · -- 16
      intro a w hC hag hdp K hKK
      obtain ⟨vp, hp, tp⟩ := hdp 11 (by decide) _ rfl
      have up := tp 47 rfl
      obtain ⟨vq, hq, tq⟩ := hdp 15 (by decide) _ rfl
      have uq := tq 51 rfl
      refine wp_call 52 _ _ rfl (enters_of Try.func52 (by kernel_rfl) rfl) ?_
      have e : (#[Operand.tmp 47, Operand.tmp 51].map a.eval) = #[vp, vq] := by
        rw [show (#[Operand.tmp 47, Operand.tmp 51].map a.eval) = #[a.eval (.tmp 47), a.eval (.tmp 51)] from by simp, up, uq]
      rw [e]
      refine (sameV (L := M) hp hq (by assumption)).mono ?_
      rintro e' w' ⟨rfl, hb⟩
      exact ⟨_, rfl, hKK _ _ rfl hb⟩
    · -- 17
      refine OpOK.value hLr fun a w hC hag hdp => ?_
      obtain ⟨vp, hp, tp⟩ := hdp 7 (by decide) _ rfl
      have up := tp 43 rfl
      obtain ⟨vq, hq, tq⟩ := hdp 16 (by decide) _ rfl
      have uq := tq 52 rfl
      exact ⟨_, exec_pickT _ _ _ rfl (up.trans hp), by rw [uq]; exact hq⟩
    · -- 18
      refine OpOK.value hLr fun a w hC hag hdp => ?_
      obtain ⟨vp, hp, tp⟩ := hdp 17 (by decide) _ rfl
      have up := tp 53 rfl
      exact ⟨_, exec_moveK _ rfl, by rw [up]; exact hp⟩
    · -- 19
      intro a w hC hag hdp K hKK
      exact wp_load_agg _ _ rfl ⟨b4, 0, none⟩ ((hag 4 (fun k ok hk hd => agreeV 4 _ k ok hk hd (by decide +kernel))).trans e4) (bytesV t) (h4.below hC l4) haT (hKK _ _ rfl (hLr _))
    · -- 20
      intro a w hC hag hdp K hKK
      exact wp_load_agg _ _ rfl ⟨b5, 0, none⟩ ((hag 5 (fun k ok hk hd => agreeV 5 _ k ok hk hd (by decide +kernel))).trans e5) (bytesV x.1) (h5.below hC l5) haX (hKK _ _ rfl (hLr _))
    · -- 21
      refine OpOK.value hLr fun a w hC hag hdp => ⟨_, exec_moveK _ rfl, ?_⟩
      show a.eval (.tmp 2) = _
      rw [hag 2 (fun k ok hk hd => agreeV 2 _ k ok hk hd (by decide +kernel)), e2]
    · -- 22
      intro a w hC hag hdp K hKK
      obtain ⟨vp, hp, tp⟩ := hdp 19 (by decide) _ rfl
      have up := tp 55 rfl
      obtain ⟨vq, hq, tq⟩ := hdp 20 (by decide) _ rfl
      have uq := tq 56 rfl
      obtain ⟨vr, hr, tr⟩ := hdp 21 (by decide) _ rfl
      have ur := tr 57 rfl
      refine wp_call 57 _ _ rfl (enters_of Try.func57 (by kernel_rfl) rfl) ?_
      have e : (#[Operand.tmp 55, Operand.tmp 56, Operand.tmp 57].map a.eval) = #[.agg (bytesV t).toArray, .agg (bytesV x.1).toArray, .slice p d.size cap] := by
        rw [show (#[Operand.tmp 55, Operand.tmp 56, Operand.tmp 57].map a.eval) = #[a.eval (.tmp 55), a.eval (.tmp 56), a.eval (.tmp 57)] from by simp, up, uq, ur, show vp = _ from hp, show vq = _ from hq, show vr = _ from hr]
      rw [e]
      refine (rankV t ht x p d cap w (P1 w hC) (P2 w hC) hd).mono ?_
      rintro e' w' ⟨rfl, hb⟩
      rw [hN]
      exact ⟨_, rfl, hKK _ _ rfl hb⟩
    · -- 23
      intro a w hC hag hdp K hKK
      exact wp_load_agg _ _ rfl ⟨b4, 0, none⟩ ((hag 4 (fun k ok hk hd => agreeV 4 _ k ok hk hd (by decide +kernel))).trans e4) (bytesV t) (h4.below hC l4) haT (hKK _ _ rfl (hLr _))
    · -- 24
      intro a w hC hag hdp K hKK
      exact wp_load_agg _ _ rfl ⟨b5, 0, none⟩ ((hag 5 (fun k ok hk hd => agreeV 5 _ k ok hk hd (by decide +kernel))).trans e5) (bytesV x.1) (h5.below hC l5) haX (hKK _ _ rfl (hLr _))
    · -- 25
      refine OpOK.value hLr fun a w hC hag hdp => ⟨_, exec_moveK _ rfl, ?_⟩
      show a.eval (.tmp 9) = _
      rw [hag 9 (fun k ok hk hd => agreeV 9 _ k ok hk hd (by decide +kernel)), e9]
    · -- 26
      intro a w hC hag hdp K hKK
      obtain ⟨vp, hp, tp⟩ := hdp 23 (by decide) _ rfl
      have up := tp 59 rfl
      obtain ⟨vq, hq, tq⟩ := hdp 24 (by decide) _ rfl
      have uq := tq 60 rfl
      obtain ⟨vr, hr, tr⟩ := hdp 25 (by decide) _ rfl
      have ur := tr 61 rfl
      refine wp_call 58 _ _ rfl (enters_of Try.func58 (by kernel_rfl) rfl) ?_
      have e : (#[Operand.tmp 59, Operand.tmp 60, Operand.tmp 61].map a.eval) = #[.agg (bytesV t).toArray, .agg (bytesV x.1).toArray, .slice qw d.size cw] := by
        rw [show (#[Operand.tmp 59, Operand.tmp 60, Operand.tmp 61].map a.eval) = #[a.eval (.tmp 59), a.eval (.tmp 60), a.eval (.tmp 61)] from by simp, up, uq, ur, show vp = _ from hp, show vq = _ from hq, show vr = _ from hr]
      rw [e]
      refine (rrankV t ht x qw d cw w (W1 w hC) (W2 w hC) hd).mono ?_
      rintro e' w' ⟨rfl, hb⟩
      rw [hN]
      exact ⟨_, rfl, hKK _ _ rfl hb⟩
    · -- 27
      refine OpOK.value hLr fun a w hC hag hdp => ?_
      obtain ⟨vp, hp, tp⟩ := hdp 22 (by decide) _ rfl
      have up := tp 58 rfl
      obtain ⟨vq, hq, tq⟩ := hdp 26 (by decide) _ rfl
      have uq := tq 62 rfl
      exact ⟨_, exec_eqlI _ _ rfl _ (up.trans hp) (uq.trans hq), rfl⟩
    · -- 28
      refine OpOK.value hLr fun a w hC hag hdp => ?_
      obtain ⟨vp, hp, tp⟩ := hdp 18 (by decide) _ rfl
      have up := tp 54 rfl
      obtain ⟨vq, hq, tq⟩ := hdp 27 (by decide) _ rfl
      have uq := tq 63 rfl
      exact ⟨_, exec_pickT _ _ _ rfl (up.trans hp), by rw [uq]; exact hq⟩
    · -- 29
      refine OpOK.value hLr fun a w hC hag hdp => ?_
      obtain ⟨vp, hp, tp⟩ := hdp 28 (by decide) _ rfl
      have up := tp 64 rfl
      exact ⟨_, exec_moveK _ rfl, by rw [up]; exact hp⟩
    · -- 30
      refine OpOK.value hLr fun a w hC hag hdp => ⟨_, exec_moveK _ rfl, ?_⟩
      show IdsV w L (a.eval (.tmp 10))
      rw [hag 10 (fun k ok hk hd => agreeV 10 _ k ok hk hd (by decide +kernel)), e10]
      exact hx.below hC
    · -- 31
      refine OpOK.value hLr fun a w hC hag hdp => ⟨_, exec_moveK _ rfl, ?_⟩
      show IdsV w L (a.eval (.tmp 12))
      rw [hag 12 (fun k ok hk hd => agreeV 12 _ k ok hk hd (by decide +kernel)), e12]
      exact hy.below hC
    · -- 32
      intro a w hC hag hdp K hKK
      obtain ⟨vp, hp, tp⟩ := hdp 30 (by decide) _ rfl
      have up := tp 66 rfl
      obtain ⟨vq, hq, tq⟩ := hdp 31 (by decide) _ rfl
      have uq := tq 67 rfl
      refine wp_call 52 _ _ rfl (enters_of Try.func52 (by kernel_rfl) rfl) ?_
      have e : (#[Operand.tmp 66, Operand.tmp 67].map a.eval) = #[vp, vq] := by
        rw [show (#[Operand.tmp 66, Operand.tmp 67].map a.eval) = #[a.eval (.tmp 66), a.eval (.tmp 67)] from by simp, up, uq]
      rw [e]
      refine (sameV (L := L) hp hq (by assumption)).mono ?_
      rintro e' w' ⟨rfl, hb⟩
      exact ⟨_, rfl, hKK _ _ rfl hb⟩
    · -- 33
      refine OpOK.value hLr fun a w hC hag hdp => ?_
      obtain ⟨vp, hp, tp⟩ := hdp 29 (by decide) _ rfl
      have up := tp 65 rfl
      obtain ⟨vq, hq, tq⟩ := hdp 32 (by decide) _ rfl
      have uq := tq 68 rfl
      exact ⟨_, exec_pickT _ _ _ rfl (up.trans hp), by rw [uq]; exact hq⟩
    · -- 34
      refine OpOK.value hLr fun a w hC hag hdp => ?_
      obtain ⟨vp, hp, tp⟩ := hdp 33 (by decide) _ rfl
      have up := tp 69 rfl
      exact ⟨_, exec_moveK _ rfl, by rw [up]; exact hp⟩
    · -- 35
      refine OpOK.value hLr fun a w hC hag hdp => ⟨_, exec_moveK _ rfl, ?_⟩
      show a.eval (.tmp 11) = _
      rw [hag 11 (fun k ok hk hd => agreeV 11 _ k ok hk hd (by decide +kernel)), e11]
    · -- 36
      refine OpOK.value hLr fun a w hC hag hdp => ⟨_, exec_moveK _ rfl, ?_⟩
      show a.eval (.tmp 13) = _
      rw [hag 13 (fun k ok hk hd => agreeV 13 _ k ok hk hd (by decide +kernel)), e13]
    · -- 37
      refine OpOK.value hLr fun a w hC hag hdp => ?_
      obtain ⟨vp, hp, tp⟩ := hdp 35 (by decide) _ rfl
      have up := tp 71 rfl
      obtain ⟨vq, hq, tq⟩ := hdp 36 (by decide) _ rfl
      have uq := tq 72 rfl
      exact ⟨_, exec_eqlB _ _ rfl b (up.trans hp) (uq.trans hq), rfl⟩
    · -- 38
      refine OpOK.value hLr fun a w hC hag hdp => ?_
      obtain ⟨vp, hp, tp⟩ := hdp 34 (by decide) _ rfl
      have up := tp 70 rfl
      obtain ⟨vq, hq, tq⟩ := hdp 37 (by decide) _ rfl
      have uq := tq 73 rfl
      exact ⟨_, exec_pickT _ _ _ rfl (up.trans hp), by rw [uq]; exact hq⟩
    · -- 39
      refine OpOK.value hLr fun a w hC hag hdp => ?_
      obtain ⟨vp, hp, tp⟩ := hdp 38 (by decide) _ rfl
      have up := tp 74 rfl
      exact ⟨_, exec_moveK _ rfl, by rw [up]; exact hp⟩
    · -- 40
      intro a w hC hag hdp K hKK
      refine wp_call 48 _ _ rfl (enters_of Try.func48 (by kernel_rfl) rfl) ?_
      have e : (#[] : Array Operand).map a.eval = #[] := by simp
      rw [e]
      refine (lives04 w).mono ?_
      rintro e' w' ⟨rfl, hb⟩
      exact ⟨_, rfl, hKK _ _ rfl hb⟩
    · -- 41
      refine OpOK.value hLr fun a w hC hag hdp => ?_
      obtain ⟨vp, hp, tp⟩ := hdp 39 (by decide) _ rfl
      have up := tp 75 rfl
      obtain ⟨vq, hq, tq⟩ := hdp 40 (by decide) _ rfl
      have uq := tq 76 rfl
      exact ⟨_, exec_pickT _ _ _ rfl (up.trans hp), by rw [uq]; exact hq⟩
    · -- 42
      refine OpOK.value hLr fun a w hC hag hdp => ?_
      obtain ⟨vp, hp, tp⟩ := hdp 41 (by decide) _ rfl
      have up := tp 77 rfl
      exact ⟨_, exec_assignK _ rfl, by rw [up]; exact hp⟩
  · intro vs w' hC hf
    have h42 : vs 42 = .bool true := hf 42 (by rw [hszV]; decide) rfl
    have hp := putList_tmps opsV 0 vs a0
    have h8 := putList_at opsV 0 vs a0 42 _ 8 rfl rfl (by rw [hsz]; decide) (fun j' o' hj ho => by
      have h9 := (List.getElem?_eq_some_iff.1 ho).1
      rw [hszV] at h9
      exact absurd hj (by omega))
    generalize putList opsV 0 vs a0 = a1 at hp h8 ⊢
    obtain ⟨p1, p2, _⟩ := hp
    refine hK a1 w' hC p1 p2 ?_
    show a1.tmps.getD 8 undef = _
    rw [Array.getD_eq_getD_getElem?, h8]
    exact h42
end Go.Proofs.Ytjdmbegmbffhfaa

/-
  The walk of MetricSorts. Conditions: the ids are of twenty bytes.
-/
namespace Go.Proofs.Ytjdmbegmbffhfaa
open Go.RowKit Go.Sort Go.Lib

set_option maxRecDepth 100000 in
set_option maxHeartbeats 8000000 in
theorem MSorts_walk (t : List UInt8) (ht : t.length = 20) (x : Id20) (p : Option Addr) (d : Array Id20) (cap : Nat) (n : Int) (w : World) (hp : IdRow w p d) (hpb : ∀ a, p = some a → a.block < w.heap.size) (hcap : p = none → cap = 0) :
    Calls Try.prog 11 #[.agg (bytesV t).toArray, .agg (bytesV x.1).toArray, .slice p d.size cap, .int .i64 n] w fun e w' => e = .returned (.bool true) ∧ Below w.heap.size w w' := by
  have st := bytes_size ht
  have sx := bytes_size x.2
  have HLV := Lib.hid (fun w => lives04 w)
  have hb2 : Below w.heap.size w ((w.alloc (.cells (bytesV t).toArray 32)).alloc (.cells (bytesV x.1).toArray 32)) := ((Below.refl _ _).alloc (Nat.le_refl _) _).alloc (by simp) _
  have HB := Lib.hid hb2
  have HP := Lib.hid (hp.below hb2 hpb)
  have HPB : Hid (∀ a, p = some a → a.block < ((w.alloc (.cells (bytesV t).toArray 32)).alloc (.cells (bytesV x.1).toArray 32)).heap.size) := Lib.hid (fun a ha => Nat.lt_of_lt_of_le (hpb a ha) hb2.size)
  have h4 : Hid (Row ((w.alloc (.cells (bytesV t).toArray 32)).alloc (.cells (bytesV x.1).toArray 32)) ⟨w.heap.size, 0, none⟩ (bytesV t)) := Lib.hid (BB.row (T := 32) (BB.alloc (l := t) (heap_alloc_new _ _) _))
  have h5 : Hid (Row ((w.alloc (.cells (bytesV t).toArray 32)).alloc (.cells (bytesV x.1).toArray 32)) ⟨w.heap.size + 1, 0, none⟩ (bytesV x.1)) := Lib.hid (BB.row (T := 32) (heap_alloc2_new _ _ _))
  have hs2 : Hid (((w.alloc (.cells (bytesV t).toArray 32)).alloc (.cells (bytesV x.1).toArray 32)).heap.size = w.heap.size + 1 + 1) := Lib.hid (by simp)
  have HTL := Lib.hid ht
  have HQ := Lib.hid hcap
  clear hp hpb hb2 hcap
  by_cases hlt : 50 < d.size
  · have e1 : decide ((50 : Int) < (d.size : Int)) = true := decide_eq_true (by omega)
    clear hlt
    go_enter Try.func11, Try.ntmps11
    go_wp2_with (go_at_call 48; refine (HLV.out _).mono ?_; rintro e w' ⟨rfl, hbx⟩)
    go_ret
    exact ⟨rfl, HB.out.trans (hbx.mono HB.out.size)⟩
  · have e1 : decide ((50 : Int) < (d.size : Int)) = false := decide_eq_false (by omega)
    have HD : Hid (d.size ≤ 50) := Lib.hid (by omega)
    have haT : Hid (IsAgg Try.prog 32 (bytesV t).length) := Lib.hid (by rw [bytes_len ht]; exact aggID)
    have haX : Hid (IsAgg Try.prog 32 (bytesV x.1).length) := Lib.hid (by rw [bytes_len x.2]; exact aggID)
    clear hlt
    go_enter Try.func11, Try.ntmps11
    go_wp2_with fail
    generalize ((w.alloc (.cells (bytesV t).toArray 32)).alloc (.cells (bytesV x.1).toArray 32)) = W at *
    refine (law_Plain p d cap W HP.out HPB.out (by have := HD.out; omega)).mono ?_
    rintro e w3 ⟨v, rfl, ho, hb3⟩
    obtain ⟨qw, cw, hv, hrw, _, hqw, _, _⟩ := ho.form
    subst hv
    have HRW := Lib.hid hrw
    have HQW : Hid (∀ a, qw = some a → a.block < w3.heap.size) := Lib.hid (fun a ha => (hqw a ha).2)
    have HB3 : Hid (Below W.heap.size W w3) := Lib.hid hb3
    have k4 : Hid (Row w3 ⟨w.heap.size, 0, none⟩ (bytesV t)) := Lib.hid (h4.out.below hb3 (by rw [hs2.out]; show w.heap.size < w.heap.size + 1 + 1; omega))
    have k5 : Hid (Row w3 ⟨w.heap.size + 1, 0, none⟩ (bytesV x.1)) := Lib.hid (h5.out.below hb3 (by rw [hs2.out]; show w.heap.size + 1 < w.heap.size + 1 + 1; omega))
    have l5 : Hid (w.heap.size + 1 < w3.heap.size) := Lib.hid (by have := hb3.size; have := hs2.out; omega)
    have HP3 := Lib.hid (HP.out.below hb3 HPB.out)
    have HPB3 : Hid (∀ a, p = some a → a.block < w3.heap.size) := Lib.hid (fun a ha => Nat.lt_of_lt_of_le (HPB.out a ha) hb3.size)
    clear ho hb3 hrw hqw
    go_wp2_with (first
      | ((with_reducible show wpList _ _ _ (⟨some 21, _, _, _, _, _⟩ :: _) _ _); refine wpList_load_agg (o := ⟨some 21, _, _, _, _, _⟩) rfl _ (.tmp 4) rfl _ rfl (bytesV t) k4.out haT.out ?_)
      | ((with_reducible show wpList _ _ _ (⟨some 23, _, _, _, _, _⟩ :: _) _ _); refine wpList_load_agg (o := ⟨some 23, _, _, _, _, _⟩) rfl _ (.tmp 5) rfl _ rfl (bytesV x.1) k5.out haX.out ?_))
    refine (metric_Insert t HTL.out x p d cap n w3 HP3.out HPB3.out HQ.out (by have := HD.out; omega)).mono ?_
    rintro e w4 ⟨v4, rfl, ho4, hb4⟩
    have HV4 := Lib.hid ho4.idsV
    have HB4 := Lib.hid hb4
    have k4' : Hid (Row w4 ⟨w.heap.size, 0, none⟩ (bytesV t)) := Lib.hid (k4.out.below hb4 (Nat.lt_of_succ_lt l5.out))
    have k5' : Hid (Row w4 ⟨w.heap.size + 1, 0, none⟩ (bytesV x.1)) := Lib.hid (k5.out.below hb4 l5.out)
    have HRW4 := Lib.hid (HRW.out.below hb4 HQW.out)
    have HQW4 : Hid (∀ a, qw = some a → a.block < w4.heap.size) := Lib.hid (fun a ha => Nat.lt_of_lt_of_le (HQW.out a ha) hb4.size)
    have HIR := Lib.hid (ref04_Insert t HTL.out x qw d cw n w4 HRW4.out HQW4.out (by have := HD.out; omega))
    have HP4 := Lib.hid (HP3.out.below hb4 HPB3.out)
    have HPB4 : Hid (∀ a, p = some a → a.block < w4.heap.size) := Lib.hid (fun a ha => Nat.lt_of_lt_of_le (HPB3.out a ha) hb4.size)
    have l5' : Hid (w.heap.size + 1 < w4.heap.size) := Lib.hid (Nat.lt_of_lt_of_le l5.out hb4.size)
    have HWL : Hid ((withOne t d x n).length < 500000) := Lib.hid (by
      have h1 := nearD_length t (d ++ #[x])
      have h2 := HD.out
      have h3 : (d ++ #[x]).size = d.size + 1 := by simp
      unfold withOne
      rw [List.length_take]
      omega)
    have HB04 : Hid (Below w.heap.size w w4) := Lib.hid (HB.out.trans ((HB3.out.trans (hb4.mono HB3.out.size)).mono HB.out.size))
    clear ho4 hb4 HB4 HB3 HP3 HPB3 k4 k5 HP HPB h4 h5 HRW HQW l5 HB hs2
    generalize (decide (x ∈ withOne t d x n) && !decide (x ∈ d.toList)) = bb at *
    go_wp2_with (first
      | ((with_reducible show wpList _ _ _ (⟨some 29, _, _, _, _, _⟩ :: _) _ _); refine wpList_load_agg (o := ⟨some 29, _, _, _, _, _⟩) rfl _ (.tmp 4) rfl _ rfl (bytesV t) k4'.out haT.out ?_)
      | ((with_reducible show wpList _ _ _ (⟨some 31, _, _, _, _, _⟩ :: _) _ _); refine wpList_load_agg (o := ⟨some 31, _, _, _, _, _⟩) rfl _ (.tmp 5) rfl _ rfl (bytesV x.1) k5'.out haX.out ?_))
    refine HIR.out.mono ?_
    rintro e w5 ⟨q5, c5, rfl, hr5, hq5, hb5⟩
    have HV5 : Hid (IdsV w5 (withOne t d x n) (.slice q5 (withOne t d x n).length c5)) := Lib.hid ⟨q5, c5, rfl, hr5, hq5⟩
    have HV45 := Lib.hid (HV4.out.below hb5)
    have k45 := Lib.hid (k4'.out.below hb5 (Nat.lt_of_succ_lt l5'.out))
    have k55 := Lib.hid (k5'.out.below hb5 l5'.out)
    have HP5 := Lib.hid (HP4.out.below hb5 HPB4.out)
    have HPB5 : Hid (∀ a, p = some a → a.block < w5.heap.size) := Lib.hid (fun a ha => Nat.lt_of_lt_of_le (HPB4.out a ha) hb5.size)
    have HRW5 := Lib.hid (HRW4.out.below hb5 HQW4.out)
    have HQW5 : Hid (∀ a, qw = some a → a.block < w5.heap.size) := Lib.hid (fun a ha => Nat.lt_of_lt_of_le (HQW4.out a ha) hb5.size)
    have l55 : Hid (w.heap.size + 1 < w5.heap.size) := Lib.hid (Nat.lt_of_lt_of_le l5'.out hb5.size)
    have HB05 : Hid (Below w.heap.size w w5) := Lib.hid (HB04.out.trans (hb5.mono HB04.out.size))
    obtain ⟨L, hL⟩ : ∃ L, withOne t d x n = L := ⟨_, rfl⟩
    rw [hL] at HV5 HV45 HWL ⊢
    clear hr5 hq5 hb5 HIR HV4 k4' k5' HP4 HPB4 HRW4 HQW4 l5' HB04 hL
    go_wp2_with fail
    refine regionV t HTL.out x p d cap qw cw n L bb v4 (.slice q5 L.length c5) w.heap.size (w.heap.size + 1) rfl rfl rfl rfl rfl rfl rfl rfl rfl rfl k45.out k55.out (Nat.lt_of_succ_lt l55.out) l55.out HP5.out HPB5.out HRW5.out HQW5.out HV45.out HV5.out HWL.out (by have := HD.out; omega) ?_
    intro a1 w9 hb9 hdf hsz h8
    have HB9 : Hid (Below w.heap.size w w9) := Lib.hid (HB05.out.trans (hb9.mono HB05.out.size))
    clear hb9
    go_wp2_with fail
    refine bodyPost_ret (results_tmp rfl _ _ _) hdf ?_
    exact ⟨congrArg Ending.returned h8, HB9.out⟩
end Go.Proofs.Ytjdmbegmbffhfaa

/-
  Readings of data opened: small laws over any program. Conditions: as each theorem says.
-/
namespace Go.Proofs.Ytjdmbegmbffhfaa
open Go.ChangeShapes Go.WideShapes Go.ChangeAt Go.RowKit Go.Deep

section
variable {H : Type} {enc : TypeId × Value → H} {P : Program} {w : World} {base : Nat} {spare : Nat → Bool} {held : Bool}

theorem drop_take_one {cs : List Value} {i : Nat} {v : Value} (h : (cs.drop i).take 1 = [v]) : cs[i]? = some v := by
  have := congrArg (fun l => l[0]?) h
  simpa [List.getElem?_take, List.getElem?_drop] using this

theorem wf_bd {k : IntKind} {n : Int} (h : (Lit.int k n).wf = true) : k.min ≤ n ∧ n ≤ k.max := by
  simpa [Lit.wf] using h
theorem wf_u64 {n : Int} (h : (Lit.int .u64 n).wf = true) : 0 ≤ n ∧ n ≤ 18446744073709551615 := by
  have hb := wf_bd h
  rwa [show IntKind.u64.min = 0 by decide, show IntKind.u64.max = 18446744073709551615 by decide] at hb
theorem wf_i64 {n : Int} (h : (Lit.int .i64 n).wf = true) : -9223372036854775808 ≤ n ∧ n ≤ 9223372036854775807 := by
  have hb := wf_bd h
  rwa [show IntKind.i64.min = -9223372036854775808 by decide, show IntKind.i64.max = 9223372036854775807 by decide] at hb
theorem wf_u8 {n : Int} (h : (Lit.int .u8 n).wf = true) : 0 ≤ n ∧ n ≤ 255 := by
  have hb := wf_bd h
  rwa [show IntKind.u8.min = 0 by decide, show IntKind.u8.max = 255 by decide] at hb

/-- A slice read as data, element by element: what each element's cells are is told by 'elem'. -/
theorem open_rows {α : Type} {t e : TypeId} {size : Nat} (cells : α → List Value) (Ok : α → Prop) (ht : P.underlying t = some (.slice e)) (hsz : P.cellsOf e = size) (hpos : 0 < size) (hc : ∀ y : α, Ok y → (cells y).length = size) (dflt : α)
    (elem : ∀ (n : Nat) (cs : List Value) (x : DataW H × List MemPlace), DataW.trod enc P w base spare held n e cs = some x → ∃ y : α, cells y = cs ∧ Ok y)
    {fuel : Nat} {a : Option Addr} {len cap : Nat} {x : DataW H × List MemPlace} (h : DataW.trod enc P w base spare held fuel t [.slice a len cap] = some x) :
    ∃ l : List α, len = l.length ∧ len ≤ cap ∧ cap ≤ maxLen ∧ (a = none → len = 0 ∧ cap = 0) ∧ (∀ y ∈ l, Ok y) ∧ ∀ i y, l[i]? = some y → ∃ ad, a = some ad ∧ ad.block < w.heap.size ∧ Row w (ad.add (i * size)) (cells y) := by
  rcases open_slice ht h with ⟨hcs, _⟩ | ⟨ad, len', cap', m, n, D, Pl, hcs, _, hl, hm, hmm, _, hi⟩
  · simp only [List.cons.injEq, Value.slice.injEq, and_true] at hcs
    obtain ⟨rfl, rfl, rfl⟩ := hcs
    exact ⟨[], rfl, by omega, by simp, fun _ => ⟨rfl, rfl⟩, by simp, by simp⟩
  · simp only [List.cons.injEq, Value.slice.injEq, and_true] at hcs
    obtain ⟨rfl, rfl, rfl⟩ := hcs
    have hmlen : len ≤ m := by rw [hmm]; split <;> omega
    rw [hsz] at hi
    have hall : ∀ i, i < len → ∃ y : α, Ok y ∧ Row w (ad.add (i * size)) (cells y) := by
      intro i hlt
      obtain ⟨cs', hc', ht'⟩ := hi i (by omega)
      obtain ⟨y, hy, hok⟩ := elem _ _ _ ht'
      obtain ⟨_, hcl, hat⟩ := World.cells?_some hc'
      refine ⟨y, hok, fun j v hv => ?_⟩
      rw [hy] at hv
      have hj : j < size := by
        have := (List.getElem?_eq_some_iff.1 hv).1
        omega
      rw [hat j hj, hv]
    let f : Nat → α := fun i => if h : i < len then Classical.choose (hall i h) else dflt
    have hfs : ∀ i, i < len → Ok (f i) ∧ Row w (ad.add (i * size)) (cells (f i)) := by
      intro i h
      have := Classical.choose_spec (hall i h)
      simp only [f, dif_pos h]
      exact this
    refine ⟨(List.range len).map f, by simp, hl, hm, fun h => (by cases h), ?_, ?_⟩
    · intro x hx
      obtain ⟨i, hi', rfl⟩ := List.mem_map.1 hx
      exact (hfs i (List.mem_range.1 hi')).1
    · intro i x hx
      rw [List.getElem?_map] at hx
      have hlt : i < len := by
        by_cases h : i < len
        · exact h
        · rw [List.getElem?_eq_none (by simpa using h)] at hx; cases hx
      rw [List.getElem?_range hlt] at hx
      obtain rfl := Option.some.inj hx
      obtain ⟨hok, hrow⟩ := hfs i hlt
      refine ⟨ad, rfl, ?_, hrow⟩
      have hl0 := hc _ hok
      obtain ⟨v, hv⟩ : ∃ v, (cells (f i))[0]? = some v := ⟨(cells (f i))[0]'(by omega), List.getElem?_eq_getElem _⟩
      have := block_lt_of_cell (hrow 0 v hv)
      rwa [add_block, add_block] at this

theorem block_lt_of_row {ad : Addr} {cs : List Value} (h : Row w ad cs) (hn : cs ≠ []) : ad.block < w.heap.size := by
  cases cs with
  | nil => exact absurd rfl hn
  | cons v l =>
    have := block_lt_of_cell (h 0 v rfl)
    rwa [add_block] at this
end
end Go.Proofs.Ytjdmbegmbffhfaa

/-
  A slice of bytes read as data, opened. Conditions: as each theorem says.
-/
namespace Go.Proofs.Ytjdmbegmbffhfaa
open Go.ChangeShapes Go.WideShapes Go.ChangeAt Go.RowKit Go.Deep

section
variable {H : Type} {enc : TypeId × Value → H} {w : World} {base : Nat} {spare : Nat → Bool} {held : Bool}

theorem open_bytecell (n : Nat) (cs : List Value) (x : DataW H × List MemPlace) (h : DataW.trod enc Try.prog w base spare held n 5 cs = some x) : ∃ y : UInt8, [byteV y] = cs ∧ True := by
  obtain ⟨y, e, _, hw⟩ := DataW.trod_int Try.underlying5 h
  have hb := wf_u8 hw
  refine ⟨UInt8.ofNat y.toNat, ?_, trivial⟩
  rw [e]
  unfold byteV
  rw [UInt8.toNat_ofNat']
  have : ((y.toNat % 2 ^ 8 : Nat) : Int) = y := by omega
  rw [this]

theorem open_bytes {fuel : Nat} {A : Option Addr} {len cap : Nat} {x : DataW H × List MemPlace} (h : DataW.trod enc Try.prog w base spare held fuel 30 [.slice A len cap] = some x) :
    ∃ l : List UInt8, len = l.length ∧ len ≤ cap ∧ cap ≤ maxLen ∧ Bytes w A l := by
  obtain ⟨l, hl, hlc, hcm, hnone, _, hrow⟩ := open_rows (size := 1) (fun y : UInt8 => [byteV y]) (fun _ => True) Try.underlying30 (by kernel_rfl) (by omega) (fun _ _ => rfl) 0 open_bytecell h
  refine ⟨l, hl, hlc, hcm, fun ha => List.eq_nil_of_length_eq_zero (hl ▸ (hnone ha).1), fun ad ha j v hv => ?_⟩
  simp only [bytesV, List.getElem?_map, Option.map_eq_some_iff] at hv
  obtain ⟨y, hy, rfl⟩ := hv
  obtain ⟨ad', ha', _, hr⟩ := hrow j y hy
  obtain rfl : ad = ad' := Option.some.inj ((show some ad = A from ha.symm).trans ha')
  have := hr 0 _ rfl
  rwa [add_add, Nat.mul_one, Nat.add_zero] at this
end
end Go.Proofs.Ytjdmbegmbffhfaa

/-
  An id read as data, opened. Conditions: as the theorem says.
-/
namespace Go.Proofs.Ytjdmbegmbffhfaa
open Go.ChangeShapes Go.WideShapes Go.ChangeAt Go.RowKit Go.Deep

section
variable {H : Type} {enc : TypeId × Value → H} {w : World} {base : Nat} {spare : Nat → Bool} {held : Bool}

theorem all_bytes {l : List Value} {n : Nat} (hn : l.length = n) (h : ∀ i, i < n → ∃ y : UInt8, l[i]? = some (byteV y)) : ∃ m : List UInt8, m.length = n ∧ l = bytesV m := by
  induction l generalizing n with
  | nil => exact ⟨[], hn, rfl⟩
  | cons v l ih =>
    subst hn
    obtain ⟨y, hy⟩ := h 0 (by simp)
    obtain ⟨m, hm, rfl⟩ := ih rfl fun i hi => by
      have := h (i + 1) (by simp; omega)
      simpa using this
    simp only [List.getElem?_cons_zero, Option.some.injEq] at hy
    subst hy
    exact ⟨y :: m, by simp [hm], rfl⟩

theorem open_IDcells {fuel : Nat} {cs : List Value} {x : DataW H × List MemPlace} (h : DataW.trod enc Try.prog w base spare held fuel 32 cs = some x) : ∃ l : List UInt8, l.length = 20 ∧ cs = bytesV l := by
  obtain ⟨xs, m, _, _, hlen, hxl, hf⟩ := DataW.trod_array Try.underlying32 h
  have h20 : cs.length = 20 := hlen.trans (by kernel_rfl)
  refine all_bytes h20 fun i hi => ?_
  have c1 : Try.prog.cellsOf 5 = 1 := by kernel_rfl
  have hfi := hf i hi
  rw [c1, Nat.mul_one, List.getElem?_eq_getElem (by omega)] at hfi
  obtain ⟨y, hy, _⟩ := open_bytecell _ _ _ hfi
  exact ⟨y, drop_take_one hy.symm⟩

set_option maxRecDepth 100000 in
theorem open_ID {r : Reach} {b0 : Nat} {v : Value} {d : DataW H} {ps : List MemPlace} (hval : Value.okWide Try.prog w r b0 32 v) (hd : DataW.Trod enc Try.prog w base spare held 32 v d ps) :
    ∃ l : List UInt8, l.length = 20 ∧ v = .agg (bytesV l).toArray := by
  simp only [Value.okWide, Try.underlying32] at hval
  obtain ⟨cs, rfl, _⟩ := hval
  obtain ⟨fuel, hf⟩ := hd
  obtain ⟨l, hl, he⟩ := open_IDcells hf
  refine ⟨l, hl, ?_⟩
  rw [← he]
  simp [Value.cells]
end
end Go.Proofs.Ytjdmbegmbffhfaa

/-
  A slice of ids read as data, opened. Conditions: as the theorem says.
-/
namespace Go.Proofs.Ytjdmbegmbffhfaa
open Go.ChangeShapes Go.WideShapes Go.ChangeAt Go.RowKit Go.Deep

theorem okWide_block {P : Program} {w : World} {r : Reach} {base : Nat} {t e : TypeId} (ht : P.underlying t = some (.slice e)) {a : Addr} {len cap : Nat} (h : Value.okWide P w r base t (.slice (some a) len cap)) : a.block < w.heap.size := by
  simp only [Value.okWide, Cell.okWide, Cell.ok, ht] at h
  obtain ⟨_, _, _, _, row, cells, hs, _⟩ := h
  rcases Nat.lt_or_ge a.block w.heap.size with h1 | h1
  · exact h1
  · simp [World.shape?, Array.getElem?_eq_none h1] at hs

section
variable {H : Type} {enc : TypeId × Value → H} {w : World} {base : Nat} {spare : Nat → Bool} {held : Bool}
theorem open_ids {fuel : Nat} {A : Option Addr} {len cap : Nat} {x : DataW H × List MemPlace} (h : DataW.trod enc Try.prog w base spare held fuel 78 [.slice A len cap] = some x) :
    ∃ d : Array Id20, len = d.size ∧ len ≤ cap ∧ cap ≤ maxLen ∧ IdRow w A d := by
  obtain ⟨l, hl, hlc, hcm, hnone, _, hrow⟩ := open_rows (size := 20) encId (fun _ => True) Try.underlying78 (by kernel_rfl) (by omega) (fun y _ => encId_length y) default
    (fun n cs x hx => by
      obtain ⟨m, hm, he⟩ := open_IDcells hx
      exact ⟨⟨m, hm⟩, he.symm, trivial⟩) h
  refine ⟨l.toArray, by simpa using hl, hlc, hcm, fun ha => ?_, fun ad had j v hv => ?_⟩
  · have := (hnone ha).1
    rw [hl] at this
    have hl0 : l = [] := List.eq_nil_of_length_eq_zero this
    simp [hl0]
  · have hj : j < l.toArray.size * 20 := by
      have := (List.getElem?_eq_some_iff.1 hv).1
      rwa [idsV_len] at this
    have hi : j / 20 < l.length := by simp at hj; omega
    obtain ⟨ad', ha', _, hr⟩ := hrow (j / 20) l[j / 20] (List.getElem?_eq_getElem hi)
    obtain rfl : ad = ad' := Option.some.inj (had.symm.trans ha')
    have hg := idsV_get l.toArray (j / 20) (j % 20) (by simpa using hi) (by omega)
    rw [show j / 20 * 20 + j % 20 = j by omega, ← Array.getElem?_toList, hv, getElem!_pos _ _ (by simpa using hi)] at hg
    have := hr (j % 20) v (by simpa using hg.symm)
    rwa [add_add, show j / 20 * 20 + j % 20 = j by omega] at this
end
end Go.Proofs.Ytjdmbegmbffhfaa

/-
  A law is lifted out of its walk: if, in whatever memory the arguments read as data, the call returns true and turns nothing that was there, then the given row holds. Conditions: none of the program's own; the closed facts are asked of the caller.
-/
namespace Go.Proofs.Ytjdmbegmbffhfaa
open Go.ChangeShapes Go.WideShapes Go.ChangeAt Go.RowKit

namespace Lift

theorem own : ownKnob Try.prog.godebug = none := by kernel_rfl
theorem laidOut : laidOutB Try.prog = true := by kernel_rfl

section
variable {H : Type} {enc : TypeId × Value → H} {P : Program}

/-- All arguments read below the heap's old size as they did. -/
theorem trodAll_stays (hl : laidOutB P = true) {W W' : World} (hb : Below W.heap.size W W') :
    ∀ {ts : List TypeId} {vs : List Value} {ds : List (DataW H)} {ps : List MemPlace}, (ts.all fun t => P.readableRec t && decide (t < P.types.size)) = true →
      DataW.TrodAll enc P W 0 (fun _ => true) true ts vs ds ps → DataW.TrodAll enc P W' 0 (fun b => decide (b < W.heap.size)) true ts vs ds ps
  | [], [], [], _, _, h => h
  | [], _ :: _, _, _, _, h => h.elim
  | [], [], _ :: _, _, _, h => h.elim
  | _ :: _, [], _, _, _, h => h.elim
  | _ :: _, _ :: _, [], _, _, h => h.elim
  | t :: ts, v :: vs, d :: ds, ps, hr, ⟨p, q, h1, h2, e⟩ => by
    simp only [List.all_cons, Bool.and_eq_true, decide_eq_true_eq] at hr
    obtain ⟨⟨hr1, hr2⟩, hr3⟩ := hr
    have hlt : ∀ x ∈ p, x.block < W.heap.size := by obtain ⟨m, hm⟩ := h1; exact DataW.trod_lt m _ _ _ hm
    exact ⟨p, q, Below.trod hl hr1 hr2 h1 hb hlt, trodAll_stays hl hb hr3 h2, e⟩
end

/-- The lift of a law that answers one bool and whose specification hands all arguments back as they were. -/
theorem law {C : Checked} {f : FuncId} {fn : Func} {s : ChangeSpec} {tb n : Nat} {os : Os} {H : Type} {enc : TypeId × Value → H}
    (own : ownKnob C.prog.godebug = none) (started : os.Started) (noInit : C.prog.inits.idxOf? f = none) (hfn : C.prog.funcs[f]? = some fn)
    (hlaid : laidOutB C.prog = true) (hparams : (fn.params.toList.all fun t => C.prog.readableRec t && decide (t < C.prog.types.size)) = true)
    (hres : fn.resultTypes = #[tb]) (hb : C.prog.underlying tb = some .bool) (hn : fn.params.size = n)
    (hvars : s.vars = []) (hs : ∀ (ds : List (DataW H)), ds.length = n → s.fn H ds = { results := [.lit (.bool true)], args := ds })
    (witness : ∃ (w : World) (tape : Tape) (i : Input), w.os = os ∧ (w.forCall tape i).Shaped C.prog ∧ i.vars = [] ∧ Input.okWide C.prog (w.forCall tape i) .any w.heap.size f i ∧
      s.pre6 enc C.prog fn [] false (w.forCall tape i).memory i.args ∧ ({} : Assume).holds C.prog (lone (Frame.enter C.prog f i.args .normal) [] (w.forCall tape i)))
    (walk : ∀ (W : World) (base : Nat) (args : Array Value) (ds : List (DataW H)) (ps : List MemPlace),
      (∀ (j : Nat) t v, fn.params[j]? = some t → args[j]? = some v → Value.okWide C.prog W .any base t v) →
      DataW.TrodAll enc C.prog W 0 (fun _ => true) true fn.params.toList args.toList ds ps →
      (DataW.weightsEach C.prog fn.params.toList ds).all (· ≤ reachBytes) = true →
      Calls C.prog f args W fun e W' => e = .returned (.bool true) ∧ Below W.heap.size W W') :
    ReturnsInHanded {} C os f .any (s.pre6 enc C.prog fn [] false) (s.post enc C.prog fn false true false false) := by
  refine returnsInHanded_of_change_sized own started noInit hfn witness ?_
  intro W base args ds gs before hval hW _ hsz _
  have hW' := hW
  obtain ⟨p, q, hA, hV, rfl, _, _⟩ := hW
  rw [hvars] at hV
  obtain ⟨rfl, rfl⟩ := trodVars_none hV
  have hvt : s.plain.varTypes C.prog = [] := by simp [ChangeSpec.plain, DataSpec.varTypes, hvars]
  rw [hvt, List.append_nil, List.append_nil] at hsz
  have hlen : ∀ {ts : List TypeId} {vs : List Value} {ds : List (DataW H)} {ps : List MemPlace}, DataW.TrodAll enc C.prog W 0 (fun _ => true) true ts vs ds ps → ds.length = ts.length := by
    intro ts
    induction ts with
    | nil => intro vs ds ps h; obtain ⟨_, rfl, _⟩ := trodAll_nil h; rfl
    | cons t ts ih =>
      intro vs ds ps h
      obtain ⟨_, _, _, _, _, _, _, rfl, _, _, h2⟩ := trodAll_cons h
      simp [ih h2]
  have hd : ds.length = n := by rw [hlen hA, Array.length_toList, hn]
  refine (walk W base args ds p hval hA hsz).mono fun e W' ⟨he, bel⟩ => ⟨_, he, ?_⟩
  refine ⟨ds, [], _, [], p, [], hW', ?_, ?_, by rw [hvars, List.append_nil, hs ds hd]; exact rfl, bel.frame _, fun h => by cases h⟩
  · rw [List.append_nil, hs ds hd, hres]
    exact trodAll_mk1 (shut_bool hb _)
  · rw [List.append_nil, hs ds hd]
    exact trodAll_stays hlaid bel hparams hA
end Lift
end Go.Proofs.Ytjdmbegmbffhfaa

namespace Go.Proofs.Ytjdmbegmbffhfaa
open Go.ChangeShapes Go.WideShapes Go.ChangeAt Go.RowKit Go.Deep

section
variable {H : Type} {enc : TypeId × Value → H} {w : World} {base : Nat} {spare : Nat → Bool} {held : Bool}
theorem open_ids_cap {fuel : Nat} {A : Option Addr} {len cap : Nat} {x : DataW H × List MemPlace} (h : DataW.trod enc Try.prog w base spare held fuel 78 [.slice A len cap] = some x) : A = none → cap = 0 := by
  obtain ⟨l, _, _, _, hnone, _, _⟩ := open_rows (size := 20) encId (fun _ => True) Try.underlying78 (by kernel_rfl) (by omega) (fun y _ => encId_length y) default
    (fun n cs x hx => by
      obtain ⟨m, hm, he⟩ := open_IDcells hx
      exact ⟨⟨m, hm⟩, he.symm, trivial⟩) h
  exact fun ha => (hnone ha).2
end

set_option maxRecDepth 100000 in
theorem MetricSorts_lifted (os : Os) (started : os.Started) (H : Type) (enc : TypeId × Value → H) :
    ReturnsInHanded {} Try.checked os 11 .any (Rows.metricSortsSpec.pre6 enc Try.prog Try.f11 Rows.metricSortsRow.domain false) (Rows.metricSortsSpec.post enc Try.prog Try.f11 false true false false) := by
  refine Lift.law (C := Try.checked) (n := 4) Lift.own started (by kernel_rfl) Try.func11 Lift.laidOut (by kernel_rfl) rfl Try.underlying4 rfl rfl ?_
    (ChangeSpec.witness6 (enc := enc) (C := Try.checked) false ⟨#[], #[.agg #[.int .u8 0, .int .u8 0, .int .u8 0, .int .u8 0, .int .u8 0, .int .u8 0, .int .u8 0, .int .u8 0, .int .u8 0, .int .u8 0, .int .u8 0, .int .u8 0, .int .u8 0, .int .u8 0, .int .u8 0, .int .u8 0, .int .u8 0, .int .u8 0, .int .u8 0, .int .u8 0], .agg #[.int .u8 0, .int .u8 0, .int .u8 0, .int .u8 0, .int .u8 0, .int .u8 0, .int .u8 0, .int .u8 0, .int .u8 0, .int .u8 0, .int .u8 0, .int .u8 0, .int .u8 0, .int .u8 0, .int .u8 0, .int .u8 0, .int .u8 0, .int .u8 0, .int .u8 0, .int .u8 0], .slice none 0 0, .int .i64 0], []⟩ 8 (by kernel_rfl) (by kernel_rfl) (by kernel_rfl) (by kernel_rfl)) ?_
  · intro ds hd
    match ds, hd with
    | [_, _, _, _], _ => rfl
  intro W base args ds ps hval0 hA _
  have hval : ∀ (j : Nat) t v, Try.f11.params[j]? = some t → args[j]? = some v → Value.okWide Try.prog W .any base t v := hval0
  rw [Try.params11] at hA hval
  obtain ⟨v0, vs0, d0, ds0, p0, q0, hargs, rfl, rfl, h0, r0⟩ := trodAll_cons hA
  obtain ⟨v1, vs1, d1, ds1, p1, q1, rfl, rfl, rfl, h1, r1⟩ := trodAll_cons r0
  obtain ⟨v2, vs2, d2, ds2, p2, q2, rfl, rfl, rfl, h2, r2⟩ := trodAll_cons r1
  obtain ⟨v3, vs3, d3, ds3, p3, q3, rfl, rfl, rfl, h3, r3⟩ := trodAll_cons r2
  obtain ⟨rfl, rfl, rfl⟩ := trodAll_nil r3
  obtain rfl : args = #[v0, v1, v2, v3] := by cases args; simp_all
  obtain ⟨t, ht, rfl⟩ := open_ID (hval 0 32 v0 rfl rfl) h0
  obtain ⟨x, hx, rfl⟩ := open_ID (hval 1 32 v1 rfl rfl) h1
  have hv2 := hval 2 78 v2 rfl rfl
  obtain ⟨ad, len, cap, rfl⟩ := okWide_slice Try.underlying78 hv2
  obtain ⟨fuel, hf⟩ := h2
  have hcap := open_ids_cap hf
  obtain ⟨d, rfl, hlc, hcm, hrow⟩ := open_ids hf
  obtain ⟨n, rfl⟩ := okWide_int Try.underlying3 (hval 3 3 v3 rfl rfl)
  exact MSorts_walk t ht ⟨x, hx⟩ ad d cap n W hrow (fun a ha => by subst ha; exact okWide_block Try.underlying78 hv2) hcap

theorem MetricSorts_holds : Rows.MetricSortsSaid :=
  OpenClaim.holds_of_wide 11 Try.f11 rfl rfl rfl rfl rfl rfl rfl ⟨rfl, rfl, rfl, rfl, rfl⟩ rfl rfl rfl rfl rfl (by kernel_rfl) Try.func11 (by kernel_rfl)
    (of_decide_eq_true (by kernel_rfl)) (by unfold Func.isWrapper; first | (rw [if_pos (by decide +kernel)]; kernel_rfl) | (rw [if_neg (by decide +kernel)]; exact ⟨rfl, rfl⟩))
    (fun os started H enc _ => MetricSorts_lifted os started H enc)
#print axioms MetricSorts_holds
end Go.Proofs.Ytjdmbegmbffhfaa
