/-
  A region that draws its order, each operation by an assertion of its own: what it yields may hang on the order, as long as it is what the assertion says, and the worlds go on. Conditions: as each theorem says.
-/
import Derived.Test.YtgdiajhegmdfgaaMem
import Derived.Deep.Quiet
namespace Go.Proofs.Ytgdiajhegmdfgaa

/-- The operations that an operation waits for. -/
def depsOf (o : Oper) : List Nat := (o.after.toList.filter fun e => Region.binds .any e).map (·.on)

/-- What the rule asks of one operation. -/
def OpOK (P : Program) (l : List Oper) (uses : Nat → List Nat) (C : World → Prop) (Later : Nat → World → World → Prop) (φ : Nat → Value → World → Prop) (Q : Exit → Act → World → Prop) (a0 : Act) (i : Nat) (o : Oper) : Prop :=
  ∀ (a : Act) (w : World), C w →
    (∀ t, (∀ (k : Nat) ok, l[k]? = some ok → ok.dst = some t → i ∈ depsOf ok) → a.eval (.tmp t) = a0.eval (.tmp t)) →
    (∀ k ∈ uses i, ∀ ok, l[k]? = some ok → ∃ v, φ k v w ∧ ∀ t, ok.dst = some t → a.eval (.tmp t) = v) →
    ∀ K : Act → World → Prop, (∀ v w', φ i v w' → Later i w w' → K (a.put o.dst v) w') → o.wp P a w K Q
/-- .. of all of them. -/
def OpsOK (P : Program) (l : List Oper) (uses : Nat → List Nat) (C : World → Prop) (Later : Nat → World → World → Prop) (φ : Nat → Value → World → Prop) (Q : Exit → Act → World → Prop) (a0 : Act) : Nat → List Oper → Prop
  | _, [] => True
  | i, o :: rest => OpOK P l uses C Later φ Q a0 i o ∧ OpsOK P l uses C Later φ Q a0 (i + 1) rest
theorem OpsOK.at {P : Program} {l : List Oper} {uses : Nat → List Nat} {C : World → Prop} {Later : Nat → World → World → Prop} {φ : Nat → Value → World → Prop} {Q : Exit → Act → World → Prop} {a0 : Act} :
    ∀ (m : List Oper) (i k : Nat) (o : Oper), OpsOK P l uses C Later φ Q a0 i m → m[k]? = some o → OpOK P l uses C Later φ Q a0 (i + k) o
  | [], _, _, _, _, h => by simp at h
  | o :: m, i, 0, o', h, hk => by
    simp only [List.getElem?_cons_zero, Option.some.injEq] at hk
    subst hk
    exact h.1
  | o :: m, i, k + 1, o', h, hk => by
    rw [List.getElem?_cons_succ] at hk
    have := OpsOK.at m (i + 1) k o' h.2 hk
    rwa [show i + 1 + k = i + (k + 1) by omega] at this

/-- All values put. -/
def putList : List Oper → Nat → (Nat → Value) → Act → Act
  | [], _, _, a => a
  | o :: rest, k, vs, a => putList rest (k + 1) vs (a.put o.dst (vs k))

/-- What is asked of the region's shape: no guard; each waits for earlier ones alone; each slot is written once, and lies in the frame. -/
def shapeB (n : Nat) : List Nat → Nat → List Oper → Bool
  | _, _, [] => true
  | used, i, o :: rest => o.guard.isNone && (depsOf o).all (fun k => decide (k < i)) &&
      (match o.dst with | none => true | some t => decide (t < n) && !used.contains t) &&
      shapeB n (match o.dst with | none => used | some t => t :: used) (i + 1) rest

theorem shapeB_at {n : Nat} : ∀ (m : List Oper) (used : List Nat) (i : Nat), shapeB n used i m = true → ∀ k o, m[k]? = some o →
    o.guard = none ∧ (∀ j ∈ depsOf o, j < i + k) ∧ (∀ t, o.dst = some t → t < n ∧ t ∉ used ∧ ∀ k' o', k' < k → m[k']? = some o' → o'.dst ≠ some t)
  | [], _, _, _, k, o, h => by simp at h
  | o :: m, used, i, h, k, o', hk => by
    simp only [shapeB, Bool.and_eq_true] at h
    obtain ⟨⟨⟨h1, h2⟩, h3⟩, h4⟩ := h
    cases k with
    | zero =>
      simp only [List.getElem?_cons_zero, Option.some.injEq] at hk
      subst hk
      refine ⟨by simpa using h1, fun j hj => by simpa using (List.all_eq_true.1 h2) j hj, fun t ht => ?_⟩
      rw [ht] at h3
      simp only [Bool.and_eq_true, decide_eq_true_eq, Bool.not_eq_true', List.contains_eq_mem, decide_eq_false_iff_not] at h3
      exact ⟨h3.1, h3.2, fun k' o' hk' => by omega⟩
    | succ k =>
      rw [List.getElem?_cons_succ] at hk
      obtain ⟨g1, g2, g3⟩ := shapeB_at m _ (i + 1) h4 k o' hk
      refine ⟨g1, fun j hj => by have := g2 j hj; omega, fun t ht => ?_⟩
      obtain ⟨e1, e2, e3⟩ := g3 t ht
      refine ⟨e1, ?_, ?_⟩
      · intro hu
        apply e2
        cases o.dst with
        | none => exact hu
        | some s => exact List.mem_cons_of_mem _ hu
      · intro k' o'' hk' ho'' hd
        cases k' with
        | zero =>
          simp only [List.getElem?_cons_zero, Option.some.injEq] at ho''
          subst ho''
          rw [hd] at e2
          exact e2 (List.mem_cons_self ..)
        | succ k' =>
          rw [List.getElem?_cons_succ] at ho''
          exact e3 k' o'' (by omega) ho'' hd

/-- What is asked of 'uses' and 'anc': each op uses what it waits for; its ancestors are what it waits for, and theirs. -/
def ancB (uses anc : Nat → List Nat) : Nat → List Oper → Bool
  | _, [] => true
  | i, o :: rest => (uses i).all (fun k => (depsOf o).contains k) && (anc i).all (fun k => (depsOf o).contains k || (depsOf o).any fun j => (anc j).contains k) && ancB uses anc (i + 1) rest
theorem ancB_at {uses anc : Nat → List Nat} : ∀ (m : List Oper) (i : Nat), ancB uses anc i m = true → ∀ k o, m[k]? = some o →
    (∀ j ∈ uses (i + k), j ∈ depsOf o) ∧ (∀ j ∈ anc (i + k), j ∈ depsOf o ∨ ∃ b ∈ depsOf o, j ∈ anc b)
  | [], _, _, k, o, h => by simp at h
  | o :: m, i, h, k, o', hk => by
    simp only [ancB, Bool.and_eq_true, List.all_eq_true, Bool.or_eq_true, List.any_eq_true, List.contains_eq_mem, decide_eq_true_eq] at h
    obtain ⟨⟨h1, h2⟩, h3⟩ := h
    cases k with
    | zero =>
      simp only [List.getElem?_cons_zero, Option.some.injEq] at hk
      subst hk
      exact ⟨h1, h2⟩
    | succ k =>
      rw [List.getElem?_cons_succ] at hk
      have := ancB_at m (i + 1) h3 k o' hk
      rwa [show i + 1 + k = i + (k + 1) by omega] at this
/-- Does operation k's assertion still count when i is carried out? -/
def needB (n : Nat) (uses anc : Nat → List Nat) (fin : Nat → Bool) (k i : Nat) : Bool := !(anc k).contains i && (fin k || (List.range n).any fun j => j != i && (uses j).contains k && !(anc i).contains j)

theorem putList_tmps : ∀ (l : List Oper) (k : Nat) (vs : Nat → Value) (a : Act), (putList l k vs a).defers = a.defers ∧ (putList l k vs a).tmps.size = a.tmps.size ∧
    ∀ t : Nat, (∀ (j : Nat) (o : Oper), l[j]? = some o → o.dst ≠ some t) → (putList l k vs a).tmps[t]? = a.tmps[t]?
  | [], _, _, a => ⟨rfl, rfl, fun _ _ => rfl⟩
  | o :: l, k, vs, a => by
    obtain ⟨h1, h2, h3⟩ := putList_tmps l (k + 1) vs (a.put o.dst (vs k))
    refine ⟨?_, ?_, fun t ht => ?_⟩
    · show (putList l (k + 1) vs (a.put o.dst (vs k))).defers = _
      rw [h1]; unfold Act.put; cases o.dst <;> rfl
    · show (putList l (k + 1) vs (a.put o.dst (vs k))).tmps.size = _
      rw [h2]; unfold Act.put; cases o.dst <;> simp
    · show (putList l (k + 1) vs (a.put o.dst (vs k))).tmps[t]? = _
      rw [h3 t (fun j o' hj => ht (j + 1) o' (by simpa using hj))]
      have h0 := ht 0 o rfl
      unfold Act.put
      cases hd : o.dst with
      | none => rfl
      | some s =>
        show (a.tmps.setIfInBounds s _)[t]? = _
        rw [Array.getElem?_setIfInBounds, if_neg (fun e => h0 (by rw [hd, e]))]
theorem putList_at : ∀ (l : List Oper) (k : Nat) (vs : Nat → Value) (a : Act) (j : Nat) (o : Oper) (t : Nat), l[j]? = some o → o.dst = some t → t < a.tmps.size →
    (∀ (j' : Nat) (o' : Oper), j < j' → l[j']? = some o' → o'.dst ≠ some t) → (putList l k vs a).tmps[t]? = some (vs (k + j))
  | [], _, _, _, _, _, _, h, _, _, _ => by simp at h
  | o :: l, k, vs, a, 0, o', t, h, hd, ht, hl => by
    simp only [List.getElem?_cons_zero, Option.some.injEq] at h
    subst h
    show (putList l (k + 1) vs (a.put o.dst (vs k))).tmps[t]? = _
    rw [(putList_tmps l (k + 1) vs (a.put o.dst (vs k))).2.2 t (fun j o' hj => hl (j + 1) o' (by omega) (by simpa using hj)), hd]
    show (a.tmps.setIfInBounds t _)[t]? = _
    rw [Array.getElem?_setIfInBounds, if_pos rfl, if_pos ht]
    rfl
  | o :: l, k, vs, a, j + 1, o', t, h, hd, ht, hl => by
    rw [List.getElem?_cons_succ] at h
    show (putList l (k + 1) vs (a.put o.dst (vs k))).tmps[t]? = _
    rw [putList_at l (k + 1) vs (a.put o.dst (vs k)) j o' t h hd (by unfold Act.put; cases o.dst <;> simp [ht]) (fun j' o'' hj ho => hl (j' + 1) o'' (by omega) (by simpa using ho))]
    rw [show k + 1 + j = k + (j + 1) by omega]

/-- An operation that yields a value and leaves the world. -/
theorem OpOK.value {P : Program} {l : List Oper} {uses : Nat → List Nat} {C : World → Prop} {Later : Nat → World → World → Prop} {φ : Nat → Value → World → Prop} {Q : Exit → Act → World → Prop} {a0 : Act} {i : Nat} {o : Oper} (hL : ∀ w, Later i w w)
    (h : ∀ (a : Act) (w : World), C w → (∀ t, (∀ (k : Nat) ok, l[k]? = some ok → ok.dst = some t → i ∈ depsOf ok) → a.eval (.tmp t) = a0.eval (.tmp t)) →
      (∀ k ∈ uses i, ∀ ok, l[k]? = some ok → ∃ v, φ k v w ∧ ∀ t, ok.dst = some t → a.eval (.tmp t) = v) → ∃ v, (execOp a.eval o).run P w = .ok (.value v) w ∧ φ i v w) : OpOK P l uses C Later φ Q a0 i o := by
  intro a w hC hag hd K hK
  obtain ⟨v, hr, hv⟩ := h a w hC hag hd
  unfold Oper.wp
  rw [hr]
  exact hK v w hv (hL w)

set_option maxHeartbeats 2000000 in
/-- **A region that draws its order, each operation by its own assertion.** -/
theorem wp_region_assert {P : Program} {id : Nat} {Q : Exit → Act → World → Prop} {a0 : Act} {w0 : World} {l : List Oper} (uses anc : Nat → List Nat) (fin : Nat → Bool) (C : World → Prop) (Later : Nat → World → World → Prop) (φ : Nat → Value → World → Prop)
    (hm : P.follows .mixedOrders = true) (hB : shapeB a0.tmps.size [] 0 l = true) (hA : ancB uses anc 0 l = true) (hC : C w0.drew)
    (hCL : ∀ j w w', C w → Later j w w' → C w') (hφ : ∀ k i, k < l.length → i < l.length → k ≠ i → needB l.length uses anc fin k i = true → ∀ v w w', C w → φ k v w → Later i w w' → φ k v w')
    (hop : OpsOK P l uses C Later φ Q a0 0 l)
    (hend : ∀ (vs : Nat → Value) (w' : World), C w' → (∀ i, i < l.length → fin i = true → φ i (vs i) w') → Q .normal (putList l 0 vs a0) w') :
    (Code.region id l.toArray true).wp P Q a0 w0 := by
  have hsh := shapeB_at l [] 0 hB
  have han : ∀ k o, l[k]? = some o → (∀ j ∈ uses k, j ∈ depsOf o) ∧ (∀ j ∈ anc k, j ∈ depsOf o ∨ ∃ b ∈ depsOf o, j ∈ anc b) := fun k o h => by have := ancB_at l 0 hA k o h; rwa [Nat.zero_add] at this
  have hop' : ∀ i o, l[i]? = some o → OpOK P l uses C Later φ Q a0 i o := fun i o hi => by have := OpsOK.at l 0 i o hop hi; rwa [Nat.zero_add] at this
  -- what holds whenever some are done
  have main : ∀ (fuel : Nat) (listed : Array Bool) (a : Act) (w : World), C w → listed.size = l.length →
      (listed.toList.countP (! ·)) ≤ fuel →
      a.defers = a0.defers → a.tmps.size = a0.tmps.size →
      (∀ t, (∀ (k : Nat) ok, listed.getD k false = true → l[k]? = some ok → ok.dst ≠ some t) → a.tmps[t]? = a0.tmps[t]?) →
      (∀ (k : Nat) ok, listed.getD k false = true → l[k]? = some ok → (∀ j ∈ depsOf ok, listed.getD j false = true) ∧ ∃ v, ((fin k = true ∨ ∃ j, j < l.length ∧ listed.getD j false = false ∧ k ∈ uses j) → φ k v w) ∧ ∀ t, ok.dst = some t → a.tmps[t]? = some v) →
      wpAny P .any l.toArray Q fuel listed a w := by
    intro fuel
    have fin : ∀ (listed : Array Bool) (a : Act) (w : World), C w → listed.size = l.length →
        a.defers = a0.defers → a.tmps.size = a0.tmps.size →
        (∀ t, (∀ (k : Nat) ok, listed.getD k false = true → l[k]? = some ok → ok.dst ≠ some t) → a.tmps[t]? = a0.tmps[t]?) →
        (∀ (k : Nat) ok, listed.getD k false = true → l[k]? = some ok → (∀ j ∈ depsOf ok, listed.getD j false = true) ∧ ∃ v, ((fin k = true ∨ ∃ j, j < l.length ∧ listed.getD j false = false ∧ k ∈ uses j) → φ k v w) ∧ ∀ t, ok.dst = some t → a.tmps[t]? = some v) →
        Region.ready .any l.toArray listed = [] → Q .normal a w := by
      intro listed a w hc hls hdf hts hag hdn hr
      have all : ∀ n k, k ≤ n → k < l.length → listed.getD k false = true := by
        intro n
        induction n with
        | zero =>
          intro k hk hkl
          obtain rfl : k = 0 := by omega
          cases hb : listed.getD 0 false with
          | true => rfl
          | false =>
            have : 0 ∈ Region.ready .any l.toArray listed := by
              refine mem_ready.2 ⟨?_, l[0], by simp [hkl], fun e he hb' => ?_⟩
              · rw [← hb]; simp [Array.getD, show 0 < listed.size by omega]
              · have := (hsh 0 l[0] (by simp [hkl])).2.1 e.on (List.mem_map.2 ⟨e, List.mem_filter.2 ⟨by simpa using he, hb'⟩, rfl⟩)
                omega
            rw [hr] at this; cases this
        | succ n ih =>
          intro k hk hkl
          cases hb : listed.getD k false with
          | true => rfl
          | false =>
            have : k ∈ Region.ready .any l.toArray listed := by
              refine mem_ready.2 ⟨?_, l[k], by simp [hkl], fun e he hb' => ?_⟩
              · rw [← hb]; simp [Array.getD, show k < listed.size by omega]
              · have hd := (hsh k l[k] (by simp [hkl])).2.1 e.on (List.mem_map.2 ⟨e, List.mem_filter.2 ⟨by simpa using he, hb'⟩, rfl⟩)
                exact ih e.on (by omega) (by omega)
            rw [hr] at this; cases this
      have hvs : ∀ k, ∃ v, k < l.length → (fin k = true → φ k v w) ∧ ∀ ok, l[k]? = some ok → ∀ t, ok.dst = some t → a.tmps[t]? = some v := by
        intro k
        by_cases hk : k < l.length
        · obtain ⟨_, v, h1, h2⟩ := hdn k l[k] (all k k (Nat.le_refl _) hk) (by simp [hk])
          refine ⟨v, fun _ => ⟨fun hf => h1 (Or.inl hf), fun ok hok t ht => ?_⟩⟩
          rw [List.getElem?_eq_getElem hk] at hok
          exact h2 t (by rw [Option.some.inj hok]; exact ht)
        · exact ⟨undef, fun h => absurd h hk⟩
      have hch := Classical.skolem.1 hvs
      obtain ⟨vs, hvs⟩ := hch
      have hq := hend vs w hc (fun i hi hf => (hvs i hi).1 hf)
      have e : putList l 0 vs a0 = a := by
        obtain ⟨p1, p2, p3⟩ := putList_tmps l 0 vs a0
        have et : (putList l 0 vs a0).tmps = a.tmps := by
          apply Array.ext_getElem?
          intro t
          by_cases hex : ∃ (j : Nat) (o : Oper), l[j]? = some o ∧ o.dst = some t
          · obtain ⟨j, o, hj, hd⟩ := hex
            have hjl := (List.getElem?_eq_some_iff.1 hj).1
            have hlt := ((hsh j o hj).2.2 t hd).1
            rw [putList_at l 0 vs a0 j o t hj hd hlt (fun j' o' hjj ho' hd' => ((hsh j' o' ho').2.2 t hd').2.2 j o hjj hj hd), Nat.zero_add, (hvs j hjl).2 o hj t hd]
          · have hno : ∀ (j : Nat) (o : Oper), l[j]? = some o → o.dst ≠ some t := fun j o hj hd => hex ⟨j, o, hj, hd⟩
            rw [p3 t hno, hag t (fun k ok _ hk => hno k ok hk)]
        cases a
        cases hpl : putList l 0 vs a0
        rw [hpl] at et p1
        simp only at et p1 hdf
        rw [et, p1, hdf]
      rwa [e] at hq
    induction fuel with
    | zero =>
      intro listed a w hc hls hcnt hdf hts hag hdn
      have hr : Region.ready .any l.toArray listed = [] := by
        rw [List.eq_nil_iff_forall_not_mem]
        intro j hj
        obtain ⟨h1, o, ho, _⟩ := mem_ready.1 hj
        have hjl : j < listed.size := by
          rcases Nat.lt_or_ge j listed.size with h | h
          · exact h
          · simp [Array.getD, show ¬ j < listed.size by omega] at h1
        have h0 : listed.toList.countP (! ·) = 0 := by omega
        rw [List.countP_eq_zero] at h0
        have := h0 listed[j] (by simp)
        simp [Array.getD, hjl] at h1
        simp [h1] at this
      exact ⟨hr, fin listed a w hc hls hdf hts hag hdn hr⟩
    | succ fuel ih =>
      intro listed a w hc hls hcnt hdf hts hag hdn
      refine ⟨fun hr => fin listed a w hc hls hdf hts hag hdn hr, fun i hi => ?_⟩
      obtain ⟨hun, o, ho, hdeps⟩ := mem_ready.1 hi
      have hol : l[i]? = some o := by simpa using ho
      have hil := (List.getElem?_eq_some_iff.1 hol).1
      have hun' : listed.getD i false = false := by simp [Array.getD, show i < listed.size by omega] at hun ⊢; exact hun
      obtain ⟨s1, s2, s3⟩ := hsh i o hol
      have hdd : ∀ j ∈ depsOf o, listed.getD j false = true := by
        intro j hj
        obtain ⟨e, he, rfl⟩ := List.mem_map.1 hj
        obtain ⟨he1, he2⟩ := List.mem_filter.1 he
        exact hdeps e (by simpa using he1) he2
      have hancd : ∀ m k ok, k ≤ m → l[k]? = some ok → (∀ j ∈ depsOf ok, listed.getD j false = true) → ∀ j ∈ anc k, listed.getD j false = true := by
        intro m
        induction m with
        | zero =>
          intro k ok hk hok hd j hj
          rcases (han k ok hok).2 j hj with h | ⟨b, hb, _⟩
          · exact hd j h
          · have := (hsh k ok hok).2.1 b hb; omega
        | succ m ihm =>
          intro k ok hk hok hd j hj
          rcases (han k ok hok).2 j hj with h | ⟨b, hb, hjb⟩
          · exact hd j h
          · have hbk := (hsh k ok hok).2.1 b hb
            have hkl := (List.getElem?_eq_some_iff.1 hok).1
            have hbl : l[b]? = some l[b] := List.getElem?_eq_getElem (by omega)
            exact ihm b l[b] (by omega) hbl (hdn b l[b] (hd b hb) hbl).1 j hjb
      have hancd := fun k ok => hancd k k ok (Nat.le_refl _)
      unfold wpOp
      rw [ho]
      simp only [Region.wanted, s1, if_true]
      refine Or.inl (hop' i o hol a w hc ?_ ?_ _ ?_)
      · intro t ht
        have := hag t (fun k ok hk hok hd => by
          have h1 := ht k ok hok hd
          have h2 := (hdn k ok hk hok).1 i h1
          rw [hun'] at h2; cases h2)
        show a.tmps.getD t undef = a0.tmps.getD t undef
        rw [Array.getD_eq_getD_getElem?, Array.getD_eq_getD_getElem?, this]
      · intro k hk ok hok
        obtain ⟨_, v, h1, h2⟩ := hdn k ok (hdd k ((han i o hol).1 k hk)) hok
        refine ⟨v, h1 (Or.inr ⟨i, hil, hun', hk⟩), fun t ht => ?_⟩
        show a.tmps.getD t undef = v
        rw [Array.getD_eq_getD_getElem?, h2 t ht]
        rfl
      · intro v w' hv hL
        have hget : ∀ k, (listed.setIfInBounds i true).getD k false = if k = i then true else listed.getD k false := by
          intro k
          rw [Array.getD_eq_getD_getElem?, Array.getD_eq_getD_getElem?, Array.getElem?_setIfInBounds]
          by_cases hk : i = k
          · rw [if_pos hk, if_pos hk.symm, if_pos (by omega)]; rfl
          · rw [if_neg hk, if_neg (fun e => hk e.symm)]
        refine ih (listed.setIfInBounds i true) (a.put o.dst v) w' (hCL _ _ _ hc hL) (by simp [hls]) ?_ ?_ ?_ ?_ ?_
        · -- one less is left
          have hi' : i < listed.toList.length := by simp; omega
          have hfi : listed.toList[i] = false := by simp [Array.getD, show i < listed.size by omega] at hun'; simpa using hun'
          have e1 : listed.toList = listed.toList.take i ++ false :: listed.toList.drop (i + 1) := by
            rw [← hfi, List.getElem_cons_drop, List.take_append_drop]
          have e2 : (listed.setIfInBounds i true).toList = listed.toList.take i ++ true :: listed.toList.drop (i + 1) := by
            rw [Array.toList_setIfInBounds, List.set_eq_take_append_cons_drop, if_pos hi']
          rw [e2]
          rw [e1] at hcnt
          simp only [List.countP_append, List.countP_cons] at hcnt ⊢
          simp at hcnt ⊢
          omega
        · unfold Act.put; cases o.dst <;> exact hdf
        · unfold Act.put; cases o.dst <;> simp [hts]
        · intro t ht
          have h1 : o.dst ≠ some t := ht i o (by rw [hget]; simp) hol
          have h2 := hag t (fun k ok hk hok => ht k ok (by rw [hget]; split <;> simp_all) hok)
          rw [← h2]
          unfold Act.put
          cases hd : o.dst with
          | none => rfl
          | some s =>
            show (a.tmps.setIfInBounds s v)[t]? = _
            rw [Array.getElem?_setIfInBounds, if_neg (fun e => h1 (by rw [hd, e]))]
        · intro k ok hk hok
          rw [hget] at hk
          by_cases hki : k = i
          · subst hki
            rw [hol] at hok
            obtain rfl := Option.some.inj hok
            refine ⟨fun j hj => by rw [hget]; split <;> simp [hdd j hj], v, fun _ => hv, fun t ht => ?_⟩
            rw [ht]
            show (a.tmps.setIfInBounds t v)[t]? = _
            rw [Array.getElem?_setIfInBounds, if_pos rfl, if_pos (by rw [hts]; exact (s3 t ht).1)]
          · rw [if_neg hki] at hk
            obtain ⟨h1, v', h2, h3⟩ := hdn k ok hk hok
            refine ⟨fun j hj => by rw [hget]; split <;> simp [h1 j hj], v', fun hn => ?_, fun t ht => ?_⟩
            · have hkl := (List.getElem?_eq_some_iff.1 hok).1
              have hik : i ∉ anc k := fun hd => by have := hancd k ok hok h1 i hd; rw [hun'] at this; cases this
              rcases hn with hn | ⟨j, hj1, hj2, hj3⟩
              · exact hφ k i hkl hil hki (by simp [needB, hn, hik]) _ _ _ hc (h2 (Or.inl hn)) hL
              · rw [hget] at hj2
                have hji : j ≠ i := fun e => by rw [if_pos e] at hj2; cases hj2
                rw [if_neg hji] at hj2
                have hna : j ∉ anc i := fun hd => by rw [hancd i o hol hdd j hd] at hj2; cases hj2
                exact hφ k i hkl hil hki (by simp only [needB, Bool.or_eq_true, List.any_eq_true, List.mem_range, Bool.and_eq_true]; exact ⟨by simpa using hik, Or.inr ⟨j, hj1, ⟨by simpa using hji, by simpa using hj3⟩, by simpa using hna⟩⟩) _ _ _ hc (h2 (Or.inr ⟨j, hj1, hj2, hj3⟩)) hL
            have hne : o.dst ≠ some t := by
              intro hd
              rcases Nat.lt_trichotomy k i with h | h | h
              · exact (s3 t hd).2.2 k ok h hok ht
              · exact hki h
              · exact ((hsh k ok hok).2.2 t ht).2.2 i o h hol hd
            rw [← h3 t ht]
            unfold Act.put
            cases hd : o.dst with
            | none => rfl
            | some s =>
              show (a.tmps.setIfInBounds s v)[t]? = _
              rw [Array.getElem?_setIfInBounds, if_neg (fun e => hne (by rw [hd, e]))]
  refine wp_region_any hm (main l.toArray.size _ a0 _ hC (by simp) ?_ rfl rfl (fun _ _ => rfl) ?_)
  · refine Nat.le_trans (List.countP_le_length) (by simp)
  · intro k ok hk
    simp [Array.getD] at hk
end Go.Proofs.Ytgdiajhegmdfgaa
