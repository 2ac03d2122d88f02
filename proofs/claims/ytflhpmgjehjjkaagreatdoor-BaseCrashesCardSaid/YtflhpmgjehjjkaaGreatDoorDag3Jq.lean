/- As XDag, where the operations' slots lie anywhere: among them a variable that the region makes (an alloc into a slot ahead of the row). Over any program. -/
import Derived.Test.YtflhpmgjehjjkaaGreatDoorDag2Jq
namespace Go.Proofs.YtflhpmgjehjjkaaGreatDoor
open Go.RowKit

/-- How the region looks: no guards; each slot where 'sl' says; each waits for earlier ones alone; for each a later one waits. -/
def dagBS (sl : Nat → Nat) (l : List Oper) (oL : Oper) : Bool :=
  (List.range (l.length + 1)).all (fun i => match (l ++ [oL])[i]? with
    | none => false
    | some o => o.guard.isNone && o.after.all (fun e => !Region.binds .any e || decide (e.on < i)) && (decide (i = l.length) || (o.dst == some (sl i) &&
        (List.range (l.length + 1)).any (fun j => match (l ++ [oL])[j]? with | none => false | some o' => decide (i < j) && o'.after.any (fun e => Region.binds .any e && e.on == i)))))
structure DagSpecS (sl : Nat → Nat) (l : List Oper) (oL : Oper) : Prop where
  guard : ∀ (i : Nat) (o : Oper), (l ++ [oL])[i]? = some o → o.guard = none
  binds : ∀ (i : Nat) (o : Oper), (l ++ [oL])[i]? = some o → ∀ e ∈ o.after, Region.binds .any e = true → e.on < i
  dst : ∀ (i : Nat) (o : Oper), i < l.length → (l ++ [oL])[i]? = some o → o.dst = some (sl i)
  later : ∀ i, i < l.length → ∃ (j : Nat) (o : Oper), (l ++ [oL])[j]? = some o ∧ i < j ∧ ∃ e ∈ o.after, Region.binds .any e = true ∧ e.on = i
theorem dagBS_spec {sl : Nat → Nat} {l : List Oper} {oL : Oper} (h : dagBS sl l oL = true) : DagSpecS sl l oL := by
  have h' : ∀ i o, (l ++ [oL])[i]? = some o → (o.guard.isNone && o.after.all (fun e => !Region.binds .any e || decide (e.on < i)) && (decide (i = l.length) || (o.dst == some (sl i) &&
        (List.range (l.length + 1)).any (fun j => match (l ++ [oL])[j]? with | none => false | some o' => decide (i < j) && o'.after.any (fun e => Region.binds .any e && e.on == i))))) = true := by
    intro i o ho
    have hi : i < l.length + 1 := by have := (List.getElem?_eq_some_iff.1 ho).1; simpa using this
    have := List.all_eq_true.1 h i (List.mem_range.2 hi)
    simpa only [ho] using this
  simp only [Bool.and_eq_true, Bool.or_eq_true, decide_eq_true_eq, beq_iff_eq, Array.all_eq_true_iff_forall_mem, List.any_eq_true, List.mem_range, Option.isNone_iff_eq_none, Bool.not_eq_true'] at h'
  refine ⟨fun i o ho => (h' i o ho).1.1, fun i o ho e he hb => ((h' i o ho).1.2 e he).resolve_left (by simp [hb]), fun i o hi ho => ?_, fun i hi => ?_⟩
  · rcases (h' i o ho).2 with h1 | h1
    · omega
    · exact h1.1
  · obtain ⟨o, ho⟩ : ∃ o, (l ++ [oL])[i]? = some o := ⟨_, List.getElem?_eq_getElem (by simp; omega)⟩
    rcases (h' i o ho).2 with h1 | h1
    · omega
    · obtain ⟨j, hj, h2⟩ := h1.2
      split at h2
      · cases h2
      · rename_i o' ho'
        simp only [Bool.and_eq_true, decide_eq_true_eq] at h2
        obtain ⟨e, he, h3⟩ := Array.any_eq_true'.1 h2.2
        simp only [Bool.and_eq_true, beq_iff_eq] at h3
        exact ⟨j, o', ho', h2.1, e, he, h3⟩

section
/-- A frame by what the region's slots hold. -/
structure DagFr (F : List Value → Act) (sl : Nat → Nat) (n : Nat) (out : Nat → Bool) (a0 : Act) : Prop where
  put : ∀ (X : List Value) (i : Nat) (v : Value), X.length = n → i < n → (F X).put (some (sl i)) v = F (X.set i v)
  mid : ∀ (X : List Value) (j : Nat), X.length = n → j < n → (F X).eval (.tmp (sl j)) = X.getD j undef
  pre : ∀ (X : List Value) (t : Nat), X.length = n → out t = true → (F X).eval (.tmp t) = a0.eval (.tmp t)
variable {P : Program} {Q : Exit → Act → World → Prop} {F : List Value → Act} {sl : Nat → Nat} {out : Nat → Bool} {a0 : Act} {C : World → Prop} {Rel : World → World → Prop} {φ : Nat → World → Value → Prop}

/-- One operation, whatever has come up so far beyond what it waits for. -/
def DagStepS (P : Program) (Q : Exit → Act → World → Prop) (sl : Nat → Nat) (out : Nat → Bool) (a0 : Act) (C : World → Prop) (Rel : World → World → Prop) (φ : Nat → World → Value → Prop) (i : Nat) (o : Oper) : Prop :=
  ∀ (A : Act) (w : World) (K : Act → World → Prop), C w → (∀ t, out t = true → A.eval (.tmp t) = a0.eval (.tmp t)) → (∀ j : Nat, o.after.any (fun e => Region.binds .any e && e.on == j) = true → φ j w (A.eval (.tmp (sl j)))) →
    (∀ v w', C w' → Rel w w' → φ i w' v → K (A.put o.dst v) w') → o.wp P A w K Q
def DagStepsS (P : Program) (Q : Exit → Act → World → Prop) (sl : Nat → Nat) (out : Nat → Bool) (a0 : Act) (C : World → Prop) (Rel : World → World → Prop) (φ : Nat → World → Value → Prop) : Nat → List Oper → Prop
  | _, [] => True
  | i, o :: l => DagStepS P Q sl out a0 C Rel φ i o ∧ DagStepsS P Q sl out a0 C Rel φ (i + 1) l
theorem DagStepsS.get : ∀ {l : List Oper} {k : Nat}, DagStepsS P Q sl out a0 C Rel φ k l → ∀ i o, l[i]? = some o → DagStepS P Q sl out a0 C Rel φ (k + i) o
  | [], _, _, i, o, h => by simp at h
  | a :: l, k, h, 0, o, ho => by simp at ho; subst ho; exact h.1
  | a :: l, k, h, i + 1, o, ho => by
    have := DagStepsS.get h.2 i o (by simpa using ho)
    rwa [show k + 1 + i = k + (i + 1) by omega] at this

theorem dag_allS {l : List Oper} {oL : Oper} (hs : DagSpecS sl l oL) {listed : Array Bool} {X : List Value} {w : World} (h : DagInv l oL C φ listed X w) (hr : ∀ e ∈ oL.after, Region.binds .any e = true → listed.getD e.on true = true) :
    ∀ d i, i < l.length → l.length - i ≤ d → listed.getD i true = true
  | 0, i, hi, hd => by omega
  | d + 1, i, hi, hd => by
    obtain ⟨j, o, ho, hij, e, he, heb, hei⟩ := hs.later i hi
    have hj : j ≤ l.length := by have := (List.getElem?_eq_some_iff.1 ho).1; simp at this; omega
    rcases Nat.eq_or_lt_of_le hj with h1 | h1
    · subst h1
      simp at ho
      subst ho
      rw [← hei]; exact hr e he heb
    · have := dag_allS hs h hr d j h1 (by omega)
      rw [← hei]
      exact h.closed j o ho this e he heb

theorem dag_not_doneS {l : List Oper} {oL : Oper} (hs : DagSpecS sl l oL) {listed : Array Bool} {X : List Value} {w : World} (h : DagInv l oL C φ listed X w) : Region.ready .any (l ++ [oL]).toArray listed ≠ [] := by
  intro h0
  -- the least one that has not come up is ready
  have hmin : ∀ n, ∀ i, i < n → i ≤ l.length → listed.getD i true = true := by
    intro n
    induction n with
    | zero => intro i hi; omega
    | succ n ih =>
      intro i hi hil
      by_cases hc : listed.getD i true = true
      · exact hc
      · exfalso
        obtain ⟨o, ho⟩ : ∃ o, (l ++ [oL])[i]? = some o := ⟨_, List.getElem?_eq_getElem (by simp; omega)⟩
        have hm : i ∈ Region.ready .any (l ++ [oL]).toArray listed := by
          refine mem_ready.2 ⟨by simpa using hc, o, by simpa using ho, fun e he heb => ?_⟩
          have hb := hs.binds i o ho e he heb
          have := ih e.on (by omega) (by omega)
          have hlt : e.on < listed.size := by have := h.sz; omega
          simp only [Array.getD, hlt, dif_pos] at this ⊢
          exact this
        rw [h0] at hm; cases hm
  have := hmin (l.length + 1) l.length (by omega) (Nat.le_refl _)
  rw [h.last] at this; cases this

theorem dag_runS {l : List Oper} {oL : Oper} (hs : DagSpecS sl l oL) (hF : DagFr F sl l.length out a0) (hmono : ∀ i w w' v, C w → C w' → Rel w w' → φ i w v → φ i w' v)
    (hst : DagStepsS P Q sl out a0 C Rel φ 0 l)
    (hl : ∀ (X : List Value) (w : World), X.length = l.length → C w → (∀ i, i < l.length → φ i w (X.getD i undef)) → oL.wp P (F X) w (fun a w => Q .normal a w) Q) :
    ∀ (fuel : Nat) (listed : Array Bool) (X : List Value) (w : World), DagInv l oL C φ listed X w → listed.toList.countP (!·) ≤ fuel → wpAny P .any (l ++ [oL]).toArray Q fuel listed (F X) w := by
  have hnot := fun (listed : Array Bool) (X : List Value) (w : World) (h : DagInv l oL C φ listed X w) => dag_not_doneS hs h
  intro fuel
  induction fuel with
  | zero =>
    intro listed X w h hc
    have := count_zero (l := listed) (by omega) l.length
    have h2 := h.last
    rw [this] at h2; cases h2
  | succ fuel ih =>
    intro listed X w h hc
    refine ⟨fun h0 => absurd h0 (hnot listed X w h), fun i hi => ?_⟩
    obtain ⟨hun, o, ho, hall⟩ := mem_ready.1 hi
    have ho' : (l ++ [oL])[i]? = some o := by simpa using ho
    have hil : i ≤ l.length := by have := (List.getElem?_eq_some_iff.1 ho').1; simp at this; omega
    have hw : Region.wanted o (yielded (l ++ [oL]).toArray (F X).tmps) = true := by
      have hg := hs.guard i o ho'
      simp [Region.wanted, hg]
    have hdep : ∀ e ∈ o.after, Region.binds .any e = true → listed.getD e.on true = true := fun e he heb => getD_false_true (hall e he heb)
    have hsz : i < listed.size := by rw [h.sz]; omega
    unfold wpOp
    simp only [ho, hw, if_true]
    refine Or.inl ?_
    rcases Nat.eq_or_lt_of_le hil with h1 | h1
    · subst h1
      have : o = oL := by simp at ho'; exact ho'.symm
      subst this
      have hlisted := fun j hj => dag_allS hs h hdep (l.length - j) j hj (Nat.le_refl _)
      refine Oper.wp_mono (fun a w' hq => ?_) (hl X w h.len h.c (fun j hj => h.holds j hj (hlisted j hj)))
      refine wpAny_done ?_ hq fuel
      rw [List.eq_nil_iff_forall_not_mem]
      intro j hj
      obtain ⟨hju, oj, hoj, _⟩ := mem_ready.1 hj
      have hjl : j ≤ l.length := by have := (Array.getElem?_eq_some_iff.1 hoj).1; simp at this; omega
      rcases Nat.eq_or_lt_of_le hjl with h2 | h2
      · subst h2; rw [getD_set_self hsz] at hju; cases hju
      · rw [getD_set_ne true (by omega), hlisted j h2] at hju; cases hju
    · have hstep := DagStepsS.get hst i o (by rw [List.getElem?_append_left h1] at ho'; exact ho')
      rw [Nat.zero_add] at hstep
      refine hstep _ w _ h.c (fun t ht => hF.pre X t h.len ht) (fun j hj => ?_) fun v w' hC hR hφ => ?_
      · obtain ⟨e, he, hej⟩ := Array.any_eq_true'.1 hj
        simp only [Bool.and_eq_true, beq_iff_eq] at hej
        obtain ⟨heb, hej⟩ := hej
        have hjl : j < l.length := by have := hs.binds i o ho' e he heb; omega
        rw [hF.mid X j h.len hjl]
        exact h.holds j hjl (by rw [← hej]; exact hdep e he heb)
      rw [hs.dst i o h1 ho', hF.put X i v h.len h1]
      refine ih _ _ _ ⟨by simpa using h.sz, by simpa using h.len, hC, by rw [getD_set_ne true (by omega)]; exact h.last, fun j hj hjl => ?_, fun j oj hoj hjl e he heb => ?_⟩ (by have := count_set hun; omega)
      · by_cases hji : j = i
        · subst hji
          rw [List.getD_eq_getElem?_getD, List.getElem?_set_self (by rw [h.len]; exact hj)]
          exact hφ
        · rw [getD_set_ne true (Ne.symm hji)] at hjl
          rw [List.getD_eq_getElem?_getD, List.getElem?_set_ne (Ne.symm hji), ← List.getD_eq_getElem?_getD]
          exact hmono j w w' _ h.c hC hR (h.holds j hj hjl)
      · by_cases hje : e.on = i
        · rw [hje]; exact getD_set_self hsz true
        · rw [getD_set_ne true (Ne.symm hje)]
          by_cases hji : j = i
          · subst hji
            rw [ho'] at hoj; cases hoj
            exact hdep e he heb
          · rw [getD_set_ne true (Ne.symm hji)] at hjl
            exact h.closed j oj hoj hjl e he heb

theorem wp_region_dagS {id : Nat} {l : List Oper} {oL : Oper} {X0 : List Value} {w : World} (hm : P.follows .mixedOrders = true) (hB : dagBS sl l oL = true) (hF : DagFr F sl l.length out a0) (hmono : ∀ i w w' v, C w → C w' → Rel w w' → φ i w v → φ i w' v)
    (hX : X0.length = l.length) (hC : C w.drew)
    (hst : DagStepsS P Q sl out a0 C Rel φ 0 l)
    (hl : ∀ (X : List Value) (w : World), X.length = l.length → C w → (∀ i, i < l.length → φ i w (X.getD i undef)) → oL.wp P (F X) w (fun a w => Q .normal a w) Q) :
    (Code.region id (l ++ [oL]).toArray true).wp P Q (F X0) w := by
  refine wp_region_any hm ?_
  refine dag_runS (dagBS_spec hB) hF hmono hst hl _ _ X0 _ ⟨by simp, hX, hC, ?_, fun i hi hl => ?_, fun i o ho hl => ?_⟩ ?_
  · simp [Array.getD_eq_getD_getElem?]
  · simp [Array.getD_eq_getD_getElem?, Nat.lt_succ_of_lt hi] at hl
  · have hi := (List.getElem?_eq_some_iff.1 ho).1
    simp only [List.length_append, List.length_singleton] at hi
    simp [Array.getD_eq_getD_getElem?, hi] at hl
  · have := List.countP_le_length (p := (!·)) (l := (Array.replicate (l ++ [oL]).toArray.size false).toList)
    simpa using this
end
/-! ### One slot ahead of the row (a variable that the region makes), the others in a row -/
def slOne (p0 lo m : Nat) (i : Nat) : Nat := if i = m then p0 else lo + i
def frOne (pre post : List Value) (df : List Deferred) (p0 m : Nat) (X : List Value) : Act := ⟨(pre.set p0 (X.getD m undef) ++ X.take m ++ post).toArray, df⟩
theorem frOne_fr (pre post : List Value) (df : List Deferred) (p0 m : Nat) (hp : p0 < pre.length) :
    DagFr (frOne pre post df p0 m) (slOne p0 pre.length m) (m + 1) (fun t => decide (t < pre.length) && !decide (t = p0)) ⟨pre.toArray, df⟩ where
  put X i v hX hi := by
    unfold frOne slOne Act.put
    simp only [Act.mk.injEq, and_true, List.setIfInBounds_toArray]
    by_cases him : i = m
    · subst him
      rw [if_pos rfl, List.append_assoc, List.set_append_left _ _ (by simpa using hp), List.set_set, List.append_assoc]
      congr 2
      · rw [List.getD_eq_getElem?_getD, List.getElem?_set_self (by omega)]; rfl
      · rw [List.take_set]
        rw [List.set_eq_of_length_le (by rw [List.length_take]; exact Nat.min_le_left _ _)]
    · rw [if_neg him, List.append_assoc, List.set_append_right _ _ (by simp), List.set_append_left _ _ (by simp; omega), List.append_assoc]
      congr 3
      · rw [List.getD_eq_getElem?_getD, List.getD_eq_getElem?_getD, List.getElem?_set_ne (by omega)]
      · rw [List.take_set]; congr 1; simp
  mid X j hX hj := by
    unfold frOne slOne Act.eval
    simp only [Array.getD_eq_getD_getElem?, List.getElem?_toArray, List.getD_eq_getElem?_getD]
    by_cases hjm : j = m
    · subst hjm
      rw [if_pos rfl, List.append_assoc, List.getElem?_append_left (by simpa using hp), List.getElem?_set_self hp]; rfl
    · rw [if_neg hjm, List.append_assoc, List.getElem?_append_right (by simp), List.getElem?_append_left (by simp; omega), List.getElem?_take, if_pos (by simp; omega)]
      congr 2; simp
  pre X t hX ht := by
    simp only [Bool.and_eq_true, decide_eq_true_eq, Bool.not_eq_true', decide_eq_false_iff_not] at ht
    unfold frOne Act.eval
    simp only [Array.getD_eq_getD_getElem?, List.getElem?_toArray]
    rw [List.append_assoc, List.getElem?_append_left (by simpa using ht.1), List.getElem?_set_ne (fun e => ht.2 e.symm)]
section
variable {P : Program} {Q : Exit → Act → World → Prop} {df : List Deferred}
/-- The region and the frame written out: m operations whose slots lie from lo on, one (the m-th) whose slot is p0, and the last one. -/
theorem wp_region_dag_one {id : Nat} {ops : List Oper} {tmps : List Value} {w : World} (p0 lo m : Nat) (oL : Oper) (C : World → Prop) (Rel : World → World → Prop) (φ : Nat → World → Value → Prop) (hL : ops.drop (m + 1) = [oL]) (hm : P.follows .mixedOrders = true)
    (hlo : (tmps.take lo).length = lo) (hp : p0 < lo) (hB : dagBS (slOne p0 lo m) (ops.take (m + 1)) oL = true) (hmono : ∀ i w w' v, C w → C w' → Rel w w' → φ i w v → φ i w' v) (hX : ((tmps.drop lo).take m).length = m) (hn : (ops.take (m + 1)).length = m + 1) (hC : C w.drew)
    (hst : DagStepsS P Q (slOne p0 lo m) (fun t => decide (t < lo) && !decide (t = p0)) ⟨(tmps.take lo).toArray, df⟩ C Rel φ 0 (ops.take (m + 1)))
    (hl : ∀ (X : List Value) (w : World), X.length = m + 1 → C w → (∀ i, i < m + 1 → φ i w (X.getD i undef)) → oL.wp P (frOne (tmps.take lo) ((tmps.drop lo).drop m) df p0 m X) w (fun a w => Q .normal a w) Q) :
    (Code.region id ops.toArray true).wp P Q ⟨tmps.toArray, df⟩ w := by
  have e1 : ops = ops.take (m + 1) ++ [oL] := by rw [← hL, List.take_append_drop]
  have hF := frOne_fr (tmps.take lo) ((tmps.drop lo).drop m) df p0 m (by omega)
  rw [hlo] at hF
  have e2 : frOne (tmps.take lo) ((tmps.drop lo).drop m) df p0 m ((tmps.drop lo).take m ++ [tmps.getD p0 undef]) = ⟨tmps.toArray, df⟩ := by
    unfold frOne
    have h1 : ((tmps.drop lo).take m ++ [tmps.getD p0 undef]).getD m undef = tmps.getD p0 undef := by
      rw [List.getD_eq_getElem?_getD, List.getElem?_append_right (by omega), hX]; simp
    have h2 : ((tmps.drop lo).take m ++ [tmps.getD p0 undef]).take m = (tmps.drop lo).take m := by
      rw [List.take_append_of_le_length (by omega), List.take_of_length_le (by omega)]
    have hpl : p0 < tmps.length := by rw [List.length_take] at hlo; omega
    have h3 : (tmps.take lo).set p0 (tmps.getD p0 undef) = tmps.take lo := by
      rw [List.getD_eq_getElem?_getD, List.getElem?_eq_getElem hpl, Option.getD_some]
      have : tmps[p0] = (tmps.take lo)[p0]'(by omega) := by simp
      rw [this, List.set_getElem_self]
    rw [h1, h2, h3, List.append_assoc, List.take_append_drop, List.take_append_drop]
  rw [← e2]
  have := wp_region_dagS (id := id) (X0 := (tmps.drop lo).take m ++ [tmps.getD p0 undef]) (w := w) hm hB (by rw [hn]; exact hF) hmono (by rw [List.length_append, hX, hn]; rfl) hC hst (fun X w h1 h2 h3 => hl X w (by rw [h1, hn]) h2 (by rw [← hn]; exact h3))
  rw [← e1] at this
  exact this
end
end Go.Proofs.YtflhpmgjehjjkaaGreatDoor
