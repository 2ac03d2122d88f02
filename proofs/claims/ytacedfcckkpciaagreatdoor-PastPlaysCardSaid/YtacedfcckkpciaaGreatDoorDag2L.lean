/- A region that draws its order and ends in one operation that waits for all others: where most operations yield one known value whatever the others do ('pure': moves, addresses, loads of what is not written but by the last one), only the orders of the others are to be walked. Over any program. -/
import Derived.BigRegion
import Derived.Test.YtacedfcckkpciaaGreatDoorKitL
import Derived.Test.YtacedfcckkpciaaGreatDoorAppL
namespace Go.Proofs.YtacedfcckkpciaaGreatDoor
open Go.RowKit

def dagFrame (pre post : List Value) (df : List Deferred) (X : List Value) : Act := ⟨(pre ++ X ++ post).toArray, df⟩
theorem dagFrame_put {pre post X : List Value} {df : List Deferred} {i : Nat} {v : Value} (hi : i < X.length) : (dagFrame pre post df X).put (some (pre.length + i)) v = dagFrame pre post df (X.set i v) := by
  unfold dagFrame Act.put
  simp only [Act.mk.injEq, and_true]
  rw [List.setIfInBounds_toArray, List.append_assoc, List.set_append_right _ _ (by omega), List.set_append_left _ _ (by omega), List.append_assoc]
  congr 4
  omega
theorem dagFrame_pre {pre post X : List Value} {df : List Deferred} {t : Nat} (ht : t < pre.length) : (dagFrame pre post df X).eval (.tmp t) = pre.getD t undef := by
  unfold dagFrame Act.eval
  simp only [Array.getD_eq_getD_getElem?, List.getElem?_toArray, List.getD_eq_getElem?_getD]
  rw [List.append_assoc, List.getElem?_append_left ht]
theorem dagFrame_mid {pre post X : List Value} {df : List Deferred} {j : Nat} (hj : j < X.length) : (dagFrame pre post df X).eval (.tmp (pre.length + j)) = X.getD j undef := by
  unfold dagFrame Act.eval
  simp only [Array.getD_eq_getD_getElem?, List.getElem?_toArray, List.getD_eq_getElem?_getD]
  rw [List.append_assoc, List.getElem?_append_right (by omega), List.getElem?_append_left (by omega)]
  congr 2; omega
/-- How the region looks: no guards; the slots in a row; each waits for earlier ones alone; for each a later one waits. -/
def dagB (base : Nat) (l : List Oper) (oL : Oper) : Bool :=
  (List.range (l.length + 1)).all (fun i => match (l ++ [oL])[i]? with
    | none => false
    | some o => o.guard.isNone && o.after.all (fun e => !Region.binds .any e || decide (e.on < i)) && (decide (i = l.length) || (o.dst == some (base + i) &&
        (List.range (l.length + 1)).any (fun j => match (l ++ [oL])[j]? with | none => false | some o' => decide (i < j) && o'.after.any (fun e => Region.binds .any e && e.on == i)))))
structure DagSpec (base : Nat) (l : List Oper) (oL : Oper) : Prop where
  guard : ∀ (i : Nat) (o : Oper), (l ++ [oL])[i]? = some o → o.guard = none
  binds : ∀ (i : Nat) (o : Oper), (l ++ [oL])[i]? = some o → ∀ e ∈ o.after, Region.binds .any e = true → e.on < i
  dst : ∀ (i : Nat) (o : Oper), i < l.length → (l ++ [oL])[i]? = some o → o.dst = some (base + i)
  later : ∀ i, i < l.length → ∃ (j : Nat) (o : Oper), (l ++ [oL])[j]? = some o ∧ i < j ∧ ∃ e ∈ o.after, Region.binds .any e = true ∧ e.on = i
theorem dagB_spec {base : Nat} {l : List Oper} {oL : Oper} (h : dagB base l oL = true) : DagSpec base l oL := by
  have h' : ∀ i o, (l ++ [oL])[i]? = some o → (o.guard.isNone && o.after.all (fun e => !Region.binds .any e || decide (e.on < i)) && (decide (i = l.length) || (o.dst == some (base + i) &&
        (List.range (l.length + 1)).any (fun j => match (l ++ [oL])[j]? with | none => false | some o' => decide (i < j) && o'.after.any (fun e => Region.binds .any e && e.on == i))))) = true := by
    intro i o ho
    have hi : i < l.length + 1 := by have := (List.getElem?_eq_some_iff.1 ho).1; simpa using this
    have := List.all_eq_true.1 h i (List.mem_range.2 hi)
    simpa only [ho] using this
  simp only [Bool.and_eq_true, Bool.or_eq_true, decide_eq_true_eq, beq_iff_eq, Array.all_eq_true_iff_forall_mem, List.any_eq_true, List.mem_range, Option.isNone_iff_eq_none, Bool.not_eq_true'] at h'
  refine ⟨fun i o ho => (h' i o ho).1.1, fun i o ho e he hb => ((h' i o ho).1.2 e he).resolve_left (by simp [hb]), fun i o hi ho => ?_, fun i hi => ?_⟩
  · rcases (h' i o ho).2 with h1 | h1
    · omega
    · exact h1.1
  · obtain ⟨o, ho⟩ : ∃ o, (l ++ [oL])[i]? = some o := ⟨_, List.getElem?_eq_getElem (by simp; omega)⟩
    rcases (h' i o ho).2 with h1 | h1
    · omega
    · obtain ⟨j, hj, h2⟩ := h1.2
      split at h2
      · cases h2
      · rename_i o' ho'
        simp only [Bool.and_eq_true, decide_eq_true_eq] at h2
        obtain ⟨e, he, h3⟩ := Array.any_eq_true'.1 h2.2
        simp only [Bool.and_eq_true, beq_iff_eq] at h3
        exact ⟨j, o', ho', h2.1, e, he, h3⟩

section
variable {P : Program} {Q : Exit → Act → World → Prop} {pre post : List Value} {df : List Deferred} {C : World → Prop} {Rel : World → World → Prop} {φ : Nat → World → Value → Prop}

/-- One operation, whatever has come up so far beyond what it waits for. -/
def DagStep (P : Program) (Q : Exit → Act → World → Prop) (pre : List Value) (C : World → Prop) (Rel : World → World → Prop) (φ : Nat → World → Value → Prop) (i : Nat) (o : Oper) : Prop :=
  ∀ (A : Act) (w : World) (K : Act → World → Prop), C w → (∀ t, t < pre.length → A.eval (.tmp t) = pre.getD t undef) → (∀ j : Nat, o.after.any (fun e => Region.binds .any e && e.on == j) = true → φ j w (A.eval (.tmp (pre.length + j)))) →
    (∀ v w', C w' → Rel w w' → φ i w' v → K (A.put o.dst v) w') → o.wp P A w K Q
def DagSteps (P : Program) (Q : Exit → Act → World → Prop) (pre : List Value) (C : World → Prop) (Rel : World → World → Prop) (φ : Nat → World → Value → Prop) : Nat → List Oper → Prop
  | _, [] => True
  | i, o :: l => DagStep P Q pre C Rel φ i o ∧ DagSteps P Q pre C Rel φ (i + 1) l
theorem DagSteps.get : ∀ {l : List Oper} {k : Nat}, DagSteps P Q pre C Rel φ k l → ∀ i o, l[i]? = some o → DagStep P Q pre C Rel φ (k + i) o
  | [], _, _, i, o, h => by simp at h
  | a :: l, k, h, 0, o, ho => by simp at ho; subst ho; exact h.1
  | a :: l, k, h, i + 1, o, ho => by
    have := DagSteps.get h.2 i o (by simpa using ho)
    rwa [show k + 1 + i = k + (i + 1) by omega] at this

theorem getD_set_self {listed : Array Bool} {i : Nat} (h : i < listed.size) (d : Bool) : (listed.setIfInBounds i true).getD i d = true := by
  simp [Array.getD_eq_getD_getElem?, h]
theorem count_set {l : Array Bool} {i : Nat} (hi : l.getD i true = false) : (l.setIfInBounds i true).toList.countP (!·) + 1 = l.toList.countP (!·) := by
  obtain ⟨l⟩ := l
  simp only [List.setIfInBounds_toArray]
  have hi' : l[i]? = some false := by
    rw [Array.getD_eq_getD_getElem?] at hi
    simp only [List.getElem?_toArray] at hi
    cases h : l[i]? with
    | none => rw [h] at hi; cases hi
    | some b => rw [h] at hi; simp at hi; rw [hi]
  clear hi
  induction l generalizing i with
  | nil => simp at hi'
  | cons a l ih =>
    cases i with
    | zero => simp at hi'; subst hi'; simp
    | succ i =>
      have := ih (i := i) (by simpa using hi')
      simp only [List.set_cons_succ, List.countP_cons]
      omega
theorem count_zero {l : Array Bool} (h : l.toList.countP (!·) = 0) (i : Nat) : l.getD i true = true := by
  rw [List.countP_eq_zero] at h
  rw [Array.getD_eq_getD_getElem?]
  cases hg : l[i]? with
  | none => rfl
  | some b =>
    have := h b (by rw [Array.mem_toList_iff]; exact Array.mem_of_getElem? hg)
    simpa using this

/-- What is known while the region runs. -/
structure DagInv (l : List Oper) (oL : Oper) (C : World → Prop) (φ : Nat → World → Value → Prop) (listed : Array Bool) (X : List Value) (w : World) : Prop where
  sz : listed.size = l.length + 1
  len : X.length = l.length
  c : C w
  last : listed.getD l.length true = false
  holds : ∀ i, i < l.length → listed.getD i true = true → φ i w (X.getD i undef)
  closed : ∀ i o, (l ++ [oL])[i]? = some o → listed.getD i true = true → ∀ e ∈ o.after, Region.binds .any e = true → listed.getD e.on true = true

theorem dag_all {base : Nat} {l : List Oper} {oL : Oper} (hs : DagSpec base l oL) {listed : Array Bool} {X : List Value} {w : World} (h : DagInv l oL C φ listed X w) (hr : ∀ e ∈ oL.after, Region.binds .any e = true → listed.getD e.on true = true) :
    ∀ d i, i < l.length → l.length - i ≤ d → listed.getD i true = true
  | 0, i, hi, hd => by omega
  | d + 1, i, hi, hd => by
    obtain ⟨j, o, ho, hij, e, he, heb, hei⟩ := hs.later i hi
    have hj : j ≤ l.length := by have := (List.getElem?_eq_some_iff.1 ho).1; simp at this; omega
    rcases Nat.eq_or_lt_of_le hj with h1 | h1
    · subst h1
      simp at ho
      subst ho
      rw [← hei]; exact hr e he heb
    · have := dag_all hs h hr d j h1 (by omega)
      rw [← hei]
      exact h.closed j o ho this e he heb

theorem getD_false_true {listed : Array Bool} {i : Nat} (h : listed.getD i false = true) : listed.getD i true = true := by
  rw [Array.getD_eq_getD_getElem?] at *
  cases hg : listed[i]? with
  | none => rfl
  | some b => rw [hg] at h; exact h

theorem dag_not_done {base : Nat} {l : List Oper} {oL : Oper} (hs : DagSpec base l oL) {listed : Array Bool} {X : List Value} {w : World} (h : DagInv l oL C φ listed X w) : Region.ready .any (l ++ [oL]).toArray listed ≠ [] := by
  intro h0
  -- the least one that has not come up is ready
  have hmin : ∀ n, ∀ i, i < n → i ≤ l.length → listed.getD i true = true := by
    intro n
    induction n with
    | zero => intro i hi; omega
    | succ n ih =>
      intro i hi hil
      by_cases hc : listed.getD i true = true
      · exact hc
      · exfalso
        obtain ⟨o, ho⟩ : ∃ o, (l ++ [oL])[i]? = some o := ⟨_, List.getElem?_eq_getElem (by simp; omega)⟩
        have hm : i ∈ Region.ready .any (l ++ [oL]).toArray listed := by
          refine mem_ready.2 ⟨by simpa using hc, o, by simpa using ho, fun e he heb => ?_⟩
          have hb := hs.binds i o ho e he heb
          have := ih e.on (by omega) (by omega)
          have hlt : e.on < listed.size := by have := h.sz; omega
          simp only [Array.getD, hlt, dif_pos] at this ⊢
          exact this
        rw [h0] at hm; cases hm
  have := hmin (l.length + 1) l.length (by omega) (Nat.le_refl _)
  rw [h.last] at this; cases this

theorem dag_run {l : List Oper} {oL : Oper} (hs : DagSpec pre.length l oL) (hmono : ∀ i w w' v, C w → C w' → Rel w w' → φ i w v → φ i w' v)
    (hst : DagSteps P Q pre C Rel φ 0 l)
    (hl : ∀ (X : List Value) (w : World), X.length = l.length → C w → (∀ i, i < l.length → φ i w (X.getD i undef)) → oL.wp P (dagFrame pre post df X) w (fun a w => Q .normal a w) Q) :
    ∀ (fuel : Nat) (listed : Array Bool) (X : List Value) (w : World), DagInv l oL C φ listed X w → listed.toList.countP (!·) ≤ fuel → wpAny P .any (l ++ [oL]).toArray Q fuel listed (dagFrame pre post df X) w := by
  have hnot := fun (listed : Array Bool) (X : List Value) (w : World) (h : DagInv l oL C φ listed X w) => dag_not_done hs h
  intro fuel
  induction fuel with
  | zero =>
    intro listed X w h hc
    have := count_zero (l := listed) (by omega) l.length
    have h2 := h.last
    rw [this] at h2; cases h2
  | succ fuel ih =>
    intro listed X w h hc
    refine ⟨fun h0 => absurd h0 (hnot listed X w h), fun i hi => ?_⟩
    obtain ⟨hun, o, ho, hall⟩ := mem_ready.1 hi
    have ho' : (l ++ [oL])[i]? = some o := by simpa using ho
    have hil : i ≤ l.length := by have := (List.getElem?_eq_some_iff.1 ho').1; simp at this; omega
    have hw : Region.wanted o (yielded (l ++ [oL]).toArray (dagFrame pre post df X).tmps) = true := by
      have hg := hs.guard i o ho'
      simp [Region.wanted, hg]
    have hdep : ∀ e ∈ o.after, Region.binds .any e = true → listed.getD e.on true = true := fun e he heb => getD_false_true (hall e he heb)
    have hsz : i < listed.size := by rw [h.sz]; omega
    unfold wpOp
    simp only [ho, hw, if_true]
    refine Or.inl ?_
    rcases Nat.eq_or_lt_of_le hil with h1 | h1
    · subst h1
      have : o = oL := by simp at ho'; exact ho'.symm
      subst this
      have hlisted := fun j hj => dag_all hs h hdep (l.length - j) j hj (Nat.le_refl _)
      refine Oper.wp_mono (fun a w' hq => ?_) (hl X w h.len h.c (fun j hj => h.holds j hj (hlisted j hj)))
      refine wpAny_done ?_ hq fuel
      rw [List.eq_nil_iff_forall_not_mem]
      intro j hj
      obtain ⟨hju, oj, hoj, _⟩ := mem_ready.1 hj
      have hjl : j ≤ l.length := by have := (Array.getElem?_eq_some_iff.1 hoj).1; simp at this; omega
      rcases Nat.eq_or_lt_of_le hjl with h2 | h2
      · subst h2; rw [getD_set_self hsz] at hju; cases hju
      · rw [getD_set_ne true (by omega), hlisted j h2] at hju; cases hju
    · have hstep := DagSteps.get hst i o (by rw [List.getElem?_append_left h1] at ho'; exact ho')
      rw [Nat.zero_add] at hstep
      refine hstep _ w _ h.c (fun t ht => dagFrame_pre ht) (fun j hj => ?_) fun v w' hC hR hφ => ?_
      · obtain ⟨e, he, hej⟩ := Array.any_eq_true'.1 hj
        simp only [Bool.and_eq_true, beq_iff_eq] at hej
        obtain ⟨heb, hej⟩ := hej
        have hjl : j < l.length := by have := hs.binds i o ho' e he heb; omega
        rw [dagFrame_mid (by rw [h.len]; exact hjl)]
        exact h.holds j hjl (by rw [← hej]; exact hdep e he heb)
      rw [hs.dst i o h1 ho', dagFrame_put (by rw [h.len]; exact h1)]
      refine ih _ _ _ ⟨by simpa using h.sz, by simpa using h.len, hC, by rw [getD_set_ne true (by omega)]; exact h.last, fun j hj hjl => ?_, fun j oj hoj hjl e he heb => ?_⟩ (by have := count_set hun; omega)
      · by_cases hji : j = i
        · subst hji
          rw [List.getD_eq_getElem?_getD, List.getElem?_set_self (by rw [h.len]; exact hj)]
          exact hφ
        · rw [getD_set_ne true (Ne.symm hji)] at hjl
          rw [List.getD_eq_getElem?_getD, List.getElem?_set_ne (Ne.symm hji), ← List.getD_eq_getElem?_getD]
          exact hmono j w w' _ h.c hC hR (h.holds j hj hjl)
      · by_cases hje : e.on = i
        · rw [hje]; exact getD_set_self hsz true
        · rw [getD_set_ne true (Ne.symm hje)]
          by_cases hji : j = i
          · subst hji
            rw [ho'] at hoj; cases hoj
            exact hdep e he heb
          · rw [getD_set_ne true (Ne.symm hji)] at hjl
            exact h.closed j oj hoj hjl e he heb

theorem wp_region_dag {id : Nat} {l : List Oper} {oL : Oper} {X0 : List Value} {w : World} (hm : P.follows .mixedOrders = true) (hB : dagB pre.length l oL = true) (hmono : ∀ i w w' v, C w → C w' → Rel w w' → φ i w v → φ i w' v)
    (hX : X0.length = l.length) (hC : C w.drew)
    (hst : DagSteps P Q pre C Rel φ 0 l)
    (hl : ∀ (X : List Value) (w : World), X.length = l.length → C w → (∀ i, i < l.length → φ i w (X.getD i undef)) → oL.wp P (dagFrame pre post df X) w (fun a w => Q .normal a w) Q) :
    (Code.region id (l ++ [oL]).toArray true).wp P Q (dagFrame pre post df X0) w := by
  refine wp_region_any hm ?_
  refine dag_run (dagB_spec hB) hmono hst hl _ _ X0 _ ⟨by simp, hX, hC, ?_, fun i hi hl => ?_, fun i o ho hl => ?_⟩ ?_
  · simp [Array.getD_eq_getD_getElem?]
  · simp [Array.getD_eq_getD_getElem?, Nat.lt_succ_of_lt hi] at hl
  · have hi := (List.getElem?_eq_some_iff.1 ho).1
    simp only [List.length_append, List.length_singleton] at hi
    simp [Array.getD_eq_getD_getElem?, hi] at hl
  · have := List.countP_le_length (p := (!·)) (l := (Array.replicate (l ++ [oL]).toArray.size false).toList)
    simpa using this
/-- The same, where the region and the frame are written out: n operations ahead of the last one, their slots from lo on. -/
theorem wp_region_dag_at {id : Nat} {ops : List Oper} {tmps : List Value} {w : World} (lo n : Nat) (oL : Oper) (C : World → Prop) (Rel : World → World → Prop) (φ : Nat → World → Value → Prop) (hL : ops.drop n = [oL]) (hm : P.follows .mixedOrders = true)
    (hB : dagB (tmps.take lo).length (ops.take n) oL = true) (hmono : ∀ i w w' v, C w → C w' → Rel w w' → φ i w v → φ i w' v) (hX : ((tmps.drop lo).take n).length = (ops.take n).length) (hC : C w.drew)
    (hst : DagSteps P Q (tmps.take lo) C Rel φ 0 (ops.take n))
    (hl : ∀ (X : List Value) (w : World), X.length = (ops.take n).length → C w → (∀ i, i < (ops.take n).length → φ i w (X.getD i undef)) → oL.wp P ⟨(tmps.take lo ++ X ++ (tmps.drop lo).drop n).toArray, df⟩ w (fun a w => Q .normal a w) Q) :
    (Code.region id ops.toArray true).wp P Q ⟨tmps.toArray, df⟩ w := by
  have e1 : ops = ops.take n ++ [oL] := by rw [← hL, List.take_append_drop]
  have e2 : tmps = tmps.take lo ++ (tmps.drop lo).take n ++ (tmps.drop lo).drop n := by rw [List.append_assoc, List.take_append_drop, List.take_append_drop]
  have := wp_region_dag (id := id) (pre := tmps.take lo) (post := (tmps.drop lo).drop n) (df := df) (X0 := (tmps.drop lo).take n) hm hB hmono hX hC hst hl
  rw [← e1] at this
  unfold dagFrame at this
  rw [← e2] at this
  exact this
end
end Go.Proofs.YtacedfcckkpciaaGreatDoor

namespace Go.Proofs.YtacedfcckkpciaaGreatDoor
open Go.RowKit

/-- What an operation yields, and the world behind it: it neither calls a Go function nor panics. -/
def operVal (P : Program) (o : Oper) (a : Act) (w : World) (K : Value → World → Prop) : Prop :=
  match (execOp a.eval o).run P w with
  | .ok (.value v) w' => K v w'
  | .ok .skip w' => K undef w'
  | _ => False
theorem operVal_intro {P : Program} {o : Oper} {a : Act} {w : World} {K : Value → World → Prop} (h : ∀ K' : Value → World → Prop, (∀ v w', K v w' → K' v w') → operVal P o a w K') : operVal P o a w K := h K (fun _ _ h => h)
theorem operVal_wp {P : Program} {o : Oper} {a : Act} {w : World} {K : Value → World → Prop} {K' : Act → World → Prop} {Q : Exit → Act → World → Prop} (h : operVal P o a w K) (hk : ∀ v w', K v w' → K' (a.put o.dst v) w') : o.wp P a w K' Q := by
  unfold operVal at h
  unfold Oper.wp
  generalize (execOp a.eval o).run P w = r at *
  cases r with
  | ok n w' => cases n <;> simp only at h <;> first | exact hk _ _ h | exact h.elim
  | halt x w' => exact h.elim
theorem operVal_congr {P : Program} {o : Oper} {a b : Act} {w : World} {K : Value → World → Prop} (he : execOp b.eval o = execOp a.eval o) (h : operVal P o a w K) : operVal P o b w K := by
  unfold operVal at *; rw [he]; exact h

section
variable {P : Program} {Q : Exit → Act → World → Prop} {pre post : List Value} {df : List Deferred} {C : World → Prop}

/-- The walk of those that are not pure (the others' slots are filled ahead). -/
def wpRest (P : Program) (ops : Array Oper) (m : Nat) (Q : Exit → Act → World → Prop) (C : World → Prop) : Nat → Array Bool → Act → World → Prop
  | 0, _, _, _ => False
  | fuel + 1, listed, a, w => ∀ i ∈ Region.ready .any ops listed, ∀ o, ops[i]? = some o →
      if i = m then operVal P o a w (fun v w' => Q .normal (a.put o.dst v) w')
      else operVal P o a w (fun v w' => C w' ∧ wpRest P ops m Q C fuel (listed.setIfInBounds i true) (a.put o.dst v) w')

def opsLook (base m : Nat) (o : Oper) : Bool := o.op.operands.all fun x => match x with | .tmp t => decide (t < base) || (decide (base + m ≤ t) || o.after.any (fun e => Region.binds .any e && decide (base + e.on = t))) | _ => true
def pureB (base : Nat) (pure : List Bool) (l : List Oper) (oL : Oper) : Bool :=
  Region.noSelect (l ++ [oL]).toArray && (l ++ [oL]).all (opsLook base l.length) && decide (pure.length = l.length)
/-- The values of the pure ones filled in. -/
def fillX : List Bool → List Value → List Value → List Value
  | _, _, [] => []
  | [], _, x :: X => x :: X
  | true :: p, c, _ :: X => c.headD undef :: fillX p c.tail X
  | false :: p, c, x :: X => x :: fillX p c.tail X
theorem fillX_length : ∀ (pure : List Bool) (c X : List Value), (fillX pure c X).length = X.length
  | _, _, [] => by simp [fillX]
  | [], _, x :: X => by simp [fillX]
  | true :: p, c, _ :: X => by simp [fillX, fillX_length p c.tail X]
  | false :: p, c, x :: X => by simp [fillX, fillX_length p c.tail X]
theorem getD_tail (c : List Value) (i : Nat) : c.tail.getD i undef = c.getD (i + 1) undef := by cases c <;> simp
theorem fillX_get : ∀ (pure : List Bool) (c X : List Value) {i : Nat} (_ : i < X.length), (fillX pure c X).getD i undef = if pure.getD i false then c.getD i undef else X.getD i undef
  | _, _, [], i, h => by simp at h
  | [], _, x :: X, i, h => by simp [fillX]
  | true :: p, c, x :: X, 0, h => by cases c <;> simp [fillX]
  | false :: p, c, x :: X, 0, h => by simp [fillX]
  | true :: p, c, x :: X, i + 1, h => by
    have := fillX_get p c.tail X (i := i) (by simpa using h)
    rw [getD_tail] at this
    simpa [fillX] using this
  | false :: p, c, x :: X, i + 1, h => by
    have := fillX_get p c.tail X (i := i) (by simpa using h)
    rw [getD_tail] at this
    simpa [fillX] using this
theorem fillX_set : ∀ (pure : List Bool) (c X : List Value) {i : Nat} {v : Value} (_ : pure.getD i false = false), fillX pure c (X.set i v) = (fillX pure c X).set i v
  | _, _, [], i, v, h => by simp [fillX]
  | [], _, x :: X, 0, v, h => by simp [fillX]
  | [], _, x :: X, i + 1, v, h => by simp [fillX]
  | true :: p, c, x :: X, 0, v, h => by simp at h
  | false :: p, c, x :: X, 0, v, h => by simp [fillX]
  | true :: p, c, x :: X, i + 1, v, h => by simp [fillX, fillX_set p c.tail X (i := i) (v := v) (by simpa using h)]
  | false :: p, c, x :: X, i + 1, v, h => by simp [fillX, fillX_set p c.tail X (i := i) (v := v) (by simpa using h)]
theorem fillX_set_pure : ∀ (pure : List Bool) (c X : List Value) {i : Nat} {v : Value} (_ : pure.getD i false = true), fillX pure c (X.set i v) = fillX pure c X
  | _, _, [], i, v, h => by simp
  | [], _, x :: X, i, v, h => by simp at h
  | true :: p, c, x :: X, 0, v, h => by simp [fillX]
  | false :: p, c, x :: X, 0, v, h => by simp at h
  | true :: p, c, x :: X, i + 1, v, h => by simp [fillX, fillX_set_pure p c.tail X (i := i) (v := v) (by simpa using h)]
  | false :: p, c, x :: X, i + 1, v, h => by simp [fillX, fillX_set_pure p c.tail X (i := i) (v := v) (by simpa using h)]
/-- The flags: the pure ones as if they had come up. -/
def fillL (pure : List Bool) (listed : Array Bool) : Array Bool := listed.mapIdx fun i b => b || pure.getD i false
theorem fillL_size (pure : List Bool) (listed : Array Bool) : (fillL pure listed).size = listed.size := by simp [fillL]
theorem fillL_get (pure : List Bool) (listed : Array Bool) (i : Nat) (hi : i < listed.size) (d : Bool) : (fillL pure listed).getD i d = (listed.getD i d || pure.getD i false) := by
  simp [fillL, Array.getD_eq_getD_getElem?, hi]
theorem fillL_set (pure : List Bool) (listed : Array Bool) (i : Nat) : fillL pure (listed.setIfInBounds i true) = (fillL pure listed).setIfInBounds i true := by
  apply Array.ext_getElem?
  intro j
  unfold fillL
  simp only [Array.getElem?_mapIdx, Array.getElem?_setIfInBounds, Array.size_mapIdx]
  by_cases hij : i = j
  · subst hij; simp
  · simp [hij]
theorem fillL_set_pure (pure : List Bool) (listed : Array Bool) (i : Nat) (hp : pure.getD i false = true) : fillL pure (listed.setIfInBounds i true) = fillL pure listed := by
  apply Array.ext_getElem?
  intro j
  unfold fillL
  simp only [Array.getElem?_mapIdx, Array.getElem?_setIfInBounds]
  by_cases hij : i = j
  · subst hij
    by_cases h : i < listed.size
    · simp only [if_true, h, Array.getElem?_eq_getElem, Option.map_some, hp, Bool.or_true]
    · simp [h]
  · simp [hij]

theorem dag_rest {l : List Oper} {oL : Oper} {pure : List Bool} {c : List Value} (hs : DagSpec pre.length l oL) (hp : pureB pre.length pure l oL = true)
    (hpure : ∀ i o, l[i]? = some o → pure.getD i false = true → ∀ (A : Act) (w : World), C w → (∀ t : Nat, t < pre.length → A.eval (.tmp t) = pre.getD t undef) →
      (∀ j : Nat, o.after.any (fun e => Region.binds .any e && e.on == j) = true → pure.getD j false = true → A.eval (.tmp (pre.length + j)) = c.getD j undef) → (execOp A.eval o).run P w = .ok (.value (c.getD i undef)) w) :
    ∀ (fuel n : Nat) (listed : Array Bool) (X : List Value) (w : World), DagInv l oL C (fun i _ v => pure.getD i false = true → v = c.getD i undef) listed X w → listed.toList.countP (!·) ≤ fuel →
      wpRest P (l ++ [oL]).toArray l.length Q C n (fillL pure listed) (dagFrame pre post df (fillX pure c X)) w → wpAny P .any (l ++ [oL]).toArray Q fuel listed (dagFrame pre post df X) w := by
  unfold pureB at hp
  simp only [Bool.and_eq_true, List.all_eq_true, decide_eq_true_eq] at hp
  obtain ⟨⟨hsel, hlook⟩, hpl⟩ := hp
  have hlast : pure.getD l.length false = false := by simp [List.getD_eq_getElem?_getD, hpl]
  intro fuel
  induction fuel with
  | zero =>
    intro n listed X w h hc _
    have := count_zero (l := listed) (by omega) l.length
    have h2 := h.last
    rw [this] at h2; cases h2
  | succ fuel ih =>
    intro n listed X w h hc hr
    refine ⟨fun h0 => absurd h0 (dag_not_done hs h), fun i hi => ?_⟩
    obtain ⟨hun, o, ho, hall⟩ := mem_ready.1 hi
    have ho' : (l ++ [oL])[i]? = some o := by simpa using ho
    have hil : i ≤ l.length := by have := (List.getElem?_eq_some_iff.1 ho').1; simp at this; omega
    have hw : Region.wanted o (yielded (l ++ [oL]).toArray (dagFrame pre post df X).tmps) = true := by
      have hg := hs.guard i o ho'
      simp [Region.wanted, hg]
    have hdep : ∀ e ∈ o.after, Region.binds .any e = true → listed.getD e.on true = true := fun e he heb => getD_false_true (hall e he heb)
    have hsz : i < listed.size := by rw [h.sz]; omega
    -- the frame as it is and the filled one agree on what the operation looks at
    have heval : ∀ x ∈ o.op.operands, (dagFrame pre post df X).eval x = (dagFrame pre post df (fillX pure c X)).eval x := by
      intro x hx
      have hlk := hlook o (List.mem_of_getElem? ho')
      unfold opsLook at hlk
      rw [Array.all_eq_true_iff_forall_mem] at hlk
      have := hlk x hx
      cases x with
      | tmp t =>
        simp only [Bool.or_eq_true, decide_eq_true_eq] at this
        rcases this with h1 | h1 | h1
        · rw [dagFrame_pre h1, dagFrame_pre h1]
        · unfold dagFrame Act.eval
          simp only [Array.getD_eq_getD_getElem?, List.getElem?_toArray]
          rw [List.getElem?_append_right (by simp [h.len]; omega), List.getElem?_append_right (by simp [fillX_length, h.len]; omega)]
          simp [fillX_length]
        · obtain ⟨e, he, h2⟩ := Array.any_eq_true'.1 h1
          simp only [Bool.and_eq_true, decide_eq_true_eq] at h2
          obtain ⟨heb, h2⟩ := h2
          have hel : e.on < l.length := by have := hs.binds i o ho' e he heb; omega
          rw [← h2, dagFrame_mid (by rw [h.len]; exact hel), dagFrame_mid (by rw [fillX_length, h.len]; exact hel), fillX_get _ _ _ (by rw [h.len]; exact hel)]
          split
          · rename_i hpe
            exact h.holds e.on hel (hdep e he heb) hpe
          · rfl
      | const v => rfl
      | global g => rfl
      | func f => rfl
    have hexec : execOp (dagFrame pre post df X).eval o = execOp (dagFrame pre post df (fillX pure c X)).eval o :=
      execOp_congr o (fun cs b => Region.noSelect_spec hsel i o cs b ho) heval
    unfold wpOp
    simp only [ho, hw, if_true]
    refine Or.inl ?_
    by_cases hpi : pure.getD i false = true
    · -- a pure one
      have h1 : i < l.length := by
        rcases Nat.eq_or_lt_of_le hil with h1 | h1
        · rw [h1, hlast] at hpi; cases hpi
        · exact h1
      have hol : l[i]? = some o := by rw [List.getElem?_append_left h1] at ho'; exact ho'
      have hrun := hpure i o hol hpi (dagFrame pre post df X) w h.c (fun t ht => dagFrame_pre ht) (fun j hj hpj => by
        obtain ⟨e, he, hej⟩ := Array.any_eq_true'.1 hj
        simp only [Bool.and_eq_true, beq_iff_eq] at hej
        obtain ⟨heb, hej⟩ := hej
        have hjl : j < l.length := by have := hs.binds i o ho' e he heb; omega
        rw [dagFrame_mid (by rw [h.len]; exact hjl)]
        exact h.holds j hjl (by rw [← hej]; exact hdep e he heb) hpj)
      unfold Oper.wp
      rw [hrun, Oper.upon_value, hs.dst i o h1 ho', dagFrame_put (by rw [h.len]; exact h1)]
      refine ih n _ _ _ ⟨by simpa using h.sz, by simpa using h.len, h.c, by rw [getD_set_ne true (by omega)]; exact h.last, fun j hj hjl hpj => ?_, fun j oj hoj hjl e he heb => ?_⟩ (by have := count_set hun; omega)
        (by rw [fillL_set_pure _ _ _ hpi, fillX_set_pure _ _ _ hpi]; exact hr)
      · by_cases hji : j = i
        · subst hji
          rw [List.getD_eq_getElem?_getD, List.getElem?_set_self (by rw [h.len]; exact hj)]; rfl
        · rw [getD_set_ne true (Ne.symm hji)] at hjl
          rw [List.getD_eq_getElem?_getD, List.getElem?_set_ne (Ne.symm hji), ← List.getD_eq_getElem?_getD]
          exact h.holds j hj hjl hpj
      · by_cases hje : e.on = i
        · rw [hje]; exact getD_set_self hsz true
        · rw [getD_set_ne true (Ne.symm hje)]
          by_cases hji : j = i
          · subst hji
            rw [ho'] at hoj; cases hoj
            exact hdep e he heb
          · rw [getD_set_ne true (Ne.symm hji)] at hjl
            exact h.closed j oj hoj hjl e he heb
    · -- one of the others
      have hpi : pure.getD i false = false := by simpa using hpi
      cases n with
      | zero => exact hr.elim
      | succ n =>
        have hready : i ∈ Region.ready .any (l ++ [oL]).toArray (fillL pure listed) := by
          refine mem_ready.2 ⟨by rw [fillL_get _ _ _ hsz, hun, hpi]; rfl, o, ho, fun e he heb => ?_⟩
          have hlt : e.on < listed.size := by have := hs.binds i o ho' e he heb; omega
          have h3 := hdep e he heb
          rw [fillL_get _ _ _ hlt]
          simp only [Array.getD, hlt, dif_pos] at h3 ⊢
          rw [h3]; rfl
        have hstep := hr i hready o ho
        rcases Nat.eq_or_lt_of_le hil with h1 | h1
        · rw [if_pos h1] at hstep
          subst h1
          have : o = oL := by simp at ho'; exact ho'.symm
          subst this
          have hlisted := fun j hj => dag_all hs h hdep (l.length - j) j hj (Nat.le_refl _)
          have hXX : fillX pure c X = X := by
            apply List.ext_getElem?
            intro j
            by_cases hj : j < X.length
            · have e1 := fillX_get pure c X hj
              have hjl : j < l.length := by rw [← h.len]; exact hj
              have : (fillX pure c X).getD j undef = X.getD j undef := by
                rw [e1]
                split
                · rename_i hpj; exact (h.holds j hjl (hlisted j hjl) hpj).symm
                · rfl
              simp only [List.getD_eq_getElem?_getD] at this
              have hj2 : j < (fillX pure c X).length := by rw [fillX_length]; exact hj
              rw [List.getElem?_eq_getElem hj, List.getElem?_eq_getElem hj2] at this ⊢
              simpa using this
            · rw [List.getElem?_eq_none (by rw [fillX_length]; omega), List.getElem?_eq_none (by omega)]
          rw [hXX] at hstep
          refine operVal_wp hstep fun v w' hq => ?_
          refine wpAny_done ?_ hq fuel
          rw [List.eq_nil_iff_forall_not_mem]
          intro j hj
          obtain ⟨hju, oj, hoj, _⟩ := mem_ready.1 hj
          have hjl : j ≤ l.length := by have := (Array.getElem?_eq_some_iff.1 hoj).1; simp at this; omega
          rcases Nat.eq_or_lt_of_le hjl with h2 | h2
          · subst h2; rw [getD_set_self hsz] at hju; cases hju
          · rw [getD_set_ne true (by omega), hlisted j h2] at hju; cases hju
        · rw [if_neg (by omega)] at hstep
          refine operVal_wp (operVal_congr hexec hstep) fun v w' hk => ?_
          obtain ⟨hC, hrest⟩ := hk
          rw [hs.dst i o h1 ho', dagFrame_put (by rw [fillX_length, h.len]; exact h1)] at hrest
          rw [hs.dst i o h1 ho', dagFrame_put (by rw [h.len]; exact h1)]
          refine ih n _ _ _ ⟨by simpa using h.sz, by simpa using h.len, hC, by rw [getD_set_ne true (by omega)]; exact h.last, fun j hj hjl hpj => ?_, fun j oj hoj hjl e he heb => ?_⟩ (by have := count_set hun; omega)
            (by rw [fillL_set, fillX_set _ _ _ hpi]; exact hrest)
          · by_cases hji : j = i
            · subst hji; rw [hpi] at hpj; cases hpj
            · rw [getD_set_ne true (Ne.symm hji)] at hjl
              rw [List.getD_eq_getElem?_getD, List.getElem?_set_ne (Ne.symm hji), ← List.getD_eq_getElem?_getD]
              exact h.holds j hj hjl hpj
          · by_cases hje : e.on = i
            · rw [hje]; exact getD_set_self hsz true
            · rw [getD_set_ne true (Ne.symm hje)]
              by_cases hji : j = i
              · subst hji
                rw [ho'] at hoj; cases hoj
                exact hdep e he heb
              · rw [getD_set_ne true (Ne.symm hji)] at hjl
                exact h.closed j oj hoj hjl e he heb

/-- What is to be shown of a pure operation. -/
def PureStep (P : Program) (pre : List Value) (C : World → Prop) (pure : List Bool) (c : List Value) (i : Nat) (o : Oper) : Prop :=
  ∀ (A : Act) (w : World), C w → (∀ t : Nat, t < pre.length → A.eval (.tmp t) = pre.getD t undef) →
    (∀ j : Nat, o.after.any (fun e => Region.binds .any e && e.on == j) = true → pure.getD j false = true → A.eval (.tmp (pre.length + j)) = c.getD j undef) → (execOp A.eval o).run P w = .ok (.value (c.getD i undef)) w
def PureSteps (P : Program) (pre : List Value) (C : World → Prop) (pure : List Bool) (c : List Value) : Nat → List Bool → List Oper → Prop
  | _, _, [] => True
  | i, p, o :: l => (p.headD false = true → PureStep P pre C pure c i o) ∧ PureSteps P pre C pure c (i + 1) p.tail l
theorem PureSteps.get {pure : List Bool} {c : List Value} : ∀ {l : List Oper} {k : Nat} {p : List Bool}, PureSteps P pre C pure c k p l → ∀ i o, l[i]? = some o → p.getD i false = true → PureStep P pre C pure c (k + i) o
  | [], _, _, _, i, o, h, _ => by simp at h
  | a :: l, k, p, h, 0, o, ho, hp => by
    simp at ho; subst ho
    exact h.1 (match p, hp with | [], hp => by simp at hp | x :: p, hp => by simpa using hp)
  | a :: l, k, p, h, i + 1, o, ho, hp => by
    have := PureSteps.get h.2 i o (by simpa using ho) (match p, hp with | [], hp => by simp at hp | x :: p, hp => by simpa using hp)
    rwa [show k + 1 + i = k + (i + 1) by omega] at this

/-- The region and the frame written out: n operations ahead of the last one, their slots from lo on. -/
theorem wp_region_rest {id : Nat} {ops : List Oper} {tmps : List Value} {w : World} (lo n fuel : Nat) (oL : Oper) (pure : List Bool) (c : List Value) (C : World → Prop) (hL : ops.drop n = [oL]) (hlo : (tmps.take lo).length = lo) (hm : P.follows .mixedOrders = true)
    (hB : dagB lo (ops.take n) oL = true) (hpB : pureB lo pure (ops.take n) oL = true) (hX : ((tmps.drop lo).take n).length = n) (hn : (ops.take n).length = n) (hC : C w.drew)
    (hpure : PureSteps P (tmps.take lo) C pure c 0 pure (ops.take n))
    (L0 : Array Bool) (T0 : List Value) (hL0 : fillL pure (Array.replicate (n + 1) false) = L0) (hT0 : tmps.take lo ++ fillX pure c ((tmps.drop lo).take n) ++ (tmps.drop lo).drop n = T0)
    (hr : wpRest P ops.toArray n Q C fuel L0 ⟨T0.toArray, df⟩ w.drew) :
    (Code.region id ops.toArray true).wp P Q ⟨tmps.toArray, df⟩ w := by
  subst hL0 hT0
  have e1 : ops.take n ++ [oL] = ops := by rw [← hL, List.take_append_drop]
  have e2 : tmps.take lo ++ (tmps.drop lo).take n ++ (tmps.drop lo).drop n = tmps := by rw [List.append_assoc, List.take_append_drop, List.take_append_drop]
  refine wp_region_any hm ?_
  have := dag_rest (P := P) (Q := Q) (pre := tmps.take lo) (post := (tmps.drop lo).drop n) (df := df) (C := C) (l := ops.take n) (oL := oL) (pure := pure) (c := c) (dagB_spec (by rw [hlo]; exact hB)) (by rw [hlo]; exact hpB)
    (fun i o ho hp => by have := PureSteps.get hpure i o ho hp; rw [Nat.zero_add] at this; exact this) ops.toArray.size fuel (Array.replicate ops.toArray.size false) ((tmps.drop lo).take n) w.drew
    ⟨by rw [← e1]; simp [hn], by rw [hX, hn], hC, ?_, fun i hi hl => ?_, fun i o ho hl => ?_⟩ ?_ ?_
  · rw [e1] at this
    unfold dagFrame at this
    rw [e2] at this
    exact this
  · rw [← e1]; simp [Array.getD_eq_getD_getElem?, hn]
  · rw [← e1] at hl
    have hi' : i < n := by rw [hn] at hi; exact hi
    simp [Array.getD_eq_getD_getElem?, hn, Nat.lt_succ_of_lt hi'] at hl
  · have hi := (List.getElem?_eq_some_iff.1 ho).1
    rw [← e1] at hl
    simp only [List.length_append, List.length_singleton] at hi
    rw [hn] at hi
    simp [Array.getD_eq_getD_getElem?, hn, hi] at hl
  · have := List.countP_le_length (p := (!·)) (l := (Array.replicate ops.toArray.size false).toList)
    simpa using this
  · have hs : ops.toArray.size = n + 1 := by rw [← e1]; simp [hn]
    rw [hs, e1, hn]
    exact hr
/-- Those that may come up, one by one. -/
def restGoals (P : Program) (ops : Array Oper) (m : Nat) (Q : Exit → Act → World → Prop) (C : World → Prop) (fuel : Nat) (listed : Array Bool) (a : Act) (w : World) : List Nat → Prop
  | [] => True
  | i :: rs => (∀ o, ops[i]? = some o → if i = m then operVal P o a w (fun v w' => Q .normal (a.put o.dst v) w')
      else operVal P o a w (fun v w' => C w' ∧ wpRest P ops m Q C fuel (listed.setIfInBounds i true) (a.put o.dst v) w')) ∧ restGoals P ops m Q C fuel listed a w rs
theorem wpRest_step {ops : Array Oper} {m fuel : Nat} {listed : Array Bool} {a : Act} {w : World} {rs : List Nat} (hr : Region.ready .any ops listed = rs) (h : restGoals P ops m Q C fuel listed a w rs) : wpRest P ops m Q C (fuel + 1) listed a w := by
  unfold wpRest
  rw [hr]
  clear hr
  induction rs with
  | nil => intro i hi; cases hi
  | cons j rs ih =>
    intro i hi o ho
    rcases List.mem_cons.1 hi with rfl | hi
    · exact h.1 o ho
    · exact ih h.2 i hi o ho
theorem wpRest_tail {ops : Array Oper} {m fuel n : Nat} {listed : Array Bool} {a : Act} {w : World} (Φ : Array Bool → Act → World → Prop) (tail : ∀ L A V, Φ L A V → wpRest P ops m Q C n L A V)
    (h : (∀ L A V, Φ L A V → wpRest P ops m Q C n L A V) → wpRest P ops m Q C fuel listed a w) : wpRest P ops m Q C fuel listed a w := h tail
theorem rest_one {ops : Array Oper} {m fuel i : Nat} {o : Oper} {listed : Array Bool} {a : Act} {w : World} (ho : ops[i]? = some o) (hne : i ≠ m)
    (h : operVal P o a w (fun v w' => C w' ∧ wpRest P ops m Q C fuel (listed.setIfInBounds i true) (a.put o.dst v) w')) :
    ∀ o, ops[i]? = some o → if i = m then operVal P o a w (fun v w' => Q .normal (a.put o.dst v) w') else operVal P o a w (fun v w' => C w' ∧ wpRest P ops m Q C fuel (listed.setIfInBounds i true) (a.put o.dst v) w') := by
  intro o' ho'
  rw [ho] at ho'; cases ho'
  rw [if_neg hne]; exact h
theorem rest_last {ops : Array Oper} {m fuel : Nat} {o : Oper} {listed : Array Bool} {a : Act} {w : World} (ho : ops[m]? = some o)
    (h : operVal P o a w (fun v w' => Q .normal (a.put o.dst v) w')) :
    ∀ o, ops[m]? = some o → if m = m then operVal P o a w (fun v w' => Q .normal (a.put o.dst v) w') else operVal P o a w (fun v w' => C w' ∧ wpRest P ops m Q C fuel (listed.setIfInBounds m true) (a.put o.dst v) w') := by
  intro o' ho'
  rw [ho] at ho'; cases ho'
  rw [if_pos rfl]; exact h
end
theorem evalT {A : Act} {t : Nat} {v : Value} (h : A.eval (.tmp t) = v) : A.tmps[t]?.getD undef = v := by
  rw [← h]; simp [Act.eval, Array.getD_eq_getD_getElem?]
theorem val_append_own {P : Program} {o : Oper} {a : Act} {w : World} {K : Value → World → Prop} (s x : Operand) (t : TypeId)
    (ho : o.op = .call { callee := .builtin .append, args := #[s, x], argTypes := #[t, t] })
    (base : Nat) (e : TypeId) (i : TypeInfo) (z : Value) (size bytes : Nat) (ht : P.underlying t = some (.slice e)) (hi : P.info? e = some i) (hz : i.zero = some z)
    (hsize : i.size = size) (hby : i.bytes = bytes) (hzs : z.cells.size = size) (hsz : 0 < size)
    (v : Value) (n : Nat) (xs : List Value) (hs : a.eval s = v) (hown : w.ownsRow base e size v n xs)
    (ad : Addr) (m c : Nat) (news : List Value) (hx : a.eval x = .slice (some ad) m c) (hl : news.length = m * size) (hnews : ∀ j u, news[j]? = some u → w.cell? (ad.add j) = some u) (h1 : ∀ u ∈ news, u.oneCell' = true)
    (h63 : n + m ≤ maxLen) (hbytes : (n + m) * bytes ≤ 140737488355328) (hbase : base ≤ w.heap.size)
    (h : ∀ v' w', w'.ownsRow base e size v' (n + m) (xs ++ news) → w.grownBy w' v.ownBlock → K v' w') : operVal P o a w K := by
  obtain ⟨v', w', hr, h2, h3, h4⟩ := run_append_own (P := P) w base t o.type e i z size bytes ht hi hz hsize hby hzs hsz v n xs hown ad m c news hl hnews h1 h63 hbytes hbase
  unfold operVal execOp
  simp only [ho, resolve, invoke, builtin, Sem.run_bind, Sem.run_pure, Result.andThen_ok, List.map_toArray, List.map_cons, List.map_nil, hs, hx, hr]
  exact h v' w' h2 h3
theorem val_append_own_none {P : Program} {o : Oper} {a : Act} {w : World} {K : Value → World → Prop} (s x : Operand) (t : TypeId)
    (ho : o.op = .call { callee := .builtin .append, args := #[s, x], argTypes := #[t, t] }) (base : Nat) (e : TypeId) (i : TypeInfo) (size : Nat) (ht : P.underlying t = some (.slice e)) (hi : P.info? e = some i)
    (v : Value) (n : Nat) (xs : List Value) (hs : a.eval s = v) (hown : w.ownsRow base e size v n xs) (hx : a.eval x = .slice none 0 0) (h : K v w) : operVal P o a w K := by
  have hrun := run_append_owned_none (P := P) (w := w) base t o.type e i size ht hi v n xs hown
  unfold operVal execOp
  simp only [ho, resolve, invoke, builtin, Sem.run_bind, Sem.run_pure, Result.andThen_ok, List.map_toArray, List.map_cons, List.map_nil, hs, hx, hrun]
  exact h
end Go.Proofs.YtacedfcckkpciaaGreatDoor
