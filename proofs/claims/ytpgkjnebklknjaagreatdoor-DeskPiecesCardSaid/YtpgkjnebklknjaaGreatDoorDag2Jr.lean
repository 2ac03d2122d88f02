/-A region that draws its order and ends in one operation that waits for all others:where most operations yield one known value whatever the others do ('pure':moves,addresses,loads of what is not written but by the last one),only the orders of the others are to be walked. Over any program. -/
import Derived.BigRegion
import Derived.Test.YtpgkjnebklknjaaGreatDoorKitJr
import Derived.Test.YtpgkjnebklknjaaGreatDoorAppJr
namespace Go.Proofs.YtpgkjnebklknjaaGreatDoor
open Go.RowKit
def dagFrame (pre post:List Value) (df:List Deferred) (X:List Value):Act:=⟨(pre++X++post).toArray,df⟩
theorem dagFrame_put {pre post X:List Value} {df:List Deferred} {i:Nat} {v:Value} (hi:i<X.length):(dagFrame pre post df X).put (some (pre.length+i)) v=dagFrame pre post df (X.set i v):=by
 unfold dagFrame Act.put
 simp only[Act.mk.injEq,and_true]
 rw[List.setIfInBounds_toArray,List.append_assoc,List.set_append_right _ _ (by omega),List.set_append_left _ _ (by omega),List.append_assoc]
 congr 4
 omega
theorem dagFrame_pre {pre post X:List Value} {df:List Deferred} {t:Nat} (ht:t<pre.length):(dagFrame pre post df X).eval (.tmp t)=pre.getD t undef:=by
 unfold dagFrame Act.eval
 simp only[Array.getD_eq_getD_getElem?,List.getElem?_toArray,List.getD_eq_getElem?_getD]
 rw[List.append_assoc,List.getElem?_append_left ht]
theorem dagFrame_mid {pre post X:List Value} {df:List Deferred} {j:Nat} (hj:j<X.length):(dagFrame pre post df X).eval (.tmp (pre.length+j))=X.getD j undef:=by
 unfold dagFrame Act.eval
 simp only[Array.getD_eq_getD_getElem?,List.getElem?_toArray,List.getD_eq_getElem?_getD]
 rw[List.append_assoc,List.getElem?_append_right (by omega),List.getElem?_append_left (by omega)]
 congr 2;omega
def dagB (base:Nat) (l:List Oper) (oL:Oper):Bool:=
 (List.range (l.length+1)).all (fun i=>match (l++ [oL])[i]? with
  | none=>false
  | some o=>o.guard.isNone && o.after.all (fun e=> !Region.binds .any e||decide (e.on<i)) && (decide (i=l.length)||(o.dst==some (base+i) &&
    (List.range (l.length+1)).any (fun j=>match (l++ [oL])[j]? with|none=>false|some o' =>decide (i<j) && o'.after.any (fun e=>Region.binds .any e && e.on==i)))))
structure DagSpec (base:Nat) (l:List Oper) (oL:Oper):Prop where
 guard: ∀(i:Nat) (o:Oper),(l++ [oL])[i]? =some o->o.guard=none
 binds: ∀(i:Nat) (o:Oper),(l++ [oL])[i]? =some o-> ∀e∈o.after,Region.binds .any e=true->e.on<i
 dst: ∀(i:Nat) (o:Oper),i<l.length->(l++ [oL])[i]? =some o->o.dst=some (base+i)
 later: ∀i,i<l.length-> ∃(j:Nat) (o:Oper),(l++ [oL])[j]? =some o/\i<j/\ ∃e∈o.after,Region.binds .any e=true/\e.on=i
theorem dagB_spec {base:Nat} {l:List Oper} {oL:Oper} (h:dagB base l oL=true):DagSpec base l oL:=by
 have h' : ∀i o,(l++ [oL])[i]? =some o->(o.guard.isNone && o.after.all (fun e=> !Region.binds .any e||decide (e.on<i)) && (decide (i=l.length)||(o.dst==some (base+i) &&
    (List.range (l.length+1)).any (fun j=>match (l++ [oL])[j]? with|none=>false|some o' =>decide (i<j) && o'.after.any (fun e=>Region.binds .any e && e.on==i)))))=true:=by
  intro i o ho
  have hi:i<l.length+1:=by have:=(List.getElem?_eq_some_iff.1 ho).1;simpa using this
  have:=List.all_eq_true.1 h i (List.mem_range.2 hi)
  simpa only[ho] using this
 simp only[Bool.and_eq_true,Bool.or_eq_true,decide_eq_true_eq,beq_iff_eq,Array.all_eq_true_iff_forall_mem,List.any_eq_true,List.mem_range,Option.isNone_iff_eq_none,Bool.not_eq_true'] at h'
 refine⟨fun i o ho=>(h' i o ho).1.1,fun i o ho e he hb=>((h' i o ho).1.2 e he).resolve_left (by simp[hb]),fun i o hi ho=> ?_,fun i hi=> ?_⟩
 · rcases(h' i o ho).2 with h1|h1
   · omega
   · exact h1.1
 · obtain⟨o,ho⟩: ∃o,(l++ [oL])[i]? =some o:=⟨_,List.getElem?_eq_getElem (by simp;omega)⟩
   rcases(h' i o ho).2 with h1|h1
   · omega
   · obtain⟨j,hj,h2⟩:=h1.2
     split at h2
     · cases h2
     · rename_i o' ho'
       simp only[Bool.and_eq_true,decide_eq_true_eq] at h2
       obtain⟨e,he,h3⟩:=Array.any_eq_true'.1 h2.2
       simp only[Bool.and_eq_true,beq_iff_eq] at h3
       exact⟨j,o',ho',h2.1,e,he,h3⟩
section
variable {P:Program} {Q:Exit->Act->World->Prop} {pre post:List Value} {df:List Deferred} {C:World->Prop} {Rel:World->World->Prop} {φ:Nat->World->Value->Prop}
def DagStep (P:Program) (Q:Exit->Act->World->Prop) (pre:List Value) (C:World->Prop) (Rel:World->World->Prop) (φ:Nat->World->Value->Prop) (i:Nat) (o:Oper):Prop:=
 ∀ (A :Act) (w:World) (K:Act->World->Prop),C w->(∀t,t<pre.length->A.eval (.tmp t)=pre.getD t undef)->(∀j:Nat,o.after.any (fun e=>Region.binds .any e && e.on==j)=true->φ j w (A.eval (.tmp (pre.length+j))))→
   (∀v w',C w' ->Rel w w' ->φ i w' v->K (A.put o.dst v) w')->o.wp P A w K Q
def DagSteps (P:Program) (Q:Exit->Act->World->Prop) (pre:List Value) (C:World->Prop) (Rel:World->World->Prop) (φ:Nat->World->Value->Prop):Nat->List Oper->Prop
 | _,[]=>True
 | i,o::l=>DagStep P Q pre C Rel φ i o/\DagSteps P Q pre C Rel φ (i+1) l
theorem DagSteps.get: ∀ {l:List Oper} {k:Nat},DagSteps P Q pre C Rel φ k l-> ∀i o,l[i]? =some o->DagStep P Q pre C Rel φ (k+i) o
 | [],_,_,i,o,h=>by simp at h
 | a::l,k,h,0,o,ho=>by simp at ho;subst ho;exact h.1
 | a ::l,k,h,i+1,o,ho=>by
   have:=DagSteps.get h.2 i o (by simpa using ho)
   rwa [show k+1+i=k+(i+1) by omega] at this
theorem getD_set_self {listed:Array Bool} {i:Nat} (h:i<listed.size) (d:Bool):(listed.setIfInBounds i true).getD i d=true:=by
 simp[Array.getD_eq_getD_getElem?,h]
theorem count_set {l:Array Bool} {i:Nat} (hi:l.getD i true=false):(l.setIfInBounds i true).toList.countP (!·)+1=l.toList.countP (!·):=by
 obtain⟨l⟩:=l
 simp only[List.setIfInBounds_toArray]
 have hi' :l[i]? =some false:=by
  rw[Array.getD_eq_getD_getElem?] at hi
  simp only[List.getElem?_toArray] at hi
  cases h:l[i]? with
  | none=>rw[h] at hi;cases hi
  | some b=>rw[h] at hi;simp at hi;rw[hi]
 clear hi
 induction l generalizing i with
 | nil=>simp at hi'
 | cons a l ih=>
   cases i with
   | zero=>simp at hi';subst hi';simp
   | succ i=>
     have:=ih (i:=i) (by simpa using hi')
     simp only[List.set_cons_succ,List.countP_cons]
     omega
theorem count_zero {l:Array Bool} (h:l.toList.countP (!·)=0) (i:Nat):l.getD i true=true:=by
 rw[List.countP_eq_zero] at h
 rw[Array.getD_eq_getD_getElem?]
 cases hg:l[i]? with
 | none=>rfl
 | some b=>
   have:=h b (by rw[Array.mem_toList_iff];exact Array.mem_of_getElem? hg)
   simpa using this
structure DagInv (l:List Oper) (oL:Oper) (C:World->Prop) (φ:Nat->World->Value->Prop) (listed:Array Bool) (X:List Value) (w:World):Prop where
 sz:listed.size=l.length+1
 len:X.length=l.length
 c:C w
 last:listed.getD l.length true=false
 holds: ∀i,i<l.length->listed.getD i true=true->φ i w (X.getD i undef)
 closed: ∀i o,(l++ [oL])[i]? =some o->listed.getD i true=true-> ∀e∈o.after,Region.binds .any e=true->listed.getD e.on true=true
theorem dag_all {base:Nat} {l:List Oper} {oL:Oper} (hs:DagSpec base l oL) {listed:Array Bool} {X:List Value} {w:World} (h:DagInv l oL C φ listed X w) (hr: ∀e∈oL.after,Region.binds .any e=true->listed.getD e.on true=true):
  ∀d i,i<l.length->l.length-i<=d->listed.getD i true=true
 | 0,i,hi,hd=>by omega
 | d + 1,i,hi,hd=>by
   obtain⟨j,o,ho,hij,e,he,heb,hei⟩:=hs.later i hi
   have hj:j<=l.length:=by have:=(List.getElem?_eq_some_iff.1 ho).1;simp at this;omega
   rcases Nat.eq_or_lt_of_le hj with h1|h1
   · subst h1
     simp at ho
     subst ho
     rw[<-hei];exact hr e he heb
   · have:=dag_all hs h hr d j h1 (by omega)
     rw[<-hei]
     exact h.closed j o ho this e he heb
theorem getD_false_true {listed:Array Bool} {i:Nat} (h:listed.getD i false=true):listed.getD i true=true:=by
 rw[Array.getD_eq_getD_getElem?] at*
 cases hg:listed[i]? with
 | none=>rfl
 | some b=>rw[hg] at h;exact h
theorem dag_not_done {base:Nat} {l:List Oper} {oL:Oper} (hs:DagSpec base l oL) {listed:Array Bool} {X:List Value} {w:World} (h:DagInv l oL C φ listed X w):Region.ready .any (l++ [oL]).toArray listed≠ []:=by
 intro h0
 --the least one that has not come up is ready
 have hmin: ∀n,∀i,i<n->i<=l.length->listed.getD i true=true:=by
  intro n
  induction n with
  | zero=>intro i hi;omega
  | succ n ih=>
    intro i hi hil
    by_cases hc:listed.getD i true=true
    · exact hc
    · exfalso
      obtain⟨o,ho⟩: ∃o,(l++ [oL])[i]? =some o:=⟨_,List.getElem?_eq_getElem (by simp;omega)⟩
      have hm:i∈Region.ready .any (l++ [oL]).toArray listed:=by
       refine mem_ready.2 ⟨by simpa using hc,o,by simpa using ho,fun e he heb=> ?_⟩
       have hb:=hs.binds i o ho e he heb
       have:=ih e.on (by omega) (by omega)
       have hlt:e.on<listed.size:=by have:=h.sz;omega
       simp only[Array.getD,hlt,dif_pos] at this ⊢
       exact this
      rw[h0] at hm;cases hm
 have:=hmin (l.length+1) l.length (by omega) (Nat.le_refl _)
 rw[h.last] at this;cases this
theorem dag_run {l:List Oper} {oL:Oper} (hs:DagSpec pre.length l oL) (hmono: ∀i w w' v,C w->C w' ->Rel w w' ->φ i w v->φ i w' v)
  (hst:DagSteps P Q pre C Rel φ 0 l)
  (hl: ∀(X:List Value) (w:World),X.length=l.length->C w->(∀i,i<l.length->φ i w (X.getD i undef))->oL.wp P (dagFrame pre post df X) w (fun a w=>Q .normal a w) Q):
  ∀(fuel:Nat) (listed:Array Bool) (X:List Value) (w:World),DagInv l oL C φ listed X w->listed.toList.countP (!·)<=fuel->wpAny P .any (l++ [oL]).toArray Q fuel listed (dagFrame pre post df X) w:=by
 have hnot:=fun(listed:Array Bool) (X:List Value) (w:World) (h:DagInv l oL C φ listed X w)=>dag_not_done hs h
 intro fuel
 induction fuel with
 | zero=>
   intro listed X w h hc
   have:=count_zero (l:=listed) (by omega) l.length
   have h2:=h.last
   rw[this] at h2;cases h2
 | succ fuel ih=>
   intro listed X w h hc
   refine⟨fun h0=>absurd h0 (hnot listed X w h),fun i hi=> ?_⟩
   obtain⟨hun,o,ho,hall⟩:=mem_ready.1 hi
   have ho' :(l++ [oL])[i]? =some o:=by simpa using ho
   have hil:i<=l.length:=by have:=(List.getElem?_eq_some_iff.1 ho').1;simp at this;omega
   have hw:Region.wanted o (yielded (l++ [oL]).toArray (dagFrame pre post df X).tmps)=true:=by
    have hg:=hs.guard i o ho'
    simp[Region.wanted,hg]
   have hdep: ∀e∈o.after,Region.binds .any e=true->listed.getD e.on true=true:=fun e he heb=>getD_false_true (hall e he heb)
   have hsz:i<listed.size:=by rw[h.sz];omega
   unfold wpOp
   simp only[ho,hw,if_true]
   refine Or.inl ?_
   rcases Nat.eq_or_lt_of_le hil with h1|h1
   · subst h1
     have:o=oL:=by simp at ho';exact ho'.symm
     subst this
     have hlisted:=fun j hj=>dag_all hs h hdep (l.length-j) j hj (Nat.le_refl _)
     refine Oper.wp_mono (fun a w' hq=> ?_) (hl X w h.len h.c (fun j hj=>h.holds j hj (hlisted j hj)))
     refine wpAny_done ?_ hq fuel
     rw[List.eq_nil_iff_forall_not_mem]
     intro j hj
     obtain⟨hju,oj,hoj,_⟩:=mem_ready.1 hj
     have hjl:j<=l.length:=by have:=(Array.getElem?_eq_some_iff.1 hoj).1;simp at this;omega
     rcases Nat.eq_or_lt_of_le hjl with h2|h2
     · subst h2;rw[getD_set_self hsz] at hju;cases hju
     · rw[getD_set_ne true (by omega),hlisted j h2] at hju;cases hju
   · have hstep:=DagSteps.get hst i o (by rw[List.getElem?_append_left h1] at ho';exact ho')
     rw[Nat.zero_add] at hstep
     refine hstep _ w _ h.c (fun t ht=>dagFrame_pre ht) (fun j hj=> ?_) fun v w' hC hR hφ=> ?_
     · obtain⟨e,he,hej⟩:=Array.any_eq_true'.1 hj
       simp only[Bool.and_eq_true,beq_iff_eq] at hej
       obtain⟨heb,hej⟩:=hej
       have hjl:j<l.length:=by have:=hs.binds i o ho' e he heb;omega
       rw[dagFrame_mid (by rw[h.len];exact hjl)]
       exact h.holds j hjl (by rw[<-hej];exact hdep e he heb)
     rw[hs.dst i o h1 ho',dagFrame_put (by rw[h.len];exact h1)]
     refine ih _ _ _ ⟨by simpa using h.sz,by simpa using h.len,hC,by rw[getD_set_ne true (by omega)];exact h.last,fun j hj hjl=> ?_,fun j oj hoj hjl e he heb=> ?_⟩ (by have:=count_set hun;omega)
     · by_cases hji:j=i
       · subst hji
         rw[List.getD_eq_getElem?_getD,List.getElem?_set_self (by rw[h.len];exact hj)]
         exact hφ
       · rw [getD_set_ne true (Ne.symm hji)] at hjl
         rw[List.getD_eq_getElem?_getD,List.getElem?_set_ne (Ne.symm hji), <-List.getD_eq_getElem?_getD]
         exact hmono j w w' _ h.c hC hR (h.holds j hj hjl)
     · by_cases hje:e.on=i
       · rw[hje];exact getD_set_self hsz true
       · rw [getD_set_ne true (Ne.symm hje)]
         by_cases hji:j=i
         · subst hji
           rw[ho'] at hoj;cases hoj
           exact hdep e he heb
         · rw [getD_set_ne true (Ne.symm hji)] at hjl
           exact h.closed j oj hoj hjl e he heb
theorem wp_region_dag {id:Nat} {l:List Oper} {oL:Oper} {X0:List Value} {w:World} (hm:P.follows .mixedOrders=true) (hB:dagB pre.length l oL=true) (hmono: ∀i w w' v,C w->C w' ->Rel w w' ->φ i w v->φ i w' v)
  (hX:X0.length=l.length) (hC:C w.drew)
  (hst:DagSteps P Q pre C Rel φ 0 l)
  (hl: ∀(X:List Value) (w:World),X.length=l.length->C w->(∀i,i<l.length->φ i w (X.getD i undef))->oL.wp P (dagFrame pre post df X) w (fun a w=>Q .normal a w) Q):
  (Code.region id (l++ [oL]).toArray true).wp P Q (dagFrame pre post df X0) w:=by
 refine wp_region_any hm ?_
 refine dag_run (dagB_spec hB) hmono hst hl _ _ X0 _ ⟨by simp,hX,hC,?_,fun i hi hl=> ?_,fun i o ho hl=> ?_⟩ ?_
 · simp[Array.getD_eq_getD_getElem?]
 · simp[Array.getD_eq_getD_getElem?,Nat.lt_succ_of_lt hi] at hl
 · have hi:=(List.getElem?_eq_some_iff.1 ho).1
   simp only[List.length_append,List.length_singleton] at hi
   simp[Array.getD_eq_getD_getElem?,hi] at hl
 · have:=List.countP_le_length (p:=(!·)) (l:=(Array.replicate (l++ [oL]).toArray.size false).toList)
   simpa using this
theorem wp_region_dag_at {id:Nat} {ops:List Oper} {tmps:List Value} {w:World} (lo n:Nat) (oL:Oper) (C:World->Prop) (Rel:World->World->Prop) (φ:Nat->World->Value->Prop) (hL:ops.drop n= [oL]) (hm:P.follows .mixedOrders=true)
  (hB:dagB (tmps.take lo).length (ops.take n) oL=true) (hmono: ∀i w w' v,C w->C w' ->Rel w w' ->φ i w v->φ i w' v) (hX:((tmps.drop lo).take n).length=(ops.take n).length) (hC:C w.drew)
  (hst:DagSteps P Q (tmps.take lo) C Rel φ 0 (ops.take n))
  (hl: ∀(X:List Value) (w:World),X.length=(ops.take n).length->C w->(∀i,i<(ops.take n).length->φ i w (X.getD i undef))->oL.wp P ⟨(tmps.take lo++X++(tmps.drop lo).drop n).toArray,df⟩ w (fun a w=>Q .normal a w) Q):
  (Code.region id ops.toArray true).wp P Q ⟨tmps.toArray,df⟩ w:=by
 have e1:ops=ops.take n++ [oL]:=by rw[<-hL,List.take_append_drop]
 have e2:tmps=tmps.take lo++(tmps.drop lo).take n++(tmps.drop lo).drop n:=by rw[List.append_assoc,List.take_append_drop,List.take_append_drop]
 have:=wp_region_dag (id:=id) (pre:=tmps.take lo) (post:=(tmps.drop lo).drop n) (df:=df) (X0:=(tmps.drop lo).take n) hm hB hmono hX hC hst hl
 rw[<-e1] at this
 unfold dagFrame at this
 rw[<-e2] at this
 exact this
end
end Go.Proofs.YtpgkjnebklknjaaGreatDoor
namespace Go.Proofs.YtpgkjnebklknjaaGreatDoor
open Go.RowKit
section
variable {P:Program} {Q:Exit->Act->World->Prop} {pre post:List Value} {df:List Deferred} {C:World->Prop}
end
theorem evalT {A:Act} {t:Nat} {v:Value} (h:A.eval (.tmp t)=v):A.tmps[t]?.getD undef=v:=by
 rw[<-h];simp[Act.eval,Array.getD_eq_getD_getElem?]
end Go.Proofs.YtpgkjnebklknjaaGreatDoor
