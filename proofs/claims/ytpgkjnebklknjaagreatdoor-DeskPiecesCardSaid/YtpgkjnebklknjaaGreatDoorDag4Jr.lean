/-A region that draws its order,each operation looked at once (as Dag3),where an operation may leave it by a panic:the frame's deferred calls are known at each. -/
import Derived.Test.YtpgkjnebklknjaaGreatDoorDag3Jr
namespace Go.Proofs.YtpgkjnebklknjaaGreatDoor
open Go.RowKit
section
variable {P:Program} {Q:Exit->Act->World->Prop} {F:List Value->Act} {sl:Nat->Nat} {out:Nat->Bool} {a0:Act} {C:World->Prop} {Rel:World->World->Prop} {φ:Nat->World->Value->Prop}
def DagStepP (P:Program) (Q:Exit->Act->World->Prop) (sl:Nat->Nat) (out:Nat->Bool) (a0:Act) (C:World->Prop) (Rel:World->World->Prop) (φ:Nat->World->Value->Prop) (i:Nat) (o:Oper):Prop:=
 ∀ (A :Act) (w:World) (K:Act->World->Prop),C w->A.defers=a0.defers->(∀t,out t=true->A.eval (.tmp t)=a0.eval (.tmp t))->(∀j:Nat,o.after.any (fun e=>Region.binds .any e && e.on==j)=true->φ j w (A.eval (.tmp (sl j))))→
   (∀v w',C w' ->Rel w w' ->φ i w' v->K (A.put o.dst v) w')->o.wp P A w K Q
def DagStepsP (P:Program) (Q:Exit->Act->World->Prop) (sl:Nat->Nat) (out:Nat->Bool) (a0:Act) (C:World->Prop) (Rel:World->World->Prop) (φ:Nat->World->Value->Prop):Nat->List Oper->Prop
 | _,[]=>True
 | i,o::l=>DagStepP P Q sl out a0 C Rel φ i o/\DagStepsP P Q sl out a0 C Rel φ (i+1) l
theorem DagStepsP.get: ∀ {l:List Oper} {k:Nat},DagStepsP P Q sl out a0 C Rel φ k l-> ∀i o,l[i]? =some o->DagStepP P Q sl out a0 C Rel φ (k+i) o
 | [],_,_,i,o,h=>by simp at h
 | a::l,k,h,0,o,ho=>by simp at ho;subst ho;exact h.1
 | a ::l,k,h,i+1,o,ho=>by
   have:=DagStepsP.get h.2 i o (by simpa using ho)
   rwa [show k+1+i=k+(i+1) by omega] at this
theorem dag_runP {l:List Oper} {oL:Oper} (hs:DagSpecS sl l oL) (hF:DagFr F sl l.length out a0) (hD: ∀X,(F X).defers=a0.defers) (hmono: ∀i w w' v,C w->C w' ->Rel w w' ->φ i w v->φ i w' v)
  (hst:DagStepsP P Q sl out a0 C Rel φ 0 l)
  (hl: ∀(X:List Value) (w:World),X.length=l.length->C w->(∀i,i<l.length->φ i w (X.getD i undef))->oL.wp P (F X) w (fun a w=>Q .normal a w) Q):
  ∀(fuel:Nat) (listed:Array Bool) (X:List Value) (w:World),DagInv l oL C φ listed X w->listed.toList.countP (!·)<=fuel->wpAny P .any (l++ [oL]).toArray Q fuel listed (F X) w:=by
 have hnot:=fun(listed:Array Bool) (X:List Value) (w:World) (h:DagInv l oL C φ listed X w)=>dag_not_doneS hs h
 intro fuel
 induction fuel with
 | zero=>
   intro listed X w h hc
   have:=count_zero (l:=listed) (by omega) l.length
   have h2:=h.last
   rw[this] at h2;cases h2
 | succ fuel ih=>
   intro listed X w h hc
   refine⟨fun h0=>absurd h0 (hnot listed X w h),fun i hi=> ?_⟩
   obtain⟨hun,o,ho,hall⟩:=mem_ready.1 hi
   have ho' :(l++ [oL])[i]? =some o:=by simpa using ho
   have hil:i<=l.length:=by have:=(List.getElem?_eq_some_iff.1 ho').1;simp at this;omega
   have hw:Region.wanted o (yielded (l++ [oL]).toArray (F X).tmps)=true:=by
    have hg:=hs.guard i o ho'
    simp[Region.wanted,hg]
   have hdep: ∀e∈o.after,Region.binds .any e=true->listed.getD e.on true=true:=fun e he heb=>getD_false_true (hall e he heb)
   have hsz:i<listed.size:=by rw[h.sz];omega
   unfold wpOp
   simp only[ho,hw,if_true]
   refine Or.inl ?_
   rcases Nat.eq_or_lt_of_le hil with h1|h1
   · subst h1
     have:o=oL:=by simp at ho';exact ho'.symm
     subst this
     have hlisted:=fun j hj=>dag_allS hs h hdep (l.length-j) j hj (Nat.le_refl _)
     refine Oper.wp_mono (fun a w' hq=> ?_) (hl X w h.len h.c (fun j hj=>h.holds j hj (hlisted j hj)))
     refine wpAny_done ?_ hq fuel
     rw[List.eq_nil_iff_forall_not_mem]
     intro j hj
     obtain⟨hju,oj,hoj,_⟩:=mem_ready.1 hj
     have hjl:j<=l.length:=by have:=(Array.getElem?_eq_some_iff.1 hoj).1;simp at this;omega
     rcases Nat.eq_or_lt_of_le hjl with h2|h2
     · subst h2;rw[getD_set_self hsz] at hju;cases hju
     · rw[getD_set_ne true (by omega),hlisted j h2] at hju;cases hju
   · have hstep:=DagStepsP.get hst i o (by rw[List.getElem?_append_left h1] at ho';exact ho')
     rw[Nat.zero_add] at hstep
     refine hstep _ w _ h.c (hD X) (fun t ht=>hF.pre X t h.len ht) (fun j hj=> ?_) fun v w' hC hR hφ=> ?_
     · obtain⟨e,he,hej⟩:=Array.any_eq_true'.1 hj
       simp only[Bool.and_eq_true,beq_iff_eq] at hej
       obtain⟨heb,hej⟩:=hej
       have hjl:j<l.length:=by have:=hs.binds i o ho' e he heb;omega
       rw[hF.mid X j h.len hjl]
       exact h.holds j hjl (by rw[<-hej];exact hdep e he heb)
     rw[hs.dst i o h1 ho',hF.put X i v h.len h1]
     refine ih _ _ _ ⟨by simpa using h.sz,by simpa using h.len,hC,by rw[getD_set_ne true (by omega)];exact h.last,fun j hj hjl=> ?_,fun j oj hoj hjl e he heb=> ?_⟩ (by have:=count_set hun;omega)
     · by_cases hji:j=i
       · subst hji
         rw[List.getD_eq_getElem?_getD,List.getElem?_set_self (by rw[h.len];exact hj)]
         exact hφ
       · rw [getD_set_ne true (Ne.symm hji)] at hjl
         rw[List.getD_eq_getElem?_getD,List.getElem?_set_ne (Ne.symm hji), <-List.getD_eq_getElem?_getD]
         exact hmono j w w' _ h.c hC hR (h.holds j hj hjl)
     · by_cases hje:e.on=i
       · rw[hje];exact getD_set_self hsz true
       · rw [getD_set_ne true (Ne.symm hje)]
         by_cases hji:j=i
         · subst hji
           rw[ho'] at hoj;cases hoj
           exact hdep e he heb
         · rw [getD_set_ne true (Ne.symm hji)] at hjl
           exact h.closed j oj hoj hjl e he heb
theorem wp_region_dagP {id:Nat} {l:List Oper} {oL:Oper} {X0:List Value} {w:World} (hm:P.follows .mixedOrders=true) (hB:dagBS sl l oL=true) (hF:DagFr F sl l.length out a0) (hD: ∀X,(F X).defers=a0.defers) (hmono: ∀i w w' v,C w->C w' ->Rel w w' ->φ i w v->φ i w' v)
  (hX:X0.length=l.length) (hC:C w.drew)
  (hst:DagStepsP P Q sl out a0 C Rel φ 0 l)
  (hl: ∀(X:List Value) (w:World),X.length=l.length->C w->(∀i,i<l.length->φ i w (X.getD i undef))->oL.wp P (F X) w (fun a w=>Q .normal a w) Q):
  (Code.region id (l++ [oL]).toArray true).wp P Q (F X0) w:=by
 refine wp_region_any hm ?_
 refine dag_runP (dagBS_spec hB) hF hD hmono hst hl _ _ X0 _ ⟨by simp,hX,hC,?_,fun i hi hl=> ?_,fun i o ho hl=> ?_⟩ ?_
 · simp[Array.getD_eq_getD_getElem?]
 · simp[Array.getD_eq_getD_getElem?,Nat.lt_succ_of_lt hi] at hl
 · have hi:=(List.getElem?_eq_some_iff.1 ho).1
   simp only[List.length_append,List.length_singleton] at hi
   simp[Array.getD_eq_getD_getElem?,hi] at hl
 · have:=List.countP_le_length (p:=(!·)) (l:=(Array.replicate (l++ [oL]).toArray.size false).toList)
   simpa using this
end
section
variable {P:Program} {Q:Exit->Act->World->Prop} {df:List Deferred}
theorem wp_region_dag_oneP {id:Nat} {ops:List Oper} {tmps:List Value} {w:World} (p0 lo m:Nat) (oL:Oper) (C:World->Prop) (Rel:World->World->Prop) (φ:Nat->World->Value->Prop) (hL:ops.drop (m+1)= [oL]) (hm:P.follows .mixedOrders=true)
  (hlo:(tmps.take lo).length=lo) (hp:p0<lo) (hB:dagBS (slOne p0 lo m) (ops.take (m+1)) oL=true) (hmono: ∀i w w' v,C w->C w' ->Rel w w' ->φ i w v->φ i w' v) (hX:((tmps.drop lo).take m).length=m) (hn:(ops.take (m+1)).length=m+1) (hC:C w.drew)
  (hst:DagStepsP P Q (slOne p0 lo m) (fun t=>decide (t<lo) && !decide (t=p0)) ⟨(tmps.take lo).toArray,df⟩ C Rel φ 0 (ops.take (m+1)))
  (hl: ∀(X:List Value) (w:World),X.length=m+1->C w->(∀i,i<m+1->φ i w (X.getD i undef))->oL.wp P (frOne (tmps.take lo) ((tmps.drop lo).drop m) df p0 m X) w (fun a w=>Q .normal a w) Q):
  (Code.region id ops.toArray true).wp P Q ⟨tmps.toArray,df⟩ w:=by
 have e1:ops=ops.take (m+1)++ [oL]:=by rw[<-hL,List.take_append_drop]
 have hF:=frOne_fr (tmps.take lo) ((tmps.drop lo).drop m) df p0 m (by omega)
 rw[hlo] at hF
 have e2:frOne (tmps.take lo) ((tmps.drop lo).drop m) df p0 m ((tmps.drop lo).take m++ [tmps.getD p0 undef])=⟨tmps.toArray,df⟩:=by
  unfold frOne
  have h1:((tmps.drop lo).take m++ [tmps.getD p0 undef]).getD m undef=tmps.getD p0 undef:=by
   rw[List.getD_eq_getElem?_getD,List.getElem?_append_right (by omega),hX];simp
  have h2:((tmps.drop lo).take m++ [tmps.getD p0 undef]).take m=(tmps.drop lo).take m:=by
   rw[List.take_append_of_le_length (by omega),List.take_of_length_le (by omega)]
  have hpl:p0<tmps.length:=by rw[List.length_take] at hlo;omega
  have h3:(tmps.take lo).set p0 (tmps.getD p0 undef)=tmps.take lo:=by
   rw[List.getD_eq_getElem?_getD,List.getElem?_eq_getElem hpl,Option.getD_some]
   have:tmps[p0]=(tmps.take lo)[p0]'(by omega):=by simp
   rw[this,List.set_getElem_self]
  rw[h1,h2,h3,List.append_assoc,List.take_append_drop,List.take_append_drop]
 rw[<-e2]
 have:=wp_region_dagP (F:=frOne (tmps.take lo) ((tmps.drop lo).drop m) df p0 m) (id:=id) (X0:=(tmps.drop lo).take m++ [tmps.getD p0 undef]) (w:=w) hm hB (by rw[hn];exact hF) (fun _=>rfl) hmono (by rw[List.length_append,hX,hn];rfl) hC hst (fun X w h1 h2 h3=>hl X w (by rw[h1,hn]) h2 (by rw[<-hn];exact h3))
 rw[<-e1] at this
 exact this
end
end Go.Proofs.YtpgkjnebklknjaaGreatDoor
