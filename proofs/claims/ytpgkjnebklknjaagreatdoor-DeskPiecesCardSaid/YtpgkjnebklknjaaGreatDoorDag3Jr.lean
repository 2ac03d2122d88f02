/-As XDag,where the operations' slots lie anywhere:among them a variable that the region makes (an alloc into a slot ahead of the row). Over any program. -/
import Derived.Test.YtpgkjnebklknjaaGreatDoorDag2Jr
namespace Go.Proofs.YtpgkjnebklknjaaGreatDoor
open Go.RowKit
def dagBS (sl:Nat->Nat) (l:List Oper) (oL:Oper):Bool:=
 (List.range (l.length+1)).all (fun i=>match (l++ [oL])[i]? with
  | none=>false
  | some o=>o.guard.isNone && o.after.all (fun e=> !Region.binds .any e||decide (e.on<i)) && (decide (i=l.length)||(o.dst==some (sl i) &&
    (List.range (l.length+1)).any (fun j=>match (l++ [oL])[j]? with|none=>false|some o' =>decide (i<j) && o'.after.any (fun e=>Region.binds .any e && e.on==i)))))
structure DagSpecS (sl:Nat->Nat) (l:List Oper) (oL:Oper):Prop where
 guard: ∀(i:Nat) (o:Oper),(l++ [oL])[i]? =some o->o.guard=none
 binds: ∀(i:Nat) (o:Oper),(l++ [oL])[i]? =some o-> ∀e∈o.after,Region.binds .any e=true->e.on<i
 dst: ∀(i:Nat) (o:Oper),i<l.length->(l++ [oL])[i]? =some o->o.dst=some (sl i)
 later: ∀i,i<l.length-> ∃(j:Nat) (o:Oper),(l++ [oL])[j]? =some o/\i<j/\ ∃e∈o.after,Region.binds .any e=true/\e.on=i
theorem dagBS_spec {sl:Nat->Nat} {l:List Oper} {oL:Oper} (h:dagBS sl l oL=true):DagSpecS sl l oL:=by
 have h' : ∀i o,(l++ [oL])[i]? =some o->(o.guard.isNone && o.after.all (fun e=> !Region.binds .any e||decide (e.on<i)) && (decide (i=l.length)||(o.dst==some (sl i) &&
    (List.range (l.length+1)).any (fun j=>match (l++ [oL])[j]? with|none=>false|some o' =>decide (i<j) && o'.after.any (fun e=>Region.binds .any e && e.on==i)))))=true:=by
  intro i o ho
  have hi:i<l.length+1:=by have:=(List.getElem?_eq_some_iff.1 ho).1;simpa using this
  have:=List.all_eq_true.1 h i (List.mem_range.2 hi)
  simpa only[ho] using this
 simp only[Bool.and_eq_true,Bool.or_eq_true,decide_eq_true_eq,beq_iff_eq,Array.all_eq_true_iff_forall_mem,List.any_eq_true,List.mem_range,Option.isNone_iff_eq_none,Bool.not_eq_true'] at h'
 refine⟨fun i o ho=>(h' i o ho).1.1,fun i o ho e he hb=>((h' i o ho).1.2 e he).resolve_left (by simp[hb]),fun i o hi ho=> ?_,fun i hi=> ?_⟩
 · rcases(h' i o ho).2 with h1|h1
   · omega
   · exact h1.1
 · obtain⟨o,ho⟩: ∃o,(l++ [oL])[i]? =some o:=⟨_,List.getElem?_eq_getElem (by simp;omega)⟩
   rcases(h' i o ho).2 with h1|h1
   · omega
   · obtain⟨j,hj,h2⟩:=h1.2
     split at h2
     · cases h2
     · rename_i o' ho'
       simp only[Bool.and_eq_true,decide_eq_true_eq] at h2
       obtain⟨e,he,h3⟩:=Array.any_eq_true'.1 h2.2
       simp only[Bool.and_eq_true,beq_iff_eq] at h3
       exact⟨j,o',ho',h2.1,e,he,h3⟩
section
structure DagFr (F:List Value->Act) (sl:Nat->Nat) (n:Nat) (out:Nat->Bool) (a0:Act):Prop where
 put: ∀(X:List Value) (i:Nat) (v:Value),X.length=n->i<n->(F X).put (some (sl i)) v=F (X.set i v)
 mid: ∀(X:List Value) (j:Nat),X.length=n->j<n->(F X).eval (.tmp (sl j))=X.getD j undef
 pre: ∀(X:List Value) (t:Nat),X.length=n->out t=true->(F X).eval (.tmp t)=a0.eval (.tmp t)
variable {P:Program} {Q:Exit->Act->World->Prop} {F:List Value->Act} {sl:Nat->Nat} {out:Nat->Bool} {a0:Act} {C:World->Prop} {Rel:World->World->Prop} {φ:Nat->World->Value->Prop}
theorem dag_allS {l:List Oper} {oL:Oper} (hs:DagSpecS sl l oL) {listed:Array Bool} {X:List Value} {w:World} (h:DagInv l oL C φ listed X w) (hr: ∀e∈oL.after,Region.binds .any e=true->listed.getD e.on true=true):
  ∀d i,i<l.length->l.length-i<=d->listed.getD i true=true
 | 0,i,hi,hd=>by omega
 | d + 1,i,hi,hd=>by
   obtain⟨j,o,ho,hij,e,he,heb,hei⟩:=hs.later i hi
   have hj:j<=l.length:=by have:=(List.getElem?_eq_some_iff.1 ho).1;simp at this;omega
   rcases Nat.eq_or_lt_of_le hj with h1|h1
   · subst h1
     simp at ho
     subst ho
     rw[<-hei];exact hr e he heb
   · have:=dag_allS hs h hr d j h1 (by omega)
     rw[<-hei]
     exact h.closed j o ho this e he heb
theorem dag_not_doneS {l:List Oper} {oL:Oper} (hs:DagSpecS sl l oL) {listed:Array Bool} {X:List Value} {w:World} (h:DagInv l oL C φ listed X w):Region.ready .any (l++ [oL]).toArray listed≠ []:=by
 intro h0
 --the least one that has not come up is ready
 have hmin: ∀n,∀i,i<n->i<=l.length->listed.getD i true=true:=by
  intro n
  induction n with
  | zero=>intro i hi;omega
  | succ n ih=>
    intro i hi hil
    by_cases hc:listed.getD i true=true
    · exact hc
    · exfalso
      obtain⟨o,ho⟩: ∃o,(l++ [oL])[i]? =some o:=⟨_,List.getElem?_eq_getElem (by simp;omega)⟩
      have hm:i∈Region.ready .any (l++ [oL]).toArray listed:=by
       refine mem_ready.2 ⟨by simpa using hc,o,by simpa using ho,fun e he heb=> ?_⟩
       have hb:=hs.binds i o ho e he heb
       have:=ih e.on (by omega) (by omega)
       have hlt:e.on<listed.size:=by have:=h.sz;omega
       simp only[Array.getD,hlt,dif_pos] at this ⊢
       exact this
      rw[h0] at hm;cases hm
 have:=hmin (l.length+1) l.length (by omega) (Nat.le_refl _)
 rw[h.last] at this;cases this
end
def slOne (p0 lo m:Nat) (i:Nat):Nat:=if i=m then p0 else lo+i
def frOne (pre post:List Value) (df:List Deferred) (p0 m:Nat) (X:List Value):Act:=⟨(pre.set p0 (X.getD m undef)++X.take m++post).toArray,df⟩
theorem frOne_fr (pre post:List Value) (df:List Deferred) (p0 m:Nat) (hp:p0<pre.length):
  DagFr (frOne pre post df p0 m) (slOne p0 pre.length m) (m+1) (fun t=>decide (t<pre.length) && !decide (t=p0)) ⟨pre.toArray,df⟩ where
 put X i v hX hi:=by
  unfold frOne slOne Act.put
  simp only[Act.mk.injEq,and_true,List.setIfInBounds_toArray]
  by_cases him:i=m
  · subst him
    rw[if_pos rfl,List.append_assoc,List.set_append_left _ _ (by simpa using hp),List.set_set,List.append_assoc]
    congr 2
    · rw[List.getD_eq_getElem?_getD,List.getElem?_set_self (by omega)];rfl
    · rw [List.take_set]
      rw[List.set_eq_of_length_le (by rw[List.length_take];exact Nat.min_le_left _ _)]
  · rw [if_neg him,List.append_assoc,List.set_append_right _ _ (by simp),List.set_append_left _ _ (by simp;omega),List.append_assoc]
    congr 3
    · rw[List.getD_eq_getElem?_getD,List.getD_eq_getElem?_getD,List.getElem?_set_ne (by omega)]
    · rw[List.take_set];congr 1;simp
 mid X j hX hj:=by
  unfold frOne slOne Act.eval
  simp only[Array.getD_eq_getD_getElem?,List.getElem?_toArray,List.getD_eq_getElem?_getD]
  by_cases hjm:j=m
  · subst hjm
    rw[if_pos rfl,List.append_assoc,List.getElem?_append_left (by simpa using hp),List.getElem?_set_self hp];rfl
  · rw [if_neg hjm,List.append_assoc,List.getElem?_append_right (by simp),List.getElem?_append_left (by simp;omega),List.getElem?_take,if_pos (by simp;omega)]
    congr 2;simp
 pre X t hX ht:=by
  simp only[Bool.and_eq_true,decide_eq_true_eq,Bool.not_eq_true',decide_eq_false_iff_not] at ht
  unfold frOne Act.eval
  simp only[Array.getD_eq_getD_getElem?,List.getElem?_toArray]
  rw[List.append_assoc,List.getElem?_append_left (by simpa using ht.1),List.getElem?_set_ne (fun e=>ht.2 e.symm)]
section
variable {P:Program} {Q:Exit->Act->World->Prop} {df:List Deferred}
end
end Go.Proofs.YtpgkjnebklknjaaGreatDoor
