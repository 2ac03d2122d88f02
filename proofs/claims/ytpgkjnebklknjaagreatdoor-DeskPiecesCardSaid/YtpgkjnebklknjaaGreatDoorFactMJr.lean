/-Plain law,no program in it:a text of changes is read as just the changes that are written so. -/
import Derived.Lib.AtoiAll
import Derived.Lib.SplitLaws
import Derived.Test.YtpgkjnebklknjaaGreatDoorFactNJr
namespace Go.Proofs.YtpgkjnebklknjaaGreatDoor
open Go
def cutC (c:UInt8):List UInt8->List (List UInt8)
 | []=> [[]]
 | b ::s=>if b=c then []::cutC c s else match cutC c s with
   | []=> [[b]]
   | p::r=>(b::p)::r
theorem cutC_ne (c:UInt8): ∀s,cutC c s≠ []
 | []=>by simp[cutC]
 | b ::s=>by
   unfold cutC
   split
   · simp
   · split<;>simp
theorem cutC_free (c:UInt8): ∀(p s:List UInt8),c∉p->cutC c (p++c::s)=p::cutC c s
 | [],s,_=>by simp[cutC]
 | b ::p,s,h=>by
   have hb: ¬b=c:=fun e=>h (by simp[e])
   have ih:=cutC_free c p s (fun e=>h (List.mem_cons_of_mem _ e))
   rw[List.cons_append,cutC,if_neg hb,ih]
theorem cutC_last (c:UInt8): ∀p:List UInt8,c∉p->cutC c p= [p]
 | [],_=>rfl
 | b ::p,h=>by
   have hb: ¬b=c:=fun e=>h (by simp[e])
   rw[cutC,if_neg hb,cutC_last c p (fun e=>h (List.mem_cons_of_mem _ e))]
theorem join_cons2 (p q:List UInt8) (r:List (List UInt8)) (sep:List UInt8):Lib.join (p::q::r) sep=p++(sep++Lib.join (q::r) sep):=by
 simp[Lib.join,List.intercalate,List.intersperse]
theorem join_one' (p sep:List UInt8):Lib.join [p] sep=p:=by simp[Lib.join,List.intercalate,List.intersperse]
theorem cutC_join (c:UInt8): ∀l:List (List UInt8),l≠ []->(∀p∈l,c∉p)->cutC c (Lib.join l [c])=l
 | [],h,_=>absurd rfl h
 | [p],_,h=>by rw[join_one',cutC_last c p (h p (by simp))]
 | p ::q::r,_,h=>by
   rw[join_cons2,List.singleton_append,cutC_free c p _ (h p (by simp)),cutC_join c (q::r) (by simp) (fun x hx=>h x (List.mem_cons_of_mem _ hx))]
theorem index_one (c:UInt8): ∀s:List UInt8,(c∉s->Lib.index s [c]= -1)/\(∀p r,s=p++c::r->c∉p->Lib.index s [c]=p.length)
 | []=>⟨fun _=>by simp[Lib.index],fun p r h=>by simp at h⟩
 | b ::s=>by
   obtain⟨i1,i2⟩:=index_one c s
   refine⟨fun h=> ?_,fun p r h hp=> ?_⟩
   · have hb: ¬c=b:=fun e=>h (by simp[e])
     have hi:=i1 (fun e=>h (List.mem_cons_of_mem _ e))
     have hq:([c]:List UInt8).isPrefixOf (b::s)=false:=by simp[List.isPrefixOf,hb]
     rw[Lib.index,hq,hi];rfl
   · cases p with
     | nil =>
       simp only[List.nil_append,List.cons.injEq] at h
       obtain⟨rfl,rfl⟩:=h
       rw[Lib.index];simp[List.isPrefixOf]
     | cons x p=>
       simp only[List.cons_append,List.cons.injEq] at h
       obtain⟨rfl,rfl⟩:=h
       have hb: ¬c=b:=fun e=>hp (by simp[e])
       have hi:=i2 p r rfl (fun e=>hp (List.mem_cons_of_mem _ e))
       have hq:([c]:List UInt8).isPrefixOf (b::(p++c::r))=false:=by simp[List.isPrefixOf,hb]
       rw[Lib.index,hq,hi]
       simp
theorem first_sign (c:UInt8): ∀s:List UInt8,c∉s\/ ∃p r,s=p++c::r/\c∉p
 | []=> .inl (by simp)
 | b ::s=>by
   by_cases hb:b=c
   · subst hb;exact .inr ⟨[],s,rfl,by simp⟩
   · rcases first_sign c s with h|⟨p,r,rfl,hp⟩
     · exact .inl (by simp[Ne.symm hb,h])
     · exact .inr ⟨b::p,r,rfl,by simp[Ne.symm hb,hp]⟩
theorem count_free (c:UInt8) (s:List UInt8) (h:c∉s):Lib.count s [c]=0:=by rw[Lib.count_one];exact List.count_eq_zero.2 h
theorem split_cutC (c:UInt8): ∀(n:Nat) (s:List UInt8),s.length<=n->Lib.splitK [c] 0 (Lib.count s [c]) s=cutC c s
 | 0, s,h=>by
   have:s= []:=List.eq_nil_of_length_eq_zero (by omega)
   subst this
   rw[count_free c [] (by simp)];rfl
 | n + 1,s,h=>by
   rcases first_sign c s with hf|⟨p,r,rfl,hp⟩
   · rw[count_free c s hf,cutC_last c s hf];rfl
   · have hi:=(index_one c (p++c::r)).2 p r rfl hp
     have hc:Lib.count (p++c::r) [c]=Lib.count r [c]+1:=by
      rw[Lib.count_one,Lib.count_one,List.count_append,List.count_eq_zero.2 hp,List.count_cons_self];omega
     rw[hc,Lib.splitK,hi,cutC_free c p r hp,if_neg (by simp)]
     have e1:(p++c::r).take ((p.length:Int).toNat+0)=p:=by simp
     have e2:(p++c::r).drop ((p.length:Int).toNat+ [c].length)=r:=by simp
     rw[e1,e2,split_cutC c n r (by simp at h;omega)]
theorem split_eq (c:UInt8) (s:List UInt8):Lib.split s [c]=cutC c s:=split_cutC c s.length s (Nat.le_refl _)
theorem splitB_eq (c:UInt8) (s:ByteArray):(Lib.splitB ⟨#[c]⟩ 0 (Lib.countB s ⟨#[c]⟩) s).map (·.data.toList)=cutC c s.data.toList:=by
 rw[Lib.splitB_data]
 exact split_eq c s.data.toList
theorem digit_val (k:Nat) (h:k<10):(UInt8.ofNat (48+k)).toNat=48+k:=by simp;omega
theorem mem_digits (u:Nat): ∀c∈Lib.decDigits u,48<=c.toNat/\c.toNat<=57:=by
 induction u using Nat.strongRecOn with
 | _ u ih=>
   intro c hc
   rw[Lib.decDigits] at hc
   split at hc
   · rename_i h
     simp only[List.mem_singleton] at hc
     rw[hc,digit_val _ h];omega
   · rename_i h
     rcases List.mem_append.1 hc with hc|hc
     · exact ih (u / 10) (by omega) c hc
     · simp only[List.mem_singleton] at hc
       rw[hc,digit_val _ (by omega)];omega
theorem digits_ne (u:Nat):Lib.decDigits u≠ []:=by
 rw[Lib.decDigits];split<;>simp
theorem parse_append: ∀(l:List UInt8) (m:List UInt8) (acc u:Nat),(∀c∈l,48<=c.toNat/\c.toNat<=57)->Lib.parseUint10 acc l= .ok u->Lib.parseUint10 acc (l++m)=Lib.parseUint10 u m
 | [],m,acc,u,_,h=>by simp only[Lib.parseUint10,Lib.NumEnd.ok.injEq] at h;subst h;rfl
 | c ::l,m,acc,u,hc,h=>by
   have h1:=hc c (by simp)
   rw[List.cons_append,Lib.parseUint10,if_pos h1]
   rw[Lib.parseUint10,if_pos h1] at h
   split at h
   · cases h
   · rename_i h2
     split at h
     · cases h
     · rename_i h3
       rw[if_neg h2,if_neg h3]
       exact parse_append l m _ u (fun x hx=>hc x (List.mem_cons_of_mem _ hx)) h
theorem parse_digits (u:Nat):u<18446744073709551616->Lib.parseUint10 0 (Lib.decDigits u)= .ok u:=by
 induction u using Nat.strongRecOn with
 | _ u ih=>
   intro hu
   rw[Lib.decDigits]
   split
   · rename_i h
     have:=digit_val u h
     rw[Lib.parseUint10,if_pos (by omega),if_neg (by omega),if_neg (by omega),Lib.parseUint10,this]
     congr 1;omega
   · rename_i h
     have:=digit_val (u % 10) (by omega)
     rw[parse_append _ _ _ _ (mem_digits _) (ih (u / 10) (by omega) (by omega)),Lib.parseUint10,if_pos (by omega),if_neg (by omega),if_neg (by omega),Lib.parseUint10,this]
     congr 1;omega
theorem atoi_itoa (n:Int) (h0: -9223372036854775808<=n) (h1:n<=9223372036854775807):Lib.atoiAll (Lib.itoa n)= .ok n:=by
 unfold Lib.itoa
 by_cases hn:n<0
 · rw [if_pos hn]
   have hm:Lib.parseMag (Lib.decDigits n.natAbs)= .ok n.natAbs:=by
    unfold Lib.parseMag;rw[if_neg (digits_ne _)];exact parse_digits _ (by omega)
   have e:(45:UInt8).toNat=45:=rfl
   simp only[Lib.atoiAll,e,or_true,if_true,hm,not_true_eq_false,false_and,if_false,true_and]
   rw[if_neg (by omega)]
   congr 1;omega
 · rw [if_neg hn]
   have hm:Lib.parseMag (Lib.decDigits n.toNat)= .ok n.toNat:=by
    unfold Lib.parseMag;rw[if_neg (digits_ne _)];exact parse_digits _ (by omega)
   have hd:=mem_digits n.toNat
   have hne:=digits_ne n.toNat
   generalize Lib.decDigits n.toNat=l at hm hd hne
   cases l with
   | nil=>exact absurd rfl hne
   | cons c r=>
     have hc:=hd c (by simp)
     simp only[Lib.atoiAll]
     rw[if_neg (by omega),hm]
     simp only[show ¬c.toNat=45 by omega,not_false_eq_true,true_and,false_and,if_false]
     rw[if_neg (by omega)]
     congr 1;omega
theorem mem_itoa (n:Int): ∀c∈Lib.itoa n,c=45\/48<=c.toNat/\c.toNat<=57:=by
 unfold Lib.itoa
 intro c hc
 split at hc
 · rcases List.mem_cons.1 hc with h|h
   · exact .inl h
   · exact .inr (mem_digits _ c h)
 · exact .inr (mem_digits _ c hc)
theorem itoa_free (n:Int) (x:UInt8) (h:x=32\/x=43):x∉Lib.itoa n:=fun hm=>by
 have:=mem_itoa n x hm
 rcases h with rfl|rfl<;>rcases this with h|h<;>revert h<;>decide
theorem isW_free (x:UInt8) (h:x=32\/x=43\/x=45):isW x=false:=by rcases h with rfl|rfl|rfl<;>rfl
theorem word_free (s:ByteArray) (hs:wordB s=true) (x:UInt8) (h:x=32\/x=43\/x=45):x∉s.data.toList:=fun hm=>by
 unfold wordB at hs
 rw[Bool.and_eq_true,List.all_eq_true] at hs
 have:=hs.2 x hm
 rw[isW_free x h] at this;cases this
theorem dash_free (s:ByteArray) (hs:s.size=0\/wordB s=true) (x:UInt8) (h:x=32\/x=43):x∉dashL s:=by
 unfold dashL
 rcases hs with hs|hs
 · rw[if_pos hs];rcases h with rfl|rfl<;>simp
 · split
   · rcases h with rfl|rfl<;>simp
   · exact word_free s hs x (by rcases h with rfl|rfl<;>simp)
theorem key_word {k:KeyP} (h:keyB k=true):k.word.size=0\/wordB k.word=true:=by
 unfold keyB at h
 split at h
 · simp only[Bool.and_eq_true,decide_eq_true_eq] at h;exact .inl h.2.1
 · split at h
   · simp only[Bool.and_eq_true] at h;exact .inr h.2.2
   · split at h
     · simp only[Bool.and_eq_true] at h;exact .inr h.2.1
     · cases h
theorem op_value {o:OpP} (h:opB o=true):o.value.size=0\/wordB o.value=true:=by
 unfold opB at h
 simp only[Bool.and_eq_true,Bool.or_eq_true,decide_eq_true_eq] at h
 exact h.2.2
theorem op_key {o:OpP} (h:opB o=true):keyB o.key=true:=by
 unfold opB at h
 simp only[Bool.and_eq_true] at h
 exact h.1
theorem opWs_free {o:OpP} (h:opB o=true) (x:UInt8) (hx:x=32\/x=43): ∀p∈opWs o,x∉p:=by
 intro p hp
 simp only[opWs,List.mem_cons,List.not_mem_nil,or_false] at hp
 rcases hp with rfl|rfl|rfl|rfl|rfl|rfl|rfl
 · exact itoa_free _ x hx
 · exact itoa_free _ x hx
 · exact dash_free _ (key_word (op_key h)) x hx
 · exact itoa_free _ x hx
 · exact itoa_free _ x hx
 · exact itoa_free _ x hx
 · exact dash_free _ (op_value h) x hx
theorem mem_join (x:UInt8) (sep:List UInt8): ∀l:List (List UInt8),x∈Lib.join l sep->x∈sep\/ ∃p∈l,x∈p
 | [],h=>by simp[Lib.join,List.intercalate] at h
 | [p],h=>by rw[join_one'] at h;exact .inr ⟨p,by simp,h⟩
 | p ::q::r,h=>by
   rw[join_cons2,List.mem_append,List.mem_append] at h
   rcases h with h|h|h
   · exact .inr ⟨p,by simp,h⟩
   · exact .inl h
   · rcases mem_join x sep (q::r) h with h|⟨a,h1,h2⟩
     · exact .inl h
     · exact .inr ⟨a,List.mem_cons_of_mem _ h1,h2⟩
theorem opT_cut {o:OpP} (h:opB o=true):cutC 32 (opT o)=opWs o:=cutC_join 32 _ (by simp[opWs]) (opWs_free h 32 (.inl rfl))
theorem opT_free {o:OpP} (h:opB o=true):(43:UInt8)∉opT o:=fun hm=>by
 rcases mem_join 43 [32] _ hm with h1|⟨p,h1,h2⟩
 · revert h1;decide
 · exact opWs_free h 43 (.inr rfl) p h1 h2
theorem writeT_cut {l:List OpP} (h:l.all opB=true) (hl:l≠ []):cutC 43 (writeT l)=l.map opT:=
 cutC_join 43 _ (by simpa using hl) (fun p hp=>by
  obtain⟨o,ho,rfl⟩:=List.mem_map.1 hp
  exact opT_free (List.all_eq_true.1 h o ho))
def undash (l:List UInt8):ByteArray:=if l= [45] then ByteArray.empty else ⟨l.toArray⟩
theorem undash_dash (s:ByteArray) (hs:s.size=0\/wordB s=true):undash (dashL s)=s:=by
 unfold undash dashL
 by_cases h0:s.size=0
 · rw [if_pos h0,if_pos rfl]
   obtain⟨⟨l⟩⟩:=s
   cases l with
   | nil=>rfl
   | cons _ _=>simp[ByteArray.size] at h0
 · have hw:=hs.resolve_left h0
   rw[if_neg h0,if_neg]
   intro e
   exact word_free s hw 45 (.inr (.inr rfl)) (by rw[e];simp)
def num? (l:List UInt8):Option Int:=match Lib.atoiAll l with| .ok n=>some n|_=>none
def pieceF (x:List UInt8):Option OpP:=match cutC 32 x with
 | [a, b,c,d,e,f,g]=>match num? a,num? b,num? d,num? e,num? f with
   | some a,some b,some d,some e,some f=>some ⟨⟨a,b,undash c,d⟩,e,f,undash g⟩
   | _,_,_,_,_=>none
 | _=>none
def piecesF:List OpP->List (List UInt8)->Option (List OpP)
 | l,[]=>some l
 | l, x::r=>if 8<=l.length then none else match pieceF x with
   | some o=>piecesF (l++ [o]) r
   | none=>none
def okT (l:List OpP) (s:List UInt8):Bool:=lenB l && (l.all opB && decide (writeT l=s))
def readF (s:List UInt8):Option (List OpP):=match piecesF [] (cutC 43 s) with
 | some l=>if okT l s then some l else none
 | none=>none
theorem okT_iff (l:List OpP) (s:List UInt8):okT l s=true↔(1<=l.length/\l.length<=8)/\l.all opB=true/\writeT l=s:=by
 simp[okT,lenB]
def wfOp (o:OpP):Prop:=(-9223372036854775808<=o.key.kind/\o.key.kind<=9223372036854775807)/\(-9223372036854775808<=o.key.a/\o.key.a<=9223372036854775807)/\(-9223372036854775808<=o.key.b/\o.key.b<=9223372036854775807)/\(-9223372036854775808<=o.fr/\o.fr<=9223372036854775807)/\(-9223372036854775808<=o.to/\o.to<=9223372036854775807)
theorem opB_wf {o:OpP} (h:opB o=true):wfOp o:=by
 have hk:=op_key h
 unfold opB spanB at h
 simp only[Bool.and_eq_true,decide_eq_true_eq] at h
 unfold keyB nodeB at hk
 unfold wfOp
 split at hk
 · simp only[Bool.and_eq_true,decide_eq_true_eq] at hk;omega
 · split at hk
   · simp only[Bool.and_eq_true,decide_eq_true_eq] at hk;omega
   · split at hk
     · simp only[Bool.and_eq_true,decide_eq_true_eq] at hk;omega
     · cases hk
theorem pieceF_opT {o:OpP} (h:opB o=true):pieceF (opT o)=some o:=by
 obtain⟨w1,w2,w3,w4,w5⟩:=opB_wf h
 unfold pieceF
 rw[opT_cut h]
 simp only[opWs,num?,atoi_itoa _ w1.1 w1.2,atoi_itoa _ w2.1 w2.2,atoi_itoa _ w3.1 w3.2,atoi_itoa _ w4.1 w4.2,atoi_itoa _ w5.1 w5.2,undash_dash _ (key_word (op_key h)),undash_dash _ (op_value h)]
theorem piecesF_map: ∀(m l:List OpP),l.length+m.length<=8->m.all opB=true->piecesF l (m.map opT)=some (l++m)
 | [],l,_,_=>by simp[piecesF]
 | o ::m,l,h,ha=>by
   simp only[List.length_cons] at h
   simp only[List.all_cons,Bool.and_eq_true] at ha
   rw[List.map_cons,piecesF,if_neg (by omega),pieceF_opT ha.1]
   show piecesF (l++ [o]) (m.map opT)=_
   rw[piecesF_map m (l++ [o]) (by simp;omega) ha.2]
   simp
theorem readF_iff (s:List UInt8) (l:List OpP):readF s=some l↔okT l s=true:=by
 constructor
 · intro h
   unfold readF at h
   split at h
   · split at h
     · rename_i ho;obtain rfl:=Option.some.inj h;exact ho
     · cases h
   · cases h
 · intro h
   have h' :=h
   rw[okT_iff] at h'
   obtain⟨h1,h2,rfl⟩:=h'
   unfold readF
   rw[writeT_cut h2 (by intro e;subst e;simp at h1),piecesF_map l [] (by simpa using h1.2) h2]
   simp only[List.nil_append]
   rw[if_pos h]
theorem keyLess_irrefl (x:KeyP):keyLess x x=false:=by unfold keyLess;simp
theorem keyLess_trans (x y z:KeyP) (h:keyLess x y=true) (k:keyLess y z=true):keyLess x z=true:=by
 obtain⟨k1,a1,s1,b1⟩:=x;obtain⟨k2,a2,s2,b2⟩:=y;obtain⟨k3,a3,s3,b3⟩:=z
 unfold keyLess at h k ⊢
 simp only at h k ⊢
 by_cases e1:k1=k2
 · subst e1
   by_cases e2:k1=k3
   · subst e2
     by_cases f1:a1=a2
     · subst f1
       by_cases f2:a1=a3
       · subst f2
         by_cases g1:s1=s2
         · subst g1
           by_cases g2:s1=s3
           · subst g2;simp at h k ⊢;omega
           · simp[g2] at h k ⊢;exact k
         · by_cases g2:s2=s3
           · subst g2;simp[g1] at h k ⊢;exact h
           · simp[g1] at h;simp[g2] at k
             have:=bless_trans _ _ _ h k
             by_cases g3:s1=s3
             · subst g3;rw[bless_irrefl] at this;cases this
             · simp[g3,this]
       · simp[f2] at k ⊢;exact k
     · by_cases f2:a2=a3
       · subst f2;simp[f1] at h ⊢;exact h
       · simp[f1] at h;simp[f2] at k;simp[show ¬a1=a3 by omega];omega
   · simp[e2] at k ⊢;exact k
 · by_cases e2:k2=k3
   · subst e2;simp[e1] at h ⊢;exact h
   · simp[e1] at h;simp[e2] at k;simp[show ¬k1=k3 by omega];omega
theorem keyLess_tri (x y:KeyP):keyLess x y=true\/x=y\/keyLess y x=true:=by
 obtain⟨k1,a1,s1,b1⟩:=x;obtain⟨k2,a2,s2,b2⟩:=y
 unfold keyLess
 simp only
 by_cases e1:k1=k2
 · subst e1
   by_cases f1:a1=a2
   · subst f1
     by_cases g1:s1=s2
     · subst g1;simp;omega
     · simp[g1,Ne.symm g1]
       rcases bless_tri s1.data.toList s2.data.toList with h|h|h
       · exact .inl h
       · exact absurd (bytes_ext h) g1
       · exact .inr h
   · simp[f1,Ne.symm f1];omega
 · simp[e1,Ne.symm e1];omega
theorem keyLess_asymm (x y:KeyP) (h:keyLess x y=true):keyLess y x=false:=by
 cases h' :keyLess y x
 · rfl
 · have:=keyLess_trans x y x h h'
   rw[keyLess_irrefl] at this;cases this
end Go.Proofs.YtpgkjnebklknjaaGreatDoor
