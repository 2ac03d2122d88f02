/-base:a disk in memory;a place written;the power. -/
import Derived.Laws.Bits64
import Derived.Deep.DeepCutAuto
import Derived.Deep.RegionLaw
import Derived.Test.YtpgkjnebklknjaaGreatDoorPwHJr
import Derived.Test.YtpgkjnebklknjaaGreatDoorFcLJr
import Derived.Test.YtpgkjnebklknjaaGreatDoorFrameJr
namespace Go.Proofs.YtpgkjnebklknjaaGreatDoor
open Go
def sumK (n:Nat) (c:UInt8):Nat:=((n ^^^ c.toNat)*1099511628211) % 18446744073709551616
def sumN (s:List UInt8):Nat:=s.foldl sumK 14695981039346656037
theorem sumN_snoc (s:List UInt8) (c:UInt8):sumN (s++ [c])=sumK (sumN s) c:=by unfold sumN;rw[List.foldl_append,List.foldl_cons,List.foldl_nil]
theorem sumN_lt (s:List UInt8):sumN s<18446744073709551616:=by
 rcases List.eq_nil_or_concat s with rfl|⟨l,c,rfl⟩
 · unfold sumN;rw[List.foldl_nil];omega
 · rw[List.concat_eq_append,sumN_snoc];unfold sumK;omega
def sumR (s:List UInt8):Int:=((sumN s / 8:Nat):Int)
theorem sumR_rng (s:List UInt8):0<=sumR s/\sumR s<2305843009213693952:=by
 have:=sumN_lt s
 unfold sumR
 omega
def headT (k:Int) (s:List UInt8):List UInt8:=Lib.itoa k++124::s
def sealT (k:Int) (s:List UInt8):List UInt8:=headT k s++124::Lib.itoa (sumR (headT k s))
def openT (k:Int) (t:List UInt8):Option (List UInt8):=match cutC 124 t with
 | [_,s,_]=>if sealT k s=t then some s else none
 | _=>none
theorem cutC_mem (c:UInt8): ∀(t:List UInt8),∀p∈cutC c t,c∉p
 | [],p,hp=>by simp[cutC] at hp;subst hp;simp
 | b ::s,p,hp=>by
   have ih:=cutC_mem c s
   unfold cutC at hp
   split at hp
   · rcases List.mem_cons.1 hp with rfl|hp
     · simp
     · exact ih p hp
   · rename_i hb
     cases h:cutC c s with
     | nil=>exact absurd h (cutC_ne c s)
     | cons q r=>
       rw[h] at hp ih
       rcases List.mem_cons.1 hp with rfl|hp
       · exact fun hm=>(List.mem_cons.1 hm).elim (fun e=>hb e.symm) (ih q (by simp))
       · exact ih p (List.mem_cons_of_mem _ hp)
theorem cutC_le (c:UInt8): ∀(s:List UInt8),∀p∈cutC c s,p.length<=s.length
 | [],p,h=>by simp[cutC] at h;subst h;exact Nat.le_refl _
 | b ::s,p,h=>by
   unfold cutC at h
   have ih:=cutC_le c s
   split at h
   · rcases List.mem_cons.1 h with rfl|h
     · exact Nat.zero_le _
     · have:=ih p h;simp;omega
   · split at h
     · rw[List.mem_singleton] at h;subst h;simp
     · rename_i q r hq
       rw[hq] at ih
       rcases List.mem_cons.1 h with rfl|h
       · have:=ih q (by simp);simp;omega
       · have:=ih p (List.mem_cons_of_mem _ h);simp;omega
theorem itoa_bar (n:Int):(124:UInt8)∉Lib.itoa n:=fun hm=>by
 rcases mem_itoa n _ hm with h|h
 · exact absurd h (by decide)
 · exact absurd h.2 (by decide)
theorem open_seal {k:Int} {s:List UInt8} (h:(124:UInt8)∉s):openT k (sealT k s)=some s:=by
 have e:cutC 124 (sealT k s)= [Lib.itoa k,s,Lib.itoa (sumR (headT k s))]:=by
  conv=>lhs;unfold sealT headT
  rw[List.append_assoc,List.cons_append,cutC_free 124 _ _ (itoa_bar k),cutC_free 124 _ _ h,cutC_last 124 _ (itoa_bar _)]
  rfl
 unfold openT
 rw[e]
 simp
theorem open_some {k:Int} {t s:List UInt8} (h:openT k t=some s):t=sealT k s/\(124:UInt8)∉s:=by
 unfold openT at h
 split at h
 · rename_i a s' b hc
   split at h
   · cases h
     rename_i he
     exact⟨he.symm,cutC_mem 124 t s (by rw[hc];simp)⟩
   · cases h
 · cases h
theorem first_bar: ∀ {s s' X Y:List UInt8},(124:UInt8)∉s->(124:UInt8)∉s' ->s++124::X=s' ++124::Y->s=s'
 | [],[],_,_,_,_,_=>rfl
 | [], b::s',X,Y,_,h',e=>by
   injection e with e1 e2
   exact absurd (by rw[<-e1];simp) h'
 | b ::s,[],X,Y,h,_,e=>by
   injection e with e1 e2
   exact absurd (by rw[e1];simp) h
 | b ::s,b' ::s',X,Y,h,h',e=>by
   injection e with e1 e2
   rw[e1,first_bar (s:=s) (s' :=s') (fun m=>h (List.mem_cons_of_mem _ m)) (fun m=>h' (List.mem_cons_of_mem _ m)) e2]
theorem open_torn {k:Int} {s t u:List UInt8} (h:(124:UInt8)∉s) (e:t++u=sealT k s) (hu:u≠ []):openT k t=none:=by
 cases ho:openT k t with
 | none=>rfl
 | some s' =>
   obtain⟨h1,h2⟩:=open_some ho
   have e2:=e
   rw[h1] at e2
   have e3:Lib.itoa k++124::(s' ++124::(Lib.itoa (sumR (headT k s'))++u))=Lib.itoa k++124::(s++124::Lib.itoa (sumR (headT k s))):=by
    have q: ∀s X,headT k s++124::X=Lib.itoa k++124::(s++124::X):=fun s X=>by unfold headT;rw[List.append_assoc];rfl
    rw[<-q, <-q]
    unfold sealT at e2
    rw[List.append_assoc] at e2
    exact e2
   have e4:=(List.append_inj e3 rfl).2
   injection e4 with _ e5
   have:=first_bar h2 h e5
   subst this
   have e6:=congrArg List.length e2
   rw[List.length_append] at e6
   exact absurd (List.length_eq_zero_iff.1 (by omega)) hu
theorem open_empty (k:Int):openT k []=none:=rfl
inductive Ent where
 | tx (l:List OpP)
 | fo (n:Nat)
def entT:Ent->List UInt8
 | .tx l=>writeT l
 | .fo n=>102::32::Lib.itoa n
def stepE (st:List (List OpP)×Nat):Ent->Option (List (List OpP)×Nat)
 | .tx l=>if okL l=true/\st.1.length<150 then some (st.1++ [l],st.2) else none
 | .fo n=>if st.2<=n/\n<=st.1.length then some (st.1,n) else none
def playE (L:List Ent):Option (List (List OpP)×Nat):=L.foldlM stepE ([],0)
theorem playE_snoc (L:List Ent) (e:Ent):playE (L++ [e])=(playE L).bind fun st=>stepE st e:=by
 unfold playE
 rw[List.foldlM_append]
 show((List.foldlM stepE ([],0) L).bind fun st=> [e].foldlM stepE st)=_
 congr 1
 funext st
 rw[List.foldlM_cons]
 cases stepE st e<;>rfl
theorem playE_take {L:List Ent} {st:List (List OpP)×Nat} (h:playE L=some st) (i:Nat): ∃s,playE (L.take i)=some s:=by
 have e:L=L.take i++L.drop i:=(List.take_append_drop i L).symm
 rw[e] at h
 unfold playE at h ⊢
 rw[List.foldlM_append] at h
 cases hc:List.foldlM stepE (([],0):List (List OpP)×Nat) (L.take i) with
 | none=>rw[hc] at h;exact absurd h (fun h=>by cases h)
 | some s=>exact⟨s,rfl⟩
theorem playE_next {L:List Ent} {st s:List (List OpP)×Nat} (h:playE L=some st) {i:Nat} {e:Ent} (he:L[i]? =some e) (hs:playE (L.take i)=some s): ∃s',stepE s e=some s' /\playE (L.take (i+1))=some s' :=by
 obtain⟨s',h'⟩:=playE_take h (i+1)
 have e1:L.take (i+1)=L.take i++ [e]:=by rw[List.take_add_one,he];rfl
 refine⟨s',?_,h'⟩
 rw[e1,playE_snoc,hs] at h'
 exact h'
theorem stepE_len {s s' :List (List OpP)×Nat} {e:Ent} (h:stepE s e=some s') (hs:s.1.length<=150/\s.2<=s.1.length):s'.1.length<=150/\s'.2<=s'.1.length/\s'.1.length<=s.1.length+1:=by
 cases e with
 | tx l=>
   simp only[stepE] at h
   split at h
   · rename_i h1
     cases h
     simp only[List.length_append,List.length_singleton]
     omega
   · cases h
 | fo n=>
   simp only[stepE] at h
   split at h
   · rename_i h1
     cases h
     simp only
     omega
   · cases h
theorem playE_len: ∀ {L:List Ent} {st:List (List OpP)×Nat},playE L=some st->st.1.length<=L.length/\st.1.length<=150/\st.2<=st.1.length:=by
 intro L
 induction h:L.length generalizing L with
 | zero=>
   intro st hp
   obtain rfl:=List.length_eq_zero_iff.1 h
   cases hp
   exact⟨Nat.le_refl _,Nat.zero_le _,Nat.le_refl _⟩
 | succ n ih=>
   intro st hp
   rcases List.eq_nil_or_concat L with rfl|⟨M,e,rfl⟩
   · cases h
   · rw [List.concat_eq_append] at h hp
     rw[List.length_append,List.length_singleton] at h
     rw[playE_snoc] at hp
     cases hc:playE M with
     | none=>rw[hc] at hp;cases hp
     | some s=>
       rw[hc] at hp
       have h1:=ih (by omega) hc
       have h2:=stepE_len hp ⟨h1.2.1,h1.2.2⟩
       omega
theorem word_bar (s:ByteArray) (hs:wordB s=true):(124:UInt8)∉s.data.toList:=fun hm=>by
 unfold wordB at hs
 rw[Bool.and_eq_true] at hs
 have:=List.all_eq_true.1 hs.2 _ hm
 exact absurd this (by decide)
theorem dash_bar (s:ByteArray) (hs:s.size=0\/wordB s=true):(124:UInt8)∉dashL s:=by
 unfold dashL
 split
 · decide
 · rename_i h
   exact word_bar s (hs.resolve_left h)
theorem writeT_bar {l:List OpP} (h:l.all opB=true):(124:UInt8)∉writeT l:=fun hm=>by
 rcases mem_join _ _ _ hm with h1|⟨p,hp,h1⟩
 · exact absurd h1 (by decide)
 · obtain⟨o,ho,rfl⟩:=List.mem_map.1 hp
   have hb:=List.all_eq_true.1 h o ho
   rcases mem_join _ _ _ h1 with h2|⟨q,hq,h2⟩
   · exact absurd h2 (by decide)
   · have d1:=dash_bar _ (key_word (op_key hb))
     have d2:=dash_bar _ (op_value hb)
     unfold opWs at hq
     simp only[List.mem_cons,List.not_mem_nil,or_false] at hq
     rcases hq with rfl|rfl|rfl|rfl|rfl|rfl|rfl
     · exact itoa_bar _ h2
     · exact itoa_bar _ h2
     · exact d1 h2
     · exact itoa_bar _ h2
     · exact itoa_bar _ h2
     · exact itoa_bar _ h2
     · exact d2 h2
theorem entT_bar {s s' :List (List OpP)×Nat} {e:Ent} (h:stepE s e=some s'):(124:UInt8)∉entT e:=by
 cases e with
 | tx l=>
   simp only[stepE] at h
   split at h
   · rename_i h1;exact writeT_bar (okL_iff.1 h1.1).2
   · cases h
 | fo n=>
   intro hm
   rcases List.mem_cons.1 hm with h1|hm
   · exact absurd h1 (by decide)
   · rcases List.mem_cons.1 hm with h1|hm
     · exact absurd h1 (by decide)
     · exact itoa_bar _ hm
theorem writeT_first {l:List OpP} (h:okL l=true): ∃c r,writeT l=c::r/\c≠102:=by
 obtain⟨⟨h1,_⟩,h2⟩:=okL_iff.1 h
 cases l with
 | nil=>simp at h1
 | cons o l=>
   have hc:cutC 43 (writeT (o::l))=opT o::l.map opT:=writeT_cut h2 (by simp)
   have hd:cutC 32 (opT o)=opWs o:=opT_cut (List.all_eq_true.1 h2 o (by simp))
   have key: ∀(c:UInt8) (t:List UInt8) (p:List UInt8) (r:List (List UInt8)) (b:UInt8) (q:List UInt8),cutC c t=p::r->p=b::q-> ∃v,t=b::v:=fun c t p r b q e1 e2=>by
    cases t with
    | nil=>simp[cutC] at e1;rw[e2] at e1;cases e1.1
    | cons a t=>
      unfold cutC at e1
      split at e1
      · rw[e2] at e1;cases e1
      · split at e1
        · rw[e2] at e1;cases e1;exact⟨t,rfl⟩
        · rw[e2] at e1;cases e1;exact⟨t,rfl⟩
   have hi: ∃b q,Lib.itoa o.key.kind=b::q/\b≠102:=by
    cases hx:Lib.itoa o.key.kind with
    | nil =>
      exfalso
      unfold Lib.itoa at hx
      split at hx
      · cases hx
      · exact digits_ne _ hx
    | cons b q=>
      refine⟨b,q,rfl,fun e=> ?_⟩
      have:=mem_itoa o.key.kind b (by rw[hx];simp)
      subst e
      rcases this with h|h
      · exact absurd h (by decide)
      · exact absurd h.2 (by decide)
   obtain⟨b,q,hb,hne⟩:=hi
   obtain⟨v,hv⟩:=key 32 (opT o) _ _ b q (by rw[hd];rfl) hb
   obtain⟨u,hu⟩:=key 43 (writeT (o::l)) _ _ b v hc hv
   exact⟨b,u,hu,hne⟩
open Go.RowKit Go.Deep Go.Shelf Go.Sort Go.Maps
theorem sum_step (n:Nat) (hn:n<18446744073709551616) (c:UInt8):IntKind.u64.wrap (bits BinOp.xor IntKind.u64 (n:Int) (IntKind.u64.wrap (c.toNat:Int))*1099511628211)=((sumK n c:Nat):Int):=by
 have hc:c.toNat<256:=c.toNat_lt
 rw[IntKind.wrap_u64 (c.toNat:Int),show((c.toNat:Int) % 18446744073709551616)=(c.toNat:Int) by omega,bits_xor_u64_nat _ _ hn (by omega),IntKind.wrap_u64]
 unfold sumK
 rw[Int.natCast_emod,Int.natCast_mul]
 rfl
theorem take_byte (s:ByteArray) {k:Nat} (h:k<s.size):s.data.toList.take (k+1)=s.data.toList.take k++ [s[k]]:=by
 have h2:k<s.data.toList.length:=by rw[size_toList];exact h
 rw[List.take_add_one,List.getElem?_eq_getElem h2]
 rfl
set_option maxRecDepth 100000 in
set_option maxHeartbeats 2000000 in
theorem bsum_any (s:ByteArray) (w:World) (hs:s.size<=100000):Calls Tryz.prog 158 #[.string s] w fun e w' =>e= .returned (.int .i64 (sumR s.data.toList))/\w=w' :=by
 go_enter Tryz.func158,Tryz.ntmps158
 go_wp2_with fail
 go_loopw [3,7] (fun n i wr=> ∃k:Nat,k<=s.size/\i= .int .i64 k/\n= .int .u64 (sumN (s.data.toList.take k):Nat)/\w=wr) (fun _ i _=>s.size-(intOf i).toNat)
 case atStart=>exact⟨0,Nat.zero_le _,rfl,rfl,rfl⟩
 case round=>
  obtain⟨k,hk,rfl,rfl,rfl⟩:=hrel
  by_cases hlt:k<s.size
  · have i0:(0:Int)<=(k:Int):=by omega
    have i1:(k:Int)<(s.size:Int):=by omega
    go_wp2_with fail
    exact⟨⟨k+1,by omega,by go_num,by rw[sum_step _ (sumN_lt _),take_byte s hlt,sumN_snoc],trivial⟩,by simp[intOf];omega⟩
  · obtain rfl:k=s.size:=by omega
    have hz:s.data.toList.take s.size=s.data.toList:=List.take_of_length_le (by rw[size_toList];exact Nat.le_refl _)
    have hlt2:=sumN_lt s.data.toList
    rw[hz]
    clear hz
    have hw:wrap64 ((sumN s.data.toList:Int) / 8)=sumR s.data.toList:=by unfold sumR;unfold wrap64;omega
    go_wp2_with fail
    go_ret
    exact⟨by unfold sumR;rw[Int.natCast_ediv];rfl,rfl⟩
set_option maxRecDepth 100000 in
set_option maxHeartbeats 2000000 in
theorem bsealed_any (k:Int) (hk:0<=k/\k<1000) (s:ByteArray) (w:World) (hs:s.size<=90000) (ht:PowTab w):Calls Tryz.prog 109 #[.int .i64 k,.string s] w fun e w' =>e= .returned (.string ⟨(sealT k s.data.toList).toArray⟩)/\Below w.heap.size w w' :=by
 obtain⟨T,hT⟩: ∃T:ByteArray,T=(⟨(Lib.itoa k).toArray⟩:ByteArray)++⟨#[124]⟩++s:=⟨_,rfl⟩
 have hTl:T.data.toList=headT k s.data.toList:=by rw[hT];simp[headT]
 have hki:=Lib.itoa_length_le k (by omega) (by omega)
 have hTs:T.size<=100000:=by
  have:=congrArg List.length hTl
  simp only[headT,List.length_append,List.length_cons,size_toList] at this
  omega
 have hr:=sumR_rng T.data.toList
 have h1:=Lib.hid (itoa_any k (by unfold i64B;omega) w ht)
 have h2:=Lib.hid fun(X:World)=>bsum_any T X hTs
 have h3:=Lib.hid fun(X:World) (hX:Below w.heap.size w X)=>itoa_any (sumR T.data.toList) (by unfold i64B;omega) X (ht.below hX)
 have q1: ¬9223372036854775807<(Lib.itoa k).length+1:=by omega
 have q2: ¬9223372036854775807<(Lib.itoa k).length+1+s.size:=by omega
 have hji:=Lib.itoa_length_le (sumR T.data.toList) (by omega) (by omega)
 have q3: ¬9223372036854775807<T.size+1+(Lib.itoa (sumR T.data.toList)).length:=by omega
 have q4: ¬9223372036854775807<T.size+1:=by omega
 clear hji
 have HT:=Lib.hid hT
 have HTl:=Lib.hid hTl
 clear hT hTl hki hr ht
 go_enter Tryz.func109,Tryz.ntmps109
 go_wp2_with (first
  | (go_at_call 25;first|((with_reducible refine h1.out.mono ?_);rintro e w1 ⟨rfl,b1⟩;have HB:=Lib.hid b1;clear b1)|((with_reducible refine(h3.out _ HB.out).mono ?_);rintro e w2 ⟨rfl,b2⟩;have HB2:=Lib.hid (HB.out.trans (b2.mono HB.out.size));clear b2))
  | (rw[<-HT.out])
  | (go_at_call 158;(with_reducible refine(h2.out _).mono ?_);rintro e w3 ⟨rfl,rfl⟩))
 go_ret
 refine⟨congrArg (fun x=>Ending.returned (.string x)) (bytes_ext ?_),HB2.out⟩
 have: ∀X:ByteArray,(T++⟨#[124]⟩++X).data.toList=T.data.toList++124::X.data.toList:=fun X=>by simp
 rw[this,HTl.out]
 rfl
theorem get3 {ws:List ByteArray} {c:UInt8} {t:List UInt8} (h:ws.map (·.data.toList)=cutC c t) (h3:ws.length=3): ∃a b d,ws= [a,b,d]/\cutC c t= [a.data.toList,b.data.toList,d.data.toList]:=by
 match ws,h3 with
 | [a,b,d],_=>exact⟨a,b,d,rfl,by rw[<-h];rfl⟩
set_option maxRecDepth 100000 in
set_option maxHeartbeats 2000000 in
theorem bopened_any (k:Int) (hk:0<=k/\k<1000) (t:ByteArray) (w:World) (ht:t.size<=80000) (hp:PowTab w) (hv:NumVars w):Calls Tryz.prog 52 #[.int .i64 k,.string t] w fun e w' =>((∃s,openT k t.data.toList=some s/\e= .returned (.tuple #[.string ⟨s.toArray⟩,.bool true]))\/(openT k t.data.toList=none/\e= .returned (.tuple #[.string ⟨#[]⟩,.bool false])))/\Below w.heap.size w w' :=by
 have h1:=Lib.hid (split_any 124 t w (by omega) hv)
 have HP:=Lib.hid hp
 clear hp hv
 go_enter Tryz.func52,Tryz.ntmps52
 go_upto_region 2 with (go_at_call 13;(with_reducible refine h1.out.mono ?_);rintro e w1 ⟨ws,hws,rfl,hw1⟩;have HW1:=Lib.hid hw1;have HWS:=Lib.hid hws;clear hw1 hws)
 have hw1:=HW1.out
 have hws:=HWS.out
 clear HW1 HWS
 obtain⟨sb,hsb⟩: ∃sb,sb=w.heap.size:=⟨_,rfl⟩
 have hB1:Below w.heap.size w w1:=by rw[hw1];exact(Below.refl _ _).alloc (Nat.le_refl _) _
 have hno:ws.length≠3->openT k t.data.toList=none:=fun h=>by
  unfold openT
  split
  · rename_i a b d hc
    rw[hc] at hws
    have:=congrArg List.length hws
    rw[List.length_map] at this
    exact absurd this h
  · rfl
 rw[<-hsb]
 by_cases h3:ws.length=3
 · obtain⟨a,b,d,rfl,hc⟩:=get3 hws h3
   have c1:w1.cell? ⟨sb,1,none⟩=some (.string b):=by rw[hw1,hsb];exact(block_cell (block_alloc_new w _) 1).trans rfl
   have hbl:sb<w1.heap.size:=by rw[hw1,hsb];simp
   have hbs:b.size<=80000:=by
    have:=cutC_le 124 t.data.toList b.data.toList (by rw[hc];simp)
    rw[size_toList,size_toList] at this
    omega
   have h2:=Lib.hid (bsealed_any k hk b w1 (by omega) (HP.out.below hB1))
   have HB:=Lib.hid hB1
   clear hno hws hw1 h3 hsb hB1
   simp only[List.length_cons,List.length_nil]
   by_cases hq:sealT k b.data.toList=t.data.toList
   · have hop:openT k t.data.toList=some b.data.toList:=by unfold openT;rw[hc];simp only;rw[if_pos hq]
     have hx:(!(sealT k b.data.toList==t.toList))=false:=by rw[ByteArray.toList_eq];simp[hq]
     have HO:=Lib.hid hop
     clear hop hc hq
     go_wp2_with (go_at_call 109;(with_reducible refine h2.out.mono ?_);rintro e w2 ⟨rfl,b2⟩;have HB2:=Lib.hid (HB.out.trans (b2.mono HB.out.size));have c2:=below_cell b2 hbl c1;have hbl2:=Nat.lt_of_lt_of_le hbl b2.size;clear b2)
     go_ret2
     exact⟨.inl ⟨_,HO.out,by simp⟩,HB2.out⟩
   · have hop:openT k t.data.toList=none:=by unfold openT;rw[hc];simp only;rw[if_neg hq]
     have hx:(!(sealT k b.data.toList==t.toList))=true:=by rw[ByteArray.toList_eq];simp[hq]
     have HO:=Lib.hid hop
     clear hop hc hq
     go_wp2_with (go_at_call 109;(with_reducible refine h2.out.mono ?_);rintro e w2 ⟨rfl,b2⟩;have HB2:=Lib.hid (HB.out.trans (b2.mono HB.out.size));have c2:=below_cell b2 hbl c1;have hbl2:=Nat.lt_of_lt_of_le hbl b2.size;clear b2)
     go_ret2
     exact⟨.inr ⟨HO.out,rfl⟩,HB2.out⟩
 · have hx:((ws.length:Int) !=3)=true:=by simp;omega
   have HO:=Lib.hid (hno h3)
   have HB:=Lib.hid hB1
   clear hno hws hw1 h3 hsb hB1
   go_wp2_with fail
   go_ret2
   exact⟨.inr ⟨HO.out,rfl⟩,HB.out⟩
theorem bopened_some (k:Int) (hk:0<=k/\k<1000) (t:ByteArray) (w:World) (ht:t.size<=80000) (hp:PowTab w) (hv:NumVars w) {s:List UInt8} (hs:openT k t.data.toList=some s):Calls Tryz.prog 52 #[.int .i64 k,.string t] w fun e w' =>e= .returned (.tuple #[.string ⟨s.toArray⟩,.bool true])/\Below w.heap.size w w' :=by
 refine(bopened_any k hk t w ht hp hv).mono ?_
 rintro e w' ⟨hx,hb⟩
 rcases hx with ⟨s',h1,h2⟩|⟨h1,_⟩
 · rw[hs] at h1;cases h1;exact⟨h2,hb⟩
 · rw[hs] at h1;cases h1
theorem bopened_none (k:Int) (hk:0<=k/\k<1000) (t:ByteArray) (w:World) (ht:t.size<=80000) (hp:PowTab w) (hv:NumVars w) (hs:openT k t.data.toList=none):Calls Tryz.prog 52 #[.int .i64 k,.string t] w fun e w' =>e= .returned (.tuple #[.string ⟨#[]⟩,.bool false])/\Below w.heap.size w w' :=by
 refine(bopened_any k hk t w ht hp hv).mono ?_
 rintro e w' ⟨hx,hb⟩
 rcases hx with ⟨s',h1,h2⟩|⟨_,h2⟩
 · rw[hs] at h1;cases h1
 · exact⟨h2,hb⟩
def dcells (D:List ByteArray) (cut:Bool) (left:Int):List Value:=D.map Value.string++ [Value.bool cut,Value.int .i64 left]
structure BD (w:World) (db:Nat) (D:List ByteArray) (cut:Bool) (left:Int):Prop where
 blk:w.heap[db]? =some (.cells (dcells D cut left).toArray 63 (0,0))
 len:D.length=150
section
variable {w w' :World} {db:Nat} {D:List ByteArray} {cut:Bool} {left:Int}
theorem BD.lt (h:BD w db D cut left):db<w.heap.size:=lt_of_block h.blk
theorem BD.frame {F:Nat->Prop} (h:BD w db D cut left) (hf:Fr F w w') (hn: ¬F db):BD w' db D cut left:=⟨hf.keeps h.blk hn,h.len⟩
theorem BD.below (h:BD w db D cut left) (hb:Below w.heap.size w w'):BD w' db D cut left:=h.frame (F:=fun _=>False) (Fr.new hb) (fun e=>e)
theorem BD.place (h:BD w db D cut left) {k:Nat} {s:ByteArray} (hk:D[k]? =some s):w.cell? ⟨db,k,none⟩=some (.string s):=by
 rw[block_cell h.blk k]
 have hlt:k<D.length:=(List.getElem?_eq_some_iff.1 hk).1
 have hg:D[k]=s:=(List.getElem?_eq_some_iff.1 hk).2
 simp[dcells,List.getElem?_append,hlt,hg]
theorem BD.cutc (h:BD w db D cut left):w.cell? ⟨db,150,none⟩=some (.bool cut):=by
 rw[block_cell h.blk 150]
 simp[dcells,h.len]
theorem BD.leftc (h:BD w db D cut left):w.cell? ⟨db,151,none⟩=some (.int .i64 left):=by
 rw[block_cell h.blk 151]
 simp[dcells,h.len]
theorem BD.free (h:BD w db D cut left) (i:Nat):w.frozen? ⟨db,i,none⟩=false:=block_free h.blk i
theorem BD.put (h:BD w db D cut left) {k:Nat} (hk:k<150) (s:ByteArray):BD (w.setCell ⟨db,k,none⟩ (.string s)) db (D.set k s) cut left:=by
 have hl:=h.len
 refine⟨?_,by rw[List.length_set];exact hl⟩
 rw[block_set h.blk k (.string s)]
 congr 2
 unfold dcells
 rw[List.setIfInBounds_toArray,List.set_append,if_pos (by rw[List.length_map];omega),List.map_set]
theorem BD.setCut (h:BD w db D cut left) (c:Bool):BD (w.setCell ⟨db,150,none⟩ (.bool c)) db D c left:=by
 have hl:=h.len
 refine⟨?_,hl⟩
 rw[block_set h.blk 150 (.bool c)]
 congr 2
 unfold dcells
 rw[List.setIfInBounds_toArray,List.set_append,if_neg (by rw[List.length_map];omega),List.length_map,hl]
 rfl
theorem BD.setLeft (h:BD w db D cut left) (n:Int):BD (w.setCell ⟨db,151,none⟩ (.int .i64 n)) db D cut n:=by
 have hl:=h.len
 refine⟨?_,hl⟩
 rw[block_set h.blk 151 (.int .i64 n)]
 congr 2
 unfold dcells
 rw[List.setIfInBounds_toArray,List.set_append,if_neg (by rw[List.length_map];omega),List.length_map,hl]
 rfl
end
theorem extract_take (s:ByteArray) (m:Nat):(s.extract 0 m).data.toList=s.data.toList.take m:=by
 rw[ByteArray.data_extract,Array.toList_extract]
 simp[List.extract]
set_option maxRecDepth 100000 in
set_option maxHeartbeats 2000000 in
theorem bcut_any (n:Int) (_hn:i64 n) (w:World) {db:Nat} {D:List ByteArray} {cut:Bool} {left:Int} (h:BD w db D cut left):
  Calls Tryz.prog 126 #[.pointer (some ⟨db,0,none⟩),.int .i64 n] w fun e w' =>e= .returned (.tuple #[])/\BD w' db D (decide (0<=n)) (imax n 0)/\Fr (· =db) w w' :=by
 have c0:=h.cutc
 have f0:=h.free 150
 have c1:=h.leftc
 have f1:=h.free 151
 have hl:=h.lt
 have H:=Lib.hid h
 clear h
 go_enter Tryz.func126,Tryz.ntmps126
 go_wp2_with fail
 refine bodyPost_end (results_none rfl _ _ _) rfl ?_
 exact⟨rfl,(H.out.setCut _).setLeft _,Fr.setCell (F:=(· =db)) (p:=⟨db,151,none⟩) (Fr.setCell (F:=(· =db)) (p:=⟨db,150,none⟩) (Fr.refl _ w) (fun _=>rfl) _) (fun _=>rfl) _⟩
set_option maxRecDepth 100000 in
set_option maxHeartbeats 2000000 in
theorem bwrite_ok (k:Nat) (hk:k<150) (s:ByteArray) (torn:Int) (w:World) {db:Nat} {D:List ByteArray} {cut:Bool} {left:Int} (h:BD w db D cut left) (ho:cut=true->0<left/\left<=9223372036854775807):
  Calls Tryz.prog 243 #[.pointer (some ⟨db,0,none⟩),.int .i64 k,.string s,.int .i64 torn] w fun e w' =>e= .returned .nilIface/\(∃l2,BD w' db (D.set k s) cut l2/\(cut=true->l2=left-1))/\Fr (· =db) w w' :=by
 have c0:=h.cutc
 have f0:=h.free 150
 have c1:=h.leftc
 have f1:=h.free 151
 have hl:=h.lt
 obtain⟨x,hx⟩: ∃x,D[k]? =some x:=⟨_,List.getElem?_eq_getElem (by rw[h.len];exact hk)⟩
 have c2:=h.place hx
 have f2:=h.free k
 have H:=Lib.hid h
 have i0:(0:Int)<=(k:Int):=by omega
 have i1:(k:Int)<150:=by omega
 clear h hx
 cases hc:cut with
 | false=>
   subst hc
   clear ho
   go_enter Tryz.func243,Tryz.ntmps243
   go_wp2_with fail
   go_ret
   exact⟨rfl,⟨_,(H.out.setLeft _).put hk s,fun h=>by cases h⟩,Fr.setCell (F:=(· =db)) (p:=⟨db,k,none⟩) (Fr.setCell (F:=(· =db)) (p:=⟨db,151,none⟩) (Fr.refl _ w) (fun _=>rfl) _) (fun _=>rfl) _⟩
 | true=>
   obtain⟨l0,l1⟩:=ho hc
   subst hc
   have hne:(left==0)=false:=by simp;omega
   have hw:wrap64 (left-1)=left-1:=by unfold wrap64;omega
   clear ho
   go_enter Tryz.func243,Tryz.ntmps243
   go_wp2_with fail
   go_ret
   exact⟨rfl,⟨_,(H.out.setLeft _).put hk s,fun _=>rfl⟩,Fr.setCell (F:=(· =db)) (p:=⟨db,k,none⟩) (Fr.setCell (F:=(· =db)) (p:=⟨db,151,none⟩) (Fr.refl _ w) (fun _=>rfl) _) (fun _=>rfl) _⟩
set_option maxRecDepth 100000 in
set_option maxHeartbeats 2000000 in
theorem bwrite_off (k:Nat) (hk:k<150) (s:ByteArray) (torn:Int) (w:World) {db:Nat} {D:List ByteArray} (h:BD w db D true 0) (hs:1<=s.size/\s.size<=100000) (ht:i64 torn):
  Calls Tryz.prog 243 #[.pointer (some ⟨db,0,none⟩),.int .i64 k,.string s,.int .i64 torn] w fun e w' =>e= .returned (errV 14)/\(BD w' db D true 0\/ ∃t u:List UInt8,BD w' db (D.set k ⟨t.toArray⟩) true 0/\t++u=s.data.toList/\u≠ [])/\Fr (· =db) w w' :=by
 have c0:=h.cutc
 have f0:=h.free 150
 have c1:=h.leftc
 have f1:=h.free 151
 have hl:=h.lt
 obtain⟨x,hx⟩: ∃x,D[k]? =some x:=⟨_,List.getElem?_eq_getElem (by rw[h.len];exact hk)⟩
 have c2:=h.place hx
 have f2:=h.free k
 have H:=Lib.hid h
 have i0:(0:Int)<=(k:Int):=by omega
 have i1:(k:Int)<150:=by omega
 clear h hx
 unfold errV
 unfold i64 at ht
 by_cases h0:0<=torn
 · obtain⟨m,hm⟩: ∃m:Nat,imin torn ((s.size:Int)-1)=m:=⟨(imin torn ((s.size:Int)-1)).toNat,by unfold imin;omega⟩
   have hm1:m+1<=s.size:=by unfold imin at hm;omega
   have m0:(0:Int)<=(m:Int):=by omega
   have m1:(m:Int)<=(s.size:Int):=by omega
   have z0:torn>=0:=h0
   have hsw:IntKind.i64.wrap ((s.size:Int)-1)=(s.size:Int)-1:=by rw[IntKind.wrap_i64];omega
   go_enter Tryz.func243,Tryz.ntmps243
   go_wp2_with fail
   go_region_law (fail)
   all_goals
    go_wp2_with fail
    go_ret
    have e:(⟨(s.data.toList.take m).toArray⟩:ByteArray)=s.extract 0 m:=bytes_ext (by rw[extract_take])
    have hb:BD (w.setCell ⟨db,k,none⟩ (.string (s.extract 0 m))).drew db (D.set k ⟨(s.data.toList.take m).toArray⟩) true 0:=by rw[e];exact(H.out.put hk (s.extract 0 m)).below (Below.refl _ _).drew
    refine⟨rfl,.inr ⟨s.data.toList.take m,s.data.toList.drop m,hb,List.take_append_drop _ _,fun h=> ?_⟩,(Fr.setCell (F:=(· =db)) (p:=⟨db,k,none⟩) (Fr.refl _ w) (fun _=>rfl) _).drew⟩
    have h2:=congrArg List.length h
    rw[List.length_drop,size_toList] at h2
    simp at h2
    omega
 · have z0:torn<0:=by omega
   go_enter Tryz.func243,Tryz.ntmps243
   go_wp2_with fail
   go_ret
   exact⟨rfl,.inl H.out,Fr.refl _ _⟩
end Go.Proofs.YtpgkjnebklknjaaGreatDoor
