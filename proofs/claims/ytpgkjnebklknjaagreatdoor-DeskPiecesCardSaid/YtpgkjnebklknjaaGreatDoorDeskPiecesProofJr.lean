/-DeskPieces is proved:whatever two texts come in,the call returns true,and each argument reads afterwards as it read before;the package-level variables that the row lists are tied to the program's text by the card. There are no other conditions. -/
import Derived.Carry
import Derived.SevenTiedAt
import Derived.ChangeSame
import Derived.ChangeVars
import Derived.ChangeMaps5
import Derived.JoinedOf
import Derived.HandedShaped
import Derived.Shelf.Vars
import Derived.RowKit
import Derived.RowKitTokens
import Derived.LaidLaws
import Derived.LaidHandle
import Derived.LaidSub
import Derived.Lay
import Derived.Stop.Joined
import Derived.Test.YtpgkjnebklknjaaGreatDoorDkNJr
import Derived.Test.YtpgkjnebklknjaaGreatDoorDlSJr
import Derived.Test.YtpgkjnebklknjaaGreatDoorDlQJr
import Derived.Test.YtpgkjnebklknjaaGreatDoorSplKJr
import Derived.Test.YtpgkjnebklknjaaGreatDoorFcLJr
import Derived.Test.YtpgkjnebklknjaaGreatDoorDpJJr
import Derived.Test.YtpgkjnebklknjaaGreatDoorDpLJr
import Derived.Test.YtpgkjnebklknjaaGreatDoorTie
import Derived.Test.YtpgkjnebklknjaaGreatDoorCards
namespace Go.Proofs.YtpgkjnebklknjaaGreatDoor
open Go.RowKit Go.Deep Go.Shelf Go.Sort Go.Maps
theorem cutC_app (c:UInt8): ∀a b:List UInt8,cutC c (a++c::b)=cutC c a++cutC c b
 | [], b=>by
   rw[List.nil_append]
   conv=>lhs;rw[cutC,if_pos rfl]
   rfl
 | x ::a,b=>by
   have ih:=cutC_app c a b
   by_cases h:x=c
   · subst h
     rw[List.cons_append,cutC,if_pos rfl,ih,cutC,if_pos rfl]
     rfl
   · rw [List.cons_append,cutC,if_neg h,ih]
     conv=>rhs;rw[cutC,if_neg h]
     cases hc:cutC c a with
     | nil=>exact absurd hc (cutC_ne c a)
     | cons p r=>rfl
theorem linesD_app: ∀(l m:List (List UInt8)) (s:Dsk),(linesD s (l++m)).2=(linesD s l).2++(linesD (linesD s l).1 m).2
 | [],_,_=>rfl
 | t ::l,m,s=>by
   rw[List.cons_append,linesD,linesD,linesD_app l m]
   simp
theorem trimN_end (a:List UInt8):trimN (a++ [10])=a:=by
 unfold trimN
 rw[List.getLast?_concat,if_pos rfl,List.dropLast_concat]
theorem trimN_mid (a b:List UInt8) (hb:b≠ []):trimN (a++10::b)=a++10::trimN b:=by
 obtain⟨c,x,rfl⟩: ∃c x,b=c++ [x]:=⟨b.dropLast,b.getLast hb,(List.dropLast_concat_getLast hb).symm⟩
 have e:a++10::(c++ [x])=(a++10::c)++ [x]:=by simp
 unfold trimN
 rw[e,List.getLast?_concat,List.getLast?_concat,List.dropLast_concat,List.dropLast_concat]
 split
 · rfl
 · rw[e]
theorem sess_pieces (a b:List UInt8) (h:a.length+b.length<=2000): ∃r,sessD (a++ [10]++b)=sessD (a++ [10])++r:=by
 unfold sessD
 rw[if_neg (by simp;omega),if_neg (by simp;omega),trimN_end,List.append_assoc,List.singleton_append]
 rcases List.eq_nil_or_concat b with rfl|⟨c,x,rfl⟩
 · refine⟨[],?_⟩
   rw[List.append_nil,trimN_end]
 · rw [trimN_mid _ _ (by simp),cutC_app,linesD_app]
   exact⟨_,rfl⟩
theorem numB_itoa (n:Int) (h:i64 n):numB ⟨(Lib.itoa n).toArray⟩=some n:=by
 unfold i64 at h
 unfold numB
 show(match Lib.atoiAll (Lib.itoa n) with| .ok m=>if Lib.itoa m=Lib.itoa n then some m else none|_=>none)=_
 rw[atoi_itoa n h.1 h.2]
 simp
theorem itoa_dig (n:Nat) (h:n<10):Lib.itoa (n:Int)= [UInt8.ofNat (48+n)]:=by
 unfold Lib.itoa
 rw[if_neg (by omega),Int.toNat_natCast,Lib.decDigits,dif_pos h]
theorem numB_dig (n:Nat) (h:n<10):numB ⟨#[UInt8.ofNat (48+n)]⟩=some (n:Int):=by
 have:=numB_itoa (n:Int) (by unfold i64;omega)
 rw[itoa_dig n h] at this
 exact this
def ex1:List UInt8:= [99,111,109,109,105,116,32,49,32,51,32,45,32,48,32,48,32,57,32,97]
def ex2:List UInt8:= [118,97,108,117,101,32,49,32,51,32,45,32,48,32,49,32,53]
def ex3:List UInt8:= [120]
def exO:OpP:=⟨⟨1,3,⟨#[]⟩,0⟩,0,9,⟨#[97]⟩⟩
theorem ex_lines:cutC 10 (trimN (ex1++10::(ex2++10::(ex3++ [10]))))= [ex1,ex2,ex3]:=by decide+kernel
theorem ex_read:readF [49,32,51,32,45,32,48,32,48,32,57,32,97]=some [exO]:=by
 have h:okL [exO]=true:=by decide+kernel
 have e:writeT [exO]= [49,32,51,32,45,32,48,32,48,32,57,32,97]:=by
  unfold writeT
  rw[List.map_cons,List.map_nil,join_one']
  unfold opT opWs exO
  simp only
  rw[show(0:Int)=((0:Nat):Int) from rfl,show(1:Int)=((1:Nat):Int) from rfl,show(3:Int)=((3:Nat):Int) from rfl,show(9:Int)=((9:Nat):Int) from rfl,itoa_dig 0 (by decide),itoa_dig 1 (by decide),itoa_dig 3 (by decide),itoa_dig 9 (by decide)]
  rfl
 rw[<-e]
 exact(readF_iff _ _).2 ((okT_iff _ _).2 ⟨(okL_iff.1 h).1,(okL_iff.1 h).2,rfl⟩)
theorem ex_one:lineD dsk0 ex1=(⟨[[exO]],0,1,false,false, -1,[],0,0⟩,[49]):=by
 have e:fieldsL ex1=⟨commitW.toArray⟩::([[49],[51],[45],[48],[48],[57],[97]].map fun p=>(⟨p.toArray⟩:ByteArray)):=by decide+kernel
 unfold lineD
 rw[e]
 simp only
 unfold nameD
 rw[if_pos rfl]
 unfold commitD
 rw[show Lib.join (([[49],[51],[45],[48],[48],[57],[97]].map fun p=>(⟨p.toArray⟩:ByteArray)).map (·.data.toList)) [32]= [49,32,51,32,45,32,48,32,48,32,57,32,97] by decide+kernel,ex_read]
 simp only
 have hg:goC false 0 false 0 (okL [exO])=true:=by decide+kernel
 have hd:dnC false 0 false 0 (okL [exO])=false:=by decide+kernel
 have hc:comBE false 0 false 0 [exO]=(0, -1):=by decide+kernel
 unfold comD dsk0
 simp only[hg,hd,hc,if_true]
 show((⟨[[exO]],0,1,false,false, -1,[],0,0⟩:Dsk),Lib.itoa ((1:Nat):Int))=_
 rw[itoa_dig 1 (by decide)]
 rfl
attribute [local go_sem] Oper.semAt_some
theorem linesD_snoc (l:List (List UInt8)) (x:List UInt8) (s:Dsk):linesD s (l++ [x])=((lineD (linesD s l).1 x).1,(linesD s l).2++(lineD (linesD s l).1 x).2++ [10]):=by
 induction l generalizing s with
 | nil=>simp[linesD]
 | cons t l ih=>
   rw[List.cons_append,linesD,ih,linesD]
   simp
theorem errT_4:errT 4++ [10]= [101,114,114,111,114,32,52,10]:=by
 unfold errT
 rw[show(4:Int)=((4:Nat):Int) from rfl,itoa_dig 4 (by decide)]
 rfl
theorem trim_eq (l:List UInt8):Lib.trimSuffix l [10]=trimN l:=by
 unfold Lib.trimSuffix Lib.hasSuffix trimN
 rcases List.eq_nil_or_concat l with rfl|⟨c,x,rfl⟩
 · rfl
 · rw [List.concat_eq_append,List.getLast?_concat,List.dropLast_concat]
   have e:List.isSuffixOf [10] (c++ [x])=decide (x=10):=by
    rw[Bool.eq_iff_iff,List.isSuffixOf_iff_suffix,decide_eq_true_eq]
    constructor
    · rintro⟨t,ht⟩
      have:=congrArg List.getLast? ht
      rw[List.getLast?_concat,List.getLast?_concat] at this
      injection this with this
      exact this.symm
    · rintro rfl
      exact⟨c,rfl⟩
   rw[e]
   by_cases hx:x=10
   · subst hx
     simp
   · simp[hx]
structure SsI (w:World) (N b c dk:Nat) (pre:List (List UInt8)) (W:World):Prop where
 st : ∃(G:DGh) (v:Value),DI w W dk (linesD dsk0 pre).1 G/\Bld b W b v (Lib.byteCells (linesD dsk0 pre).2)∧
  (∀k,G.all dk k->(k<b/\k≠c)\/N+2<=k)/\(∀k,v.ownBlock=some k->N+2<=k/\ ¬G.all dk k)
 ok: ∀l∈(linesD dsk0 pre).1.gh,okL l=true
 len:(linesD dsk0 pre).2.length<=pre.length*1000001
 box:W.heap[c]? =some (.cells #[.pointer (some ⟨dk,0,none⟩)] 25 (0,0))
 ord:w.heap.size<=c/\c<b/\b<N
 sz:N<=W.heap.size
section
variable {w W W' :World} {N b c dk:Nat} {pre:List (List UInt8)}
theorem SsI.frame (h:SsI w N b c dk pre W) {F:Nat->Prop} (hf:Fr F W W') (hF: ∀k,F k->(b<k/\k<N+2)):SsI w N b c dk pre W' :=by
 obtain⟨G,v,h1,h2,h3,h4⟩:=h.st
 obtain⟨o1,o2,o3⟩:=h.ord
 refine⟨⟨G,v,h1.frame hf (fun k hk=> ?_) (fun k hk e=> ?_),h2.frame hf (fun e=> ?_) (fun k hk e=> ?_),h3,h4⟩,h.ok,h.len,hf.keeps h.box (fun e=> ?_),h.ord,Nat.le_trans h.sz hf.size⟩
 · have:=(hF k hk).1;omega
 · have:=hF k e
   rcases h3 k hk with h|h<;>omega
 · have:=(hF b e).1;omega
 · have:=(hF k e).2;have:=(h4 k hk).1;omega
 · have:=(hF c e).1;omega
theorem SsI.below (h:SsI w N b c dk pre W) (hb:Below W.heap.size W W'):SsI w N b c dk pre W' :=h.frame (F:=fun _=>False) (Fr.new hb) (fun _ e=>e.elim)
theorem fr_putObj {F:Nat->Prop} (W:World) {l:Nat} (o:Obj) (hl:F l):Fr F W (W.putObj l o):=
 ⟨rfl,rfl,rfl,by simp[World.putObj],fun k _ hn=>World.putObj_heap_other (fun e=>hn (e▸hl))⟩
theorem SsI.line (h:SsI w N b c dk pre W) (hs:N+2<=W.heap.size) {x:List UInt8} (hx:x.length<=100000) {G:DGh} {v:Value} {V Z:World} (hd:DI w W dk (linesD dsk0 pre).1 G) (hb:Bld b W b v (Lib.byteCells (linesD dsk0 pre).2)) (ha: ∀k,G.all dk k->(k<b/\k≠c)\/N+2<=k) (hv: ∀k,v.ownBlock=some k->N+2<=k/\ ¬G.all dk k)
  (hl: ∃G',DI w V dk (lineD (linesD dsk0 pre).1 x).1 G' /\Fr (G.foot dk) W V/\ ∀k,G'.all dk k->G.all dk k\/W.heap.size<=k) (hZ:BldPost b V b v (Lib.byteCells (linesD dsk0 pre).2++Lib.strCells (⟨(lineD (linesD dsk0 pre).1 x).2.toArray⟩++⟨#[10]⟩)) Z):
  SsI w N b c dk (pre++ [x]) Z/\ ∀k,b<k->k<N+2->Z.heap[k]? =W.heap[k]? :=by
 obtain⟨G',l1,l2,l3⟩:=hl
 obtain⟨⟨v',z1,z2⟩,z3⟩:=hZ
 obtain⟨o1,o2,o3⟩:=h.ord
 have hfoot: ∀k,b<=k->k<N+2-> ¬G.foot dk k:=fun k h1 h2 e=>by
  rcases ha k (.inl e) with q|q<;>omega
 have hG' : ∀k,G'.all dk k->(k<b/\k≠c)\/N+2<=k:=fun k hk=>by
  rcases l3 k hk with e|e
  · exact ha k e
  · exact .inr (by omega)
 have hvV: ∀k,v.ownBlock=some k-> ¬G'.all dk k:=fun k hk e=>by
  rcases l3 k e with q|q
  · exact(hv k hk).2 q
  · have:=(hb.rlt k hk).2;omega
 have hsV:=l2.size
 have hdi:DI w Z dk (linesD dsk0 (pre++ [x])).1 G' :=by
  rw[linesD_snoc]
  refine l1.frame z3 (fun k hk=> ?_) (fun k hk e=> ?_)
  · rcases hk with e|e
    · omega
    · have:=(hb.rlt k e).1;omega
  · rcases e with e|e
    · rcases hG' k hk with q|q<;>omega
    · exact hvV k e hk
 have hbl:Bld b Z b v' (Lib.byteCells (linesD dsk0 (pre++ [x])).2):=by
  rw[linesD_snoc]
  rw[byteCells_app] at z1
  simpa using z1
 have hbox:Z.heap[c]? =some (.cells #[.pointer (some ⟨dk,0,none⟩)] 25 (0,0)):=by
  refine z3.keeps (l2.keeps h.box (fun e=> ?_)) (fun e=> ?_)
  · rcases ha c (.inl e) with q|q<;>omega
  · rcases e with e|e
    · omega
    · have:=(hv c e).1;omega
 have hok: ∀l∈(linesD dsk0 (pre++ [x])).1.gh,okL l=true:=by
  rw[linesD_snoc]
  intro l hl
  obtain⟨_,_,_,_,hok,_⟩:=hd.base.past
  rcases line_gh (linesD dsk0 pre).1 x with e|e|e
  · exact h.ok l (by rw[<-e];exact hl)
  · exact hok l (by rw[<-e];exact hl)
  · simp only[] at hl
    rw[e] at hl
    cases hl
 have hlen:(linesD dsk0 (pre++ [x])).2.length<=(pre++ [x]).length*1000001:=by
  rw[linesD_snoc]
  have h1:=line_len hd h.ok x hx
  have h2:=h.len
  simp only[List.length_append,List.length_cons,List.length_nil]
  omega
 refine⟨⟨⟨G',v',hdi,hbl,hG',fun k hk=> ?_⟩,hok,hlen,hbox,h.ord,Nat.le_trans h.sz (Nat.le_trans l2.size z3.size)⟩,fun k h1 h2=> ?_⟩
 · refine⟨?_,?_⟩
   · rcases z2 k hk with e|e
     · exact(hv k e).1
     · have:=h.sz;omega
   · rcases z2 k hk with e|e
     · exact hvV k e
     · intro q
       have:=l1.alt k q
       omega
 · have hkW:k<W.heap.size:=by omega
   rw[z3.block k (by omega) (fun e=> ?_),l2.block k hkW (hfoot k (by omega) h2)]
   rcases e with e|e
   · omega
   · have:=(hv k e).1;omega
theorem SsI.start {Y V:World} {G:DGh} (hd:DI w Y dk dsk0 G) (hall: ∀k,G.all dk k->k=dk\/dk+2<=k) (hdk:w.heap.size<=dk) (hbox:Y.heap[dk+1]? =some (.cells #[.pointer (some ⟨dk,0,none⟩)] 25 (0,0))) (hb:b=Y.heap.size) (hY:Below Y.heap.size Y V) (hbl:Bld b V b (.slice none 0 0) []):
  SsI w V.heap.size b (dk+1) dk [] V:=by
 have h1:=lt_of_block hbox
 have h2:=hbl.lt
 refine⟨⟨G,.slice none 0 0,hd.below hY,hbl,fun k hk=> ?_,fun k hk=>by cases hk⟩,(fun l hl=>by cases hl),Nat.zero_le _,(hY.block _ h1).trans hbox,⟨by omega,by omega,h2⟩,Nat.le_refl _⟩
 have h3:=hd.alt k hk
 rcases hall k hk with e|e
 · exact .inl ⟨by omega,by omega⟩
 · exact .inl ⟨by omega,by omega⟩
theorem bstring_kept {l:List UInt8} {v:Value} (h:Bld b W b v (Lib.byteCells l)) (h0:l≠ []):
  Calls Tryz.prog 12 #[.pointer (some ⟨b,0,none⟩)] W fun e W' =>e= .returned (.string ⟨l.toArray⟩)/\Below b W W' /\ ∀D,W.heap[D]? =some (.deferred (some []))->b<D->W'.heap[D]? =some (.deferred (some [])):=by
 refine(Tryz.Builder_String_k b b l W (Lib.IsBuilderF.of h.isB) h0).mono ?_
 rintro e W' ⟨rfl,_,h1,h2⟩
 exact⟨rfl,h1,fun D hD hb=>h2 D _ hD (fun e=>by cases e;omega) (fun c fz e=>by cases e)⟩
theorem linesD_ne {l:List (List UInt8)} (h:l≠ []) (s:Dsk):(linesD s l).2≠ []:=by
 cases l with
 | nil=>exact absurd rfl h
 | cons t l=>simp[linesD]
set_option maxRecDepth 100000 in
set_option maxHeartbeats 4000000 in
theorem dsession_big (t:ByteArray) (w:World) (ht:20000<t.size):
  Calls Tryz.prog 5 #[.string t] w fun e w' =>e= .returned (.string ⟨(sessD t.data.toList).toArray⟩)/\Below w.heap.size w w' :=by
 have hs:sessD t.data.toList= [101,114,114,111,114,32,52,10]:=by
  unfold sessD
  rw[if_pos (by rw[size_toList];exact ht)]
  exact errT_4
 rw[hs]
 have hg1:(20000:Int)<(t.size:Int):=by omega
 go_enter Tryz.func5,Tryz.ntmps5
 go_wp2
 go_ret
 exact⟨rfl,Below.refl _ _⟩
set_option maxRecDepth 100000 in
set_option maxHeartbeats 4000000 in
theorem dsession_any (t:ByteArray) (w:World) (hg:ErrVar w) (hp:PowTab w) (hv:NumVars w):
  Calls Tryz.prog 5 #[.string t] w fun e w' =>e= .returned (.string ⟨(sessD t.data.toList).toArray⟩)/\Below w.heap.size w w' :=by
 by_cases ht:20000<t.size
 · exact dsession_big t w ht
 have hg1: ¬(20000:Int)<(t.size:Int):=by omega
 obtain⟨dk,hdk⟩: ∃dk,dk=w.heap.size:=⟨_,rfl⟩
 obtain⟨W0,hW0⟩: ∃W0,W0=(w.alloc (.cells #[.pointer none,.pointer none,.pointer none] 30)).alloc (.cells #[.pointer (some ⟨dk,0,none⟩)] 25):=⟨_,rfl⟩
 have sz0:W0.heap.size=dk+2:=by rw[hW0,hdk];simp
 have hB0:Below w.heap.size w W0:=by rw[hW0];exact((Below.refl _ w).alloc (Nat.le_refl _) _).alloc (by simp) _
 have hdb:W0.heap[dk]? =some (.cells #[.pointer none,.pointer none,.pointer none] 30 (0,0)):=by rw[hW0,hdk];exact block_alloc (block_alloc_new _ _) _
 have hcb:W0.heap[dk+1]? =some (.cells #[.pointer (some ⟨dk,0,none⟩)] 25 (0,0)):=by rw[hW0];exact new_blk _ _ _ _ (by simp[hdk])
 have hZ:DZ w W0 dk:=⟨⟨_,_,_,hdb⟩,by omega,hB0,hg,hp,hv⟩
 have HFR:=Lib.hid (dfresh_z none 0 [] hZ)
 have c1:W0.cell? ⟨dk+1,0,none⟩=some (.pointer (some ⟨dk,0,none⟩)):=block_cell hcb 0
 have HW0:=Lib.hid hW0
 have HDK:=Lib.hid hdk
 have HB0:=Lib.hid hB0
 have HCB:=Lib.hid hcb
 have HTS:Hid (∀V:World,Calls Tryz.prog 9 #[.string t,.string ⟨#[10]⟩] V fun e w' =>e= .returned (.string ⟨(trimN t.data.toList).toArray⟩)/\w' =V):=Lib.hid fun(V:World)=>by
  have:=Tryz.strings_TrimSuffix t ⟨#[10]⟩ V (by omega)
  rw[show(⟨#[10]⟩:ByteArray).data.toList= [10] from rfl,trim_eq] at this
  exact this
 have HSP:=Lib.hid fun(V:World) (s:ByteArray)=>splitSeq_any s 10 V
 have HZ0:=Lib.hid sz0
 clear hW0 hdk hB0 hdb hcb hZ sz0
 refine(callsIn_wide (n:=6)).1 ?_
 refine callsIn_of_wp_marks Tryz.func5 rfl trivial ?_ rfl
 simp only[Tryz.ntmps5,List.size_toArray,List.length_cons,List.length_nil,Nat.reduceAdd,Nat.reduceSub,Array.replicate_succ,Array.replicate_zero,List.push_toArray,List.append_toArray,List.nil_append,List.cons_append]
 gi_wp2_with fail
 rw[<-HDK.out]
 rw[<-HW0.out]
 refine⟨trivial,?_⟩
 refine(callsIn_wide.2 HFR.out).mono ?_
 rintro e Y hN
 obtain⟨rfl,G,hd,hf,hall⟩:=hN.ok rfl
 have hbx:Y.heap[dk+1]? =some (.cells #[.pointer (some ⟨dk,0,none⟩)] 25 (0,0)):=hf.keeps HCB.out (by omega)
 have HD:=Lib.hid hd
 have HA:=Lib.hid hall
 have HBX:=Lib.hid hbx
 clear hd hf hall hbx hN HFR HCB
 gi_wp2_with fail
 obtain⟨b,hb⟩: ∃b,b=Y.heap.size:=⟨_,rfl⟩
 obtain⟨V0,hV0⟩: ∃V,V=Y.alloc (.cells #[.pointer none,.slice none 0 0] 35):=⟨_,rfl⟩
 rw[<-hb, <-hV0]
 have HB:=Lib.hid hb
 have HV0:=Lib.hid hV0
 clear hb hV0
 refine⟨trivial,?_⟩
 refine(callsIn_wide.2 (HTS.out V0)).mono ?_
 rintro e W1 ⟨rfl,hW⟩
 rw[hW]
 clear hW
 gi_wp2_with fail
 refine⟨trivial,?_⟩
 refine(callsIn_wide.2 (HSP.out V0 _)).mono ?_
 rintro e W1 ⟨rfl,hW⟩
 have hb:=HB.out
 have hV0:=HV0.out
 have s0:V0.heap.size=b+1:=by rw[hV0,hb];simp
 rw[hW,s0]
 clear hW
 obtain⟨sl,hsl⟩: ∃sl,sl=trimN t.data.toList:=⟨_,rfl⟩
 rw[<-hsl]
 obtain⟨V1,hV1⟩: ∃V,V=((V0.alloc (.cells #[.string ⟨sl.toArray⟩] 9)).alloc (.cells #[.string ⟨#[10]⟩] 9)).alloc (.cells #[.int .i64 0] 3):=⟨_,rfl⟩
 rw[<-hV1]
 have s1:V1.heap.size=b+4:=by rw[hV1];simp[s0]
 have hsll:sl.length<=20000:=by
  have :(trimN t.data.toList).length<=t.data.toList.length:=by
   unfold trimN
   split
   · simp
   · exact Nat.le_refl _
  rw[size_toList] at this
  rw[hsl];omega
 have hbl:Bld b V1 b (.slice none 0 0) []:=by
  have h0:Bld b V0 b (.slice none 0 0) []:=by rw[hV0,hb];exact Bld.new Y
  rw[hV1]
  exact h0.below ((((Below.refl _ V0).alloc (Nat.le_refl _) _).alloc (by simp) _).alloc (by simp;omega) _)
 have hB1:Below Y.heap.size Y V1:=by
  rw[hV1,hV0]
  exact((((Below.refl _ Y).alloc (Nat.le_refl _) _).alloc (by simp) _).alloc (by simp;omega) _).alloc (by simp;omega) _
 have hI0:SsI w (b+4) b (dk+1) dk [] V1:=by
  rw[<-s1]
  exact SsI.start HD.out (fun k hk=>(HA.out k hk).imp id fun e=>by have:=HZ0.out;omega) (by have:=HDK.out;omega) HBX.out hb hB1 hbl
 have hit:ItBox (b+1) 10 sl V1:=by
  have bx3:Boxed V1 (b+1) 9 (.string ⟨sl.toArray⟩):=by
   have h:=Boxed.new V0 9 (.string ⟨sl.toArray⟩)
   rw[s0] at h
   rw[hV1];exact(h.alloc _).alloc _
  have bx4:Boxed V1 (b+2) 9 (.string ⟨#[10]⟩):=by
   have h:=Boxed.new (V0.alloc (.cells #[.string ⟨sl.toArray⟩] 9)) 9 (.string ⟨#[10]⟩)
   rw[World.size_alloc,s0] at h
   rw[hV1];exact h.alloc _
  have bx5:Boxed V1 (b+3) 3 (.int .i64 0):=by
   have h:=Boxed.new ((V0.alloc (.cells #[.string ⟨sl.toArray⟩] 9)).alloc (.cells #[.string ⟨#[10]⟩] 9)) 3 (.int .i64 0)
   rw[World.size_alloc,World.size_alloc,s0] at h
   rw[hV1];exact h
  exact⟨bx3.cell,bx3.frozen,bx4.cell,bx5.cell⟩
 have HI0:=Lib.hid hI0
 have Hit:=Lib.hid hit
 have HSL:=Lib.hid hsl
 have hcl:=Lib.hid (cutC_len 10 sl)
 have hcn:=Lib.hid (cutC_cnt 10 sl)
 clear hV1 hV0 hI0 hit hB1 hbl s0 hb hsl HTS HSP HBX HA HD
 gi_wp2_with fail
 refine wp_splitRangeK rfl (by decide) (gf:=58) (b:=b+1) (c:=10) (s:=sl) rfl trivial (enters_of Tryz.func58 (by kernel_rfl) rfl) (splitIt_any _ (b+1) 10 sl (by unfold maxLen;omega)) (by omega) Hit.out
  (fun pre W=>SsI w (b+4) b (dk+1) dk pre W)
  (fun pre W v h=>h.frame (F:=(· =b+1)) (Fr.setCell (F:=(· =b+1)) (p:=⟨b+1,0,none⟩) (Fr.refl _ _) (fun _=>rfl) _) (fun k hk=>by omega)) (fun pre W W' h hb=>h.below hb) (fun pre W o' h=>by rw[s1];exact h.frame (F:=(· =b+4+1)) (fr_putObj W o' rfl) (fun k hk=>by omega))
  HI0.out (fun x=>{ tmps:= #[.string t,undef,.string ⟨#[]⟩,.pointer (some ⟨dk+1,0,none⟩),.pointer (some ⟨b,0,none⟩),.string ⟨x.toArray⟩,.string t,.int .i64 t.size,.bool false,.agg #[.pointer none,.pointer none,.pointer none],.pointer (some ⟨dk,0,none⟩),.pointer (some ⟨dk,0,none⟩),.string ⟨#[110,101,119]⟩,.string t,.string ⟨sl.toArray⟩,.func (.func 58) #[] #[.pointer (some ⟨b+1+1,0,none⟩),.pointer (some ⟨b+1,0,none⟩),.pointer (some ⟨b+1+2,0,none⟩)],.string ⟨x.toArray⟩,undef,undef,undef,undef,undef,undef],defers:= [] }) ?assign ?body ?done
 case assign=>
  intro l x W K hK
  gi_wp2
  exact hK
 case body=>
  intro l pre x q W hI hs2 hq
  rw[s1] at hs2 ⊢
  have hm:x∈cutC 10 sl:=by rw[<-hq];simp
  have hxl:x.length<=20000:=Nat.le_trans (hcl.out x hm) hsll
  have hpl:pre.length<=20001:=by
   have:=congrArg List.length hq
   rw[List.length_append,List.length_cons] at this
   have:=hcn.out
   omega
  obtain⟨G',v,hd',hbl,ha,hv⟩:=hI.st
  have c1:W.cell? ⟨dk+1,0,none⟩=some (.pointer (some ⟨dk,0,none⟩)):=block_cell hI.box 0
  have HDL:=Lib.hid (dline_any ⟨x.toArray⟩ hd' (by simpa [ByteArray.size] using (by omega:x.length<=50000)))
  have HI:=Lib.hid hI
  have HD' :=Lib.hid hd'
  have HBL:=Lib.hid hbl
  have HA' :=Lib.hid ha
  have HV' :=Lib.hid hv
  clear hI hd' hbl ha hv
  gi_wp2_with fail
  refine⟨trivial,?_⟩
  refine(CallsIn.inRound l (callsIn_wide.2 HDL.out)).mono ?_
  rintro e V hL
  have hbV:Bld b V b v (Lib.byteCells (linesD dsk0 pre).2):=by
   obtain⟨G2,_,f2,_⟩:=hL.di
   have ho:=HI.out.ord
   refine HBL.out.frame f2 (fun e=> ?_) (fun k hk e=>(HV'.out k hk).2 (.inl e))
   rcases HA'.out b (.inl e) with q|q<;>omega
  obtain rfl:=hL.out
  have HL:=Lib.hid hL.di
  clear hL
  have HW2:=Lib.hid (bwrite_bld hbV (⟨(lineD (linesD dsk0 pre).1 x).2.toArray⟩++⟨#[10]⟩) (by
   have h1:=line_len HD'.out HI.out.ok x (by omega)
   have h2:=HI.out.len
   have h3:((⟨(lineD (linesD dsk0 pre).1 x).2.toArray⟩:ByteArray)++⟨#[10]⟩).size=(lineD (linesD dsk0 pre).1 x).2.length+1:=by
    rw[ByteArray.size_append];rfl
   rw[h3]
   unfold Lib.byteCells
   rw[List.length_map]
   omega) (Nat.le_of_lt hbV.lt))
  clear hbV
  have hlq:=line_len HD'.out HI.out.ok x (by omega)
  gi_wp2_with fail
  refine⟨trivial,?_⟩
  refine(CallsIn.inRound l (callsIn_wide.2 HW2.out)).mono ?_
  rintro e Z ⟨rfl,hZ⟩
  obtain⟨r1,r2⟩:=HI.out.line hs2 (x:=x) (by omega) HD'.out HBL.out HA'.out HV'.out HL.out hZ
  have HR1:=Lib.hid r1
  have HR2:=Lib.hid r2
  have ho:=HI.out.ord
  clear r1 r2 hZ
  gi_wp2
  exact⟨⟨HR2.out _ (by omega) (by omega),HR2.out _ (by omega) (by omega)⟩,fun k h1 h2=>HR2.out k (by omega) (by omega),HR1.out⟩
 case done=>
  intro D W hD hI hK
  rw[s1] at hD
  obtain⟨G',v,hd',hbl,ha,hv⟩:=hI.st
  have hlow:=hI.ord
  have HS:=Lib.hid (bstring_kept hbl (linesD_ne (cutC_ne 10 sl) dsk0))
  have HE:Hid (sessD t.data.toList=(linesD dsk0 (cutC 10 sl)).2):=Lib.hid (by
   unfold sessD
   rw[if_neg (by rw[size_toList];exact ht),HSL.out])
  have HBE:=Lib.hid hd'.be
  have HK:=Lib.hid hK
  clear hI hd' hbl ha hv hK
  gi_wp2_with fail
  refine⟨trivial,?_⟩
  refine(callsIn_wide.2 HS.out).mono ?_
  rintro e W2 ⟨rfl,hb2,hk2⟩
  have hk3:=hk2 D HK.out (by omega)
  have HK3:=Lib.hid hk3
  have HB2:=Lib.hid hb2
  clear hb2 hk2 hk3
  gi_wp2
  refine⟨by simp,.inl ⟨_,_,rfl,run_takeDeferred HK3.out,?_⟩⟩
  refine⟨.string ⟨(sessD t.data.toList).toArray⟩,by rw[HE.out];simp[results,Tryz.results5,go_sem],?_⟩
  refine⟨rfl,?_⟩
  have h2:Below w.heap.size w W2:=HBE.out.trans (HB2.out.mono (by omega))
  exact h2.trans ((Below.refl w.heap.size _).grown (grownBy_putObj' _ D (.deferred none)) (by have:=lt_of_block HK3.out;have:=h2.size;omega) (fun k e=>by cases e;omega))
end
end Go.Proofs.YtpgkjnebklknjaaGreatDoor
namespace Go.Proofs.YtpgkjnebklknjaaGreatDoor
open Go.RowKit Go.Deep Go.Shelf Go.Sort Go.Maps
def exS:Dsk:=⟨[[exO]],0,1,false,false, -1,[],0,0⟩
theorem ex_two:lineD exS ex2=(exS,[97]):=by
 have e:fieldsL ex2=⟨#[118,97,108,117,101]⟩::([[49],[51],[45],[48],[49],[53]].map fun p=>(⟨p.toArray⟩:ByteArray)):=by decide+kernel
 unfold lineD
 rw[e]
 simp only
 unfold nameD
 rw[if_neg (by decide)]
 rw[show cmOf ⟨#[118,97,108,117,101]⟩=some .value by rfl]
 simp only
 unfold doesD
 have hw:goW (formC .value) ([[49],[51],[45],[48],[49],[53]].map fun p=>(⟨p.toArray⟩:ByteArray))=some ([1,3,0,1,5],[⟨#[45]⟩]):=by
  have n1:numB ⟨#[49]⟩=some 1:=numB_dig 1 (by decide)
  have n3:numB ⟨#[51]⟩=some 3:=numB_dig 3 (by decide)
  have n0:numB ⟨#[48]⟩=some 0:=numB_dig 0 (by decide)
  have n5:numB ⟨#[53]⟩=some 5:=numB_dig 5 (by decide)
  simp only[formC,List.map_cons,List.map_nil,goW,n1,n3,n0,n5,Option.bind_some,Option.map_some,List.toArray]
 rw[hw]
 have hv:valR exS.hist exS.known ⟨1,3,plainB ⟨#[45]⟩,0⟩ 1 5=(⟨#[97]⟩,0):=by decide+kernel
 show((exS,ansT ((valR exS.hist exS.known ⟨1,3,plainB ⟨#[45]⟩,0⟩ 1 5).2,dashL (valR exS.hist exS.known ⟨1,3,plainB ⟨#[45]⟩,0⟩ 1 5).1)):Dsk×List UInt8)=_
 rw[hv]
 rfl
theorem ex_three:lineD exS ex3=(exS,[101,114,114,111,114,32,51]):=by
 have e:fieldsL ex3= [⟨#[120]⟩]:=by decide+kernel
 unfold lineD
 rw[e]
 simp only
 unfold nameD
 rw[if_neg (by decide)]
 rw[show cmOf ⟨#[120]⟩=none by rfl]
 simp only
 show(exS,errT 3)=_
 unfold errT
 rw[show(3:Int)=((3:Nat):Int) from rfl,itoa_dig 3 (by decide)]
 rfl
theorem ex_sess:sessD (ex1++10::(ex2++10::(ex3++ [10])))= [49,10,97,10,101,114,114,111,114,32,51,10]:=by
 unfold sessD
 rw[if_neg (by decide),ex_lines,linesD,linesD,linesD,linesD,ex_one]
 show [49]++10::((lineD exS ex2).2++10::((lineD (lineD exS ex2).1 ex3).2++ [10]))=_
 rw[ex_two,ex_three]
 rfl
set_option maxRecDepth 100000 in
set_option maxHeartbeats 4000000 in
theorem deskPieces_walk (a b:ByteArray) (w:World) (ha:a.size<=140737488355328) (hb:b.size<=140737488355328) (hg:ErrVar w) (hp:PowTab w) (hv:NumVars w):
  Calls Tryz.prog 4 #[.string a,.string b] w fun e w' =>e= .returned (.bool true)/\Below w.heap.size w w' :=by
 by_cases h2:2000<a.size+b.size
 · have h2' :(2000:Int)<(a.size:Int)+(b.size:Int):=by omega
   go_enter Tryz.func4,Tryz.ntmps4
   go_wp2
   go_ret
   exact⟨rfl,Below.refl _ _⟩
 have h2' : ¬(2000:Int)<(a.size:Int)+(b.size:Int):=by omega
 have HS0:Hid (Calls Tryz.prog 5 #[.string ⟨#[99,111,109,109,105,116,32,49,32,51,32,45,32,48,32,48,32,57,32,97,10,118,97,108,117,101,32,49,32,51,32,45,32,48,32,49,32,53,10,120,10]⟩] w fun e w' => ∃x:ByteArray,e= .returned (.string x)/\x=⟨#[49,10,97,10,101,114,114,111,114,32,51,10]⟩/\Below w.heap.size w w'):=Lib.hid (by
  have:=dsession_any ⟨#[99,111,109,109,105,116,32,49,32,51,32,45,32,48,32,48,32,57,32,97,10,118,97,108,117,101,32,49,32,51,32,45,32,48,32,49,32,53,10,120,10]⟩ w hg hp hv
  rw[show((⟨#[99,111,109,109,105,116,32,49,32,51,32,45,32,48,32,48,32,57,32,97,10,118,97,108,117,101,32,49,32,51,32,45,32,48,32,49,32,53,10,120,10]⟩:ByteArray)).data.toList=ex1++10::(ex2++10::(ex3++ [10])) from rfl,ex_sess] at this
  exact this.mono fun e w' ⟨h1,h2⟩=>⟨_,h1,rfl,h2⟩)
 have HS:Hid (∀(t:ByteArray) (V:World),Below w.heap.size w V->Calls Tryz.prog 5 #[.string t] V fun e w' => ∃x:ByteArray,e= .returned (.string x)/\Hid (x.data.toList=sessD t.data.toList)/\Below V.heap.size V w'):=Lib.hid fun t V hV=>(dsession_any t V (hg.below hV) (hp.below hV) (hv.below hV)).mono fun e w' ⟨h1,h2⟩=>⟨_,h1,Lib.hid rfl,h2⟩
 have HP:=Lib.hid (sess_pieces a.data.toList b.data.toList (by rw[size_toList,size_toList];omega))
 clear hg hp hv
 go_enter Tryz.func4,Tryz.ntmps4
 go_wp2_with (first
  | (go_at_call 5;(with_reducible refine HS0.out.mono ?_);rintro e w1 ⟨x0,rfl,hx0,b1⟩;have hne:(!x0.toList== [49,10,97,10,101,114,114,111,114,32,51,10])=false:=(by rw[hx0,ByteArray.toList_eq];rfl);have HB1:Hid (Below w.heap.size w w1):=Lib.hid b1;clear b1 hx0)
  | (go_at_call 5;(with_reducible refine(HS.out (a++⟨#[10]⟩) _ HB1.out).mono ?_);rintro e w2 ⟨x,rfl,hx,b2⟩;have HX:Hid (x.data.toList=sessD (a.data.toList++ [10])):=Lib.hid (by rw[hx.out,ByteArray.data_append,Array.toList_append]);have HB2:Hid (Below w.heap.size w w2):=Lib.hid (HB1.out.trans (b2.mono HB1.out.size));clear b2 hx)
  | (go_at_call 5;(with_reducible refine(HS.out (a++⟨#[10]⟩++b) _ HB2.out).mono ?_);rintro e w3 ⟨y,rfl,hy,b3⟩;have HY:Hid (∃r,y.data.toList=x.data.toList++r):=Lib.hid (by rw[hy.out,ByteArray.data_append,Array.toList_append,ByteArray.data_append,Array.toList_append,HX.out];exact HP.out);have HB3:Hid (Below w.heap.size w w3):=Lib.hid (HB2.out.trans (b3.mono HB2.out.size));have hle:(x.size:Int)<=(y.size:Int):=(by obtain⟨r,hr⟩:=HY.out;have:=congrArg List.length hr;rw[List.length_append,size_toList,size_toList] at this;omega);clear b3 hy))
 have heq:((y.extract 0 x.size).toList==x.toList)=true:=by
  obtain⟨r,hr⟩:=HY.out
  rw[beq_iff_eq,ByteArray.toList_eq,ByteArray.toList_eq,ByteArray.data_extract,Array.toList_extract,hr, <-size_toList x]
  simp[List.extract_eq_take_drop]
 rw[heq]
 go_ret
 exact⟨rfl,HB3.out⟩
open Go Go.ChangeShapes Go.WideShapes Go.ChangeAt Go.RowKit Go.Joins
section
variable {H:Type} {enc:TypeId×Value->H}
theorem returns_and_shaped {a:Assume} {C:Checked} {os:Os} {f:FuncId} {fn:Func} {s:ChangeSpec} {conds:List PathCond} {apart fresh handsOn again:Bool} {X:World->Array Value->Prop}
  (hX: ∀(w w' :World) (args:Array Value),w.heap=w'.heap->X w args->X w' args)
  (own:ownKnob C.prog.godebug=none) (started:os.Started) (noInit:C.prog.inits.idxOf? f=none) (hfn:C.prog.funcs[f]? =some fn)
  (witness: ∃(w:World) (tape:Tape) (i:Input),w.os=os/\(w.forCall tape i).Shaped C.prog/\i.vars= []/\Input.okWide C.prog (w.forCall tape i) .any w.heap.size f i∧
   ((s.pre enc C.prog fn conds apart (w.forCall tape i).memory i.args/\X (w.forCall tape i).memory i.args)/\sizedMet enc C.prog fn (OpenSpec.ofChange s) apart (w.forCall tape i).memory i.args)/\a.holds C.prog (lone (Frame.enter C.prog f i.args .normal) [] (w.forCall tape i)))
  (contract: ∀(W:World) (base:Nat) (args:Array Value) (ds gs:List (DataW H)) (before:List MemPlace),
   (∀(j:Nat) t v,fn.params[j]? =some t->args[j]? =some v->Value.okWide C.prog W .any base t v)→
   DataW.Whole enc C.prog fn.params.toList s.vars apart W args.toList ds gs before→
   (DataW.weightsEach C.prog (fn.params.toList++s.plain.varTypes C.prog) (ds++gs)).all (· <=reachBytes)=true->X W args->W.ShapedOpen C.prog→
   Calls C.prog f args W fun e W' => ∃v,e= .returned v/\s.post enc C.prog fn apart fresh handsOn again W args v W'):
  ReturnsInHanded a C os f .any (fun w args=>(s.pre enc C.prog fn conds apart w args/\X w args)/\sizedMet enc C.prog fn (OpenSpec.ofChange s) apart w args) (s.post enc C.prog fn apart fresh handsOn again):=by
 refine returnsInHanded_of_calls own started noInit witness ?_
 intro w tape i _ hsh _ hok hpre _
 obtain⟨_,_,_,fn',hfn',_,_,_,_,hval⟩:=hok
 have e:fn' =fn:=Option.some.inj (hfn'.symm.trans hfn)
 subst e
 obtain⟨⟨⟨ds,gs,before,hw,_⟩,hx⟩,hz⟩:=hpre
 have hw' :=DataW.Whole.of_heap (w' :=w.forCall tape i) (by rfl) hw
 refine(contract (w.forCall tape i) w.heap.size i.args ds gs before hval hw' (hz.weights hw) (hX _ _ _ (by rfl) hx) hsh).mono fun e W' ⟨v,he,hp⟩=> ?_
 subst he
 exact ChangeSpec.post_blind hp
theorem iface_of_laid {P:Program} {n nm:String} {d:DataW Unit} {W:World} {g:Nat} {ti:TypeId} {ms:Array (String×TypeId)} (h:laidMet P [(n,.iface nm d)] W)
  (hg:P.globalNamed n=some g) (ht:(P.globals[g]?).map (·.type)=some ti) (hi:P.underlying ti=some (.interface ms)): ∃t p,W.cell? ⟨g,0,none⟩=some (.iface t p):=by
 obtain⟨ps,⟨g0,t0,cs0,f0,p0,q0,hg0,ht0,hv0,hd0,_,_⟩,_,_⟩:=h
 obtain rfl:=Option.some.inj (hg.symm.trans hg0)
 obtain rfl:=Option.some.inj (ht.symm.trans ht0)
 obtain⟨_,u,v,e,_,_⟩:=iface_of_trod hi hd0
 obtain⟨l0⟩:=cs0
 obtain rfl:l0= [.iface u v]:=e
 exact⟨u,v,by simpa using World.var?_cell hg hv0 0⟩
end
theorem two_small {H:Type} {P:Program} {a b:ByteArray} {t t' :TypeId} {vs:List TypeId} (h:(DataW.weightsEach P ([t,t']++vs) ([.lit (.string a.data.toList),.lit (.string b.data.toList)]++([]:List (DataW H)))).all (fun x=>decide (x<=reachBytes))=true):a.size<=140737488355328/\b.size<=140737488355328:=by
 have e:DataW.weightsEach P ([t,t']++vs) ([.lit (.string a.data.toList),.lit (.string b.data.toList)]++([]:List (DataW H)))= [a.data.toList.length,b.data.toList.length]:=by
  simp only[List.cons_append,List.nil_append,List.append_nil,DataW.weightsEach,DataW.weights]
 rw[e] at h
 simp only[List.all_cons,List.all_nil,Bool.and_true,Bool.and_eq_true,decide_eq_true_eq] at h
 have q0:a.data.toList.length=a.size:=by rw[Array.length_toList];rfl
 have q1:b.data.toList.length=b.size:=by rw[Array.length_toList];rfl
 rw[q0,q1] at h
 have:reachBytes<=140737488355328:=by decide
 omega
theorem ownDp:ownKnob Tryz.prog.godebug=none:=by kernel_rfl
theorem laidOutDp:laidOutB Tryz.prog=true:=by kernel_rfl
theorem etDp : Tryz.prog.globalNamed "errors.errorType" = some 1 := by kernel_rfl
theorem rtDp : (Tryz.prog.cutTypes.find? (·.1 == "internal/reflectlite.rtype")).map (·.2) = some 269 := by kernel_rfl
theorem oneRowDp:((List.range Tryz.prog.types.size).filter fun t=>Tryz.prog.rowNamed t [101,114,114,111,114])= [41]:=by kernel_rfl
theorem errVar_of_laidDp {W:World} (h:laidMetH Tryz.prog Rows.deskPiecesRow.laid W):ErrVar W:=by
 have h' : laidMet Tryz.prog _ W /\ handlesMet Tryz.prog [("errors.errorType", Rows.laid_errors_errorType)] W := h.filter fun x => x.1 == "errors.errorType"
 obtain⟨name,u,ty,e1,e2,e3,e4,e5⟩:=h'.2 _ (List.mem_singleton.2 rfl)
 have en:name= [101,114,114,111,114]:=(Option.some.inj e1).symm
 subst en
 obtain rfl:=Option.some.inj (rtDp.symm.trans e2)
 have hm:ty∈(List.range Tryz.prog.types.size).filter fun t=>Tryz.prog.rowNamed t [101,114,114,111,114]:=List.mem_filter.2 ⟨List.mem_range.2 e3,e4⟩
 rw[oneRowDp] at hm
 obtain rfl:=List.mem_singleton.1 hm
 have hh:typeHandle Tryz.prog 41= .pointer (some ⟨10,41,none⟩):=by kernel_rfl
 rw[hh] at e5
 have:=World.var?_cell etDp e5 0
 unfold ErrVar
 simpa using this
theorem powTab_of_laidDp {W:World} (h:laidMetH Tryz.prog Rows.deskPiecesRow.laid W):PowTab W:=by
 have h' : laidMet Tryz.prog [("internal/strconv.uint64pow10", Rows.laid_internal_strconv_uint64pow10)] W := h.filter fun x => x.1 == "internal/strconv.uint64pow10"
 exact Lib.tabIs_of_head (g:=5) (t:=309) (e:=243) (n:=20) (rest:= []) (by kernel_rfl) (by kernel_rfl) Tryz.underlying309 Tryz.underlying243 (by kernel_rfl) (by kernel_rfl) (by
  have e:(Rows.laid_internal_strconv_uint64pow10:DataW Unit)=Lib.tabData .u64 Lib.pow10Tab:=by kernel_rfl
  rw[<-e];exact h')
theorem numVars_of_laidDp {W:World} (h:laidMetH Tryz.prog Rows.deskPiecesRow.laid W) (hs:W.ShapedOpen Tryz.prog):NumVars W where
 syn := iface_of_laid (n := "strconv.ErrSyntax") (h.filter fun x => x.1 == "strconv.ErrSyntax") (by kernel_rfl) (ti := 41) (by kernel_rfl) Tryz.underlying41
 rng := iface_of_laid (n := "strconv.ErrRange") (h.filter fun x => x.1 == "strconv.ErrRange") (by kernel_rfl) (ti := 41) (by kernel_rfl) Tryz.underlying41
 len:=cell_of_shapedOpen_int (t:=3) (zero:= #[.int .i64 0]) hs (by decide+kernel) (by kernel_rfl) rfl (by kernel_rfl) (by kernel_rfl) Tryz.underlying3
noncomputable def handleWorldDp (os:Os):World:=
 let w0:=World.holding Tryz.prog os ⟨#[],#[],[]⟩
 { w0 with heap:=w0.heap.modify 1 fun
   | .cells _ t frozen=> .cells #[.iface 269 (.agg #[.pointer (some ⟨10,41,none⟩)])] t frozen
   | o=>o }
noncomputable def laidWorldDp (os:Os):World:=(handleWorldDp os).layVars Tryz.prog (Rows.deskPiecesRow.laid.filter fun x=>x.2.handleName?.isNone)
theorem laidWorldDp_met (os:Os) (args:Array Value):laidMetH Tryz.prog Rows.deskPiecesRow.laid ((laidWorldDp os).forCall (fun _ _=>0) ⟨#[],args,[]⟩).memory:=by
 have hd:laidMet Tryz.prog (Rows.deskPiecesRow.laid.filter fun x=>x.2.handleName?.isNone) (laidWorldDp os):=by
  refine laidMet_layVars (w0:=handleWorldDp os) ((Rows.deskPiecesRow.laid.filter fun x=>x.2.handleName?.isNone).map (·.1)) [] ?_ ?_ ?_ ?_
  · have e1:((Rows.deskPiecesRow.laid.filter fun x=>x.2.handleName?.isNone).filter fun x=>((Rows.deskPiecesRow.laid.filter fun x=>x.2.handleName?.isNone).map (·.1)).contains x.1)=(Rows.deskPiecesRow.laid.filter fun x=>x.2.handleName?.isNone):=List.filter_eq_self.2 fun x hx=>List.contains_iff_mem.2 (List.mem_map.2 ⟨x,hx,rfl⟩)
    rw[e1];rfl
  · kernel_rfl
  · kernel_rfl
  · have e2:((Rows.deskPiecesRow.laid.filter fun x=>x.2.handleName?.isNone).filter fun x=> !((Rows.deskPiecesRow.laid.filter fun x=>x.2.handleName?.isNone).map (·.1)).contains x.1)= []:=List.filter_eq_nil_iff.2 fun x hx=>by rw[List.contains_iff_mem.2 (List.mem_map.2 ⟨x,hx,rfl⟩)];simp
    rw[e2];exact LaidIn.none
 exact laidMetH_of_parts (hd.of_heap (by simp[World.memory,World.forCall,Input.heap])) (by kernel_rfl)
set_option maxRecDepth 100000 in
theorem deskPieces_lifted (os:Os) (started:os.Started) (H:Type) (enc:TypeId×Value->H):
  ReturnsInHanded {} Tryz.checked os 4 .any (fun w args=>(Rows.deskPiecesSpec.pre enc Tryz.prog Tryz.f4 [] false w args/\laidMetH Tryz.prog Rows.deskPiecesRow.laid w)/\sizedMet enc Tryz.prog Tryz.f4 (OpenSpec.ofChange Rows.deskPiecesSpec) false w args)
   (Rows.deskPiecesSpec.post enc Tryz.prog Tryz.f4 false true false false):=by
 refine returns_and_shaped (C:=Tryz.checked) (X:=fun w _=>laidMetH Tryz.prog Rows.deskPiecesRow.laid w) (fun _ _ _ hh h=>h.of_heap hh) ownDp started (by kernel_rfl) Tryz.func4
  (ChangeSpec.witness_at (enc:=enc) (C:=Tryz.checked) (os:=os) (X:=fun w _=>laidMetH Tryz.prog Rows.deskPiecesRow.laid w) false (laidWorldDp os) #[.string ⟨#[]⟩,.string ⟨#[]⟩] 8 rfl (by kernel_rfl) (by kernel_rfl) (by kernel_rfl) (by kernel_rfl) (by kernel_rfl) (laidWorldDp_met os _)) ?_
 intro W base args ds gs before hval0 hW hwt hL hsh
 have hval: ∀(j:Nat) t v,Tryz.f4.params[j]? =some t->args[j]? =some v->Value.okWide Tryz.prog W .any base t v:=hval0
 have hW' :=hW
 obtain⟨p,q,hA0,hV,rfl,_,_⟩:=hW
 have hA:DataW.TrodAll enc Tryz.prog W 0 (fun _=>true) true Tryz.f4.params.toList args.toList ds p:=hA0
 rw[Tryz.params4] at hA hval
 obtain⟨v0,v1,d0,d1,p0,p1,rfl,rfl,rfl,h0,h1⟩:=trodAll_two hA
 obtain⟨rfl,rfl⟩:=trodVars_none hV
 have h0k:=h0
 have h1k:=h1
 obtain⟨s0,rfl,e0,_,_⟩:=ChangeMaps.open_string Tryz.underlying9 (hval 0 9 v0 rfl rfl) h0
 obtain⟨s1,rfl,e1,_,_⟩:=ChangeMaps.open_string Tryz.underlying9 (hval 1 9 v1 rfl rfl) h1
 rw[Tryz.params4,e0,e1] at hwt
 have hsz:=two_small hwt
 have hlt: ∀x∈p0++p1,x.block<W.heap.size:=fun x hx=>by have:=hW'.lt x (by simpa using hx);simpa using this
 clear hA0 hval0 h0 h1 hwt
 simp only[List.append_nil] at hW'
 refine(deskPieces_walk s0 s1 W hsz.1 hsz.2 (errVar_of_laidDp hL) (powTab_of_laidDp hL) (numVars_of_laidDp hL hsh)).mono fun e W' ⟨he,hb⟩=> ?_
 subst he
 have t0:=Below.trod laidOutDp (by kernel_rfl) (of_decide_eq_true (by kernel_rfl)) h0k hb (fun x hx=>hlt x (by simp[hx]))
 have t1:=Below.trod laidOutDp (by kernel_rfl) (of_decide_eq_true (by kernel_rfl)) h1k hb (fun x hx=>hlt x (by simp[hx]))
 exact⟨_,rfl,_,_,_,[],_,[],hW',trodAll_mk1 (shut_bool Tryz.underlying4 _),trodAll_mk2 t0 t1,rfl,hb.frame _,fun h=>by cases h⟩
theorem deskPieces_row:Rows.DeskPiecesSaid:=
 OpenClaim.holds_of_wide 4 Tryz.f4 rfl rfl rfl rfl rfl rfl rfl ⟨rfl,rfl,rfl,rfl,rfl⟩ rfl rfl rfl rfl rfl (by kernel_rfl) Tryz.func4 jDp
  (of_decide_eq_true (by kernel_rfl)) (by unfold Func.isWrapper;first|(rw[if_pos (by decide+kernel)];kernel_rfl)|(rw[if_neg (by decide+kernel)];exact⟨rfl,rfl⟩))
  (fun os started H enc _=>deskPieces_lifted os started H enc)
theorem deskPieces_holds:Rows.DeskPiecesCardSaid:=
 Claim7.holds_tied_plain_at .later [] [.data, .data, .data, .data, .handle, .sentinel, .sentinel, .pinned] true (true, "b3ae0ec952df22b5aac9c5c18aa2acc09b73f53706038ba95fd48b49c9867f7b") true
  deskPieces_row (fun _ h=>by cases h) kDp_w (fun _ h=>by cases h) deskPieces_row_tie rfl ⟨rfl,rfl⟩ kDp_m rfl
  (fun f fn hf hfn=>by
   obtain rfl : f = 4 := Option.some.inj ((show Tryz.prog.funcNamed "palimpsest/palimpsestkeep.DeskPieces" = some 4 by kernel_rfl).symm.trans hf) |>.symm
   obtain rfl:fn=Tryz.f4:=(Option.some.inj (Tryz.func4.symm.trans hfn)).symm
   exact⟨kDp_l,fun j t ht=>by
    rw[Tryz.params4] at ht
    rcases j with _|_|j
    · have:t=9:=by simpa using ht.symm
      subst this
      exact kDp_string
    · have:t=9:=by simpa using ht.symm
      subst this
      exact kDp_string
    · simp at ht⟩)
  kDp_g
#print axioms deskPieces_holds
end Go.Proofs.YtpgkjnebklknjaaGreatDoor
