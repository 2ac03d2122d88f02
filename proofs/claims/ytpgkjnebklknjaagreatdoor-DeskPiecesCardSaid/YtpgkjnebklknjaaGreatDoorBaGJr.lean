/-Both bases:Commit and Forget in every case,in the same words. -/
import Derived.Deep.LoopGhost
import Derived.Deep.RegionHeld3
import Derived.Test.YtpgkjnebklknjaaGreatDoorPsAJr
import Derived.Test.YtpgkjnebklknjaaGreatDoorRpTJr
import Derived.Test.YtpgkjnebklknjaaGreatDoorErrCJr
import Derived.Test.YtpgkjnebklknjaaGreatDoorTreeRJr
import Derived.Test.YtpgkjnebklknjaaGreatDoorAppMJr
import Derived.Test.YtpgkjnebklknjaaGreatDoorBaBJr
import Derived.Test.YtpgkjnebklknjaaGreatDoorFcRJr
namespace Go.Proofs.YtpgkjnebklknjaaGreatDoor
open Go.RowKit Go.Deep Go.Shelf Go.Sort Go.Maps
theorem errN_is (w:World) (n:Int):ErrIs w (errN n) n (-1):=by
 unfold errN
 by_cases h:n=0
 · rw[if_pos h];exact .inl ⟨rfl,h,rfl⟩
 · rw[if_neg h];exact .inr (.inl ⟨rfl,rfl⟩)
section
variable {pb rb:Nat} {R:Rest} {hist:List (List OpP)} {known:Int} {s:Pst} {g:Gh}
end
section
variable {w0 Z X Y:World} {pb rb:Nat} {R:Rest} {hist hist' :List (List OpP)} {s s' :Pst} {g g' :Gh} {known known' :Int}
end
end Go.Proofs.YtpgkjnebklknjaaGreatDoor
namespace Go.Proofs.YtpgkjnebklknjaaGreatDoor
open Go.RowKit Go.Deep Go.Shelf Go.Sort Go.Maps
def BR (db n:Nat) (down:Bool):Rest:=⟨[.pointer (some ⟨db,0,none⟩)],[.int .i64 n,.bool down],128⟩
theorem PastI.rest {w w' :World} {pb po:Nat} {R R' :Rest} {s:Pst} {g:Gh} {I:KeyP->List It} (h:PastI w pb po R s g I) (hf:Fr (· =pb) w w') (hl:R'.pre.length=po) (hb:w'.heap[pb]? =some (.cells (pcells R' s.now s.gone s.next g.am g.tm) R'.ty (0,0))):PastI w' pb po R' s g I:=
 ⟨hl, hb,h.ids,h.vers.frame hf (fun m e=>(h.nea m e).1),h.trees.frame hf (fun m e=>h.net m e),h.both,h.keys,h.keyOk,
  fun x hx=>(h.tree x hx).frame hf (fun k hk=>(h.ne x hx k hk).1),h.all,h.apart,h.ne,h.nea,h.net⟩
theorem PastIs.rest {w w' :World} {pb po:Nat} {R R' :Rest} {hist:List (List OpP)} {s:Pst} {g:Gh} (h:PastIs w pb po R hist s g) (hf:Fr (· =pb) w w') (hl:R'.pre.length=po) (hb:w'.heap[pb]? =some (.cells (pcells R' s.now s.gone s.next g.am g.tm) R'.ty (0,0))):PastIs w' pb po R' hist s g:=
 ⟨⟨h.at'.toPastI.rest hf hl hb,h.at'.tlen⟩,h.wf,h.told,h.next,h.len⟩
theorem base_cells {w:World} {bb db n:Nat} {down:Bool} {hist:List (List OpP)} {s:Pst} {g:Gh} (h:PastIs w bb 1 (BR db n down) hist s g):
  w.cell? ⟨bb,0,none⟩=some (.pointer (some ⟨db,0,none⟩))/\w.cell? ⟨bb,6,none⟩=some (.int .i64 n)/\w.cell? ⟨bb,7,none⟩=some (.bool down)/\(∀i,w.frozen? ⟨bb,i,none⟩=false)/\bb<w.heap.size:=by
 have hc:=h.at'.toPastI.cells
 exact⟨(block_cell hc 0).trans (by simp[pcells,BR]),(block_cell hc 6).trans (by simp[pcells,BR]),(block_cell hc 7).trans (by simp[pcells,BR]),fun i=>block_free hc i,lt_of_block hc⟩
theorem base_used {w:World} {bb db n:Nat} {down:Bool} {hist:List (List OpP)} {s:Pst} {g:Gh} (h:PastIs w bb 1 (BR db n down) hist s g):PastIs (w.setCell ⟨bb,6,none⟩ (.int .i64 ((n+1:Nat):Int))) bb 1 (BR db (n+1) down) hist s g:=by
 have hc:=h.at'.toPastI.cells
 refine h.rest (Fr.setCell (F:=(· =bb)) (p:=⟨bb,6,none⟩) (Fr.refl _ w) (fun _=>rfl) _) rfl ?_
 rw[block_set hc 6]
 simp[pcells,BR]
theorem base_down {w:World} {bb db n:Nat} {down:Bool} {hist:List (List OpP)} {s:Pst} {g:Gh} (h:PastIs w bb 1 (BR db n down) hist s g) (d:Bool):PastIs (w.setCell ⟨bb,7,none⟩ (.bool d)) bb 1 (BR db n d) hist s g:=by
 have hc:=h.at'.toPastI.cells
 refine h.rest (Fr.setCell (F:=(· =bb)) (p:=⟨bb,7,none⟩) (Fr.refl _ w) (fun _=>rfl) _) rfl ?_
 rw[block_set hc 7]
 simp[pcells,BR]
theorem entT_len {s s' :List (List OpP)×Nat} {e:Ent} (h:stepE s e=some s') (hs:s.1.length<=150):(entT e).length<=10000:=by
 cases e with
 | tx l=>
   simp only[stepE] at h
   split at h
   · rename_i h1
     obtain⟨⟨_,h2⟩,h3⟩:=okL_iff.1 h1.1
     have hj:=join_len [43] 500 (l.map opT) (fun p hp=>by
      obtain⟨o,ho,rfl⟩:=List.mem_map.1 hp
      exact opT_len (List.all_eq_true.1 h3 o ho))
     show(writeT l).length<=10000
     unfold writeT
     simp only[List.length_map,List.length_cons,List.length_nil] at*
     omega
   · cases h
 | fo n=>
   simp only[stepE] at h
   split at h
   · rename_i h1
     have:=Lib.itoa_length_le (n:Int) (by omega) (by omega)
     show(102::32::Lib.itoa n).length<=10000
     simp only[List.length_cons]
     omega
   · cases h
set_option maxRecDepth 100000 in
set_option maxHeartbeats 4000000 in
theorem bplays_ok {bb db n:Nat} {down:Bool} {hist hist' :List (List OpP)} {known known' :Nat} {s:Pst} {g:Gh} (e:Ent) (w:World) (h:PastIs w bb 1 (BR db n down) hist s g) (hk:s.gone=known) (hs:stepE (hist,known) e=some (hist',known')) (hp:PowTab w) (hv:NumVars w):
  Calls Tryz.prog 53 #[.pointer (some ⟨bb,0,none⟩),.string ⟨(entT e).toArray⟩] w fun x w' => ∃s' g',x= .returned (.bool true)/\PastIs w' bb 1 (BR db n down) hist' s' g' /\s'.gone=known' /\Fr (g.foot bb) w w' /\Grows g g' bb w:=by
 have hlen:=entT_len hs h.len
 obtain⟨c0,c6,c7,hf,hbl⟩:=base_cells h
 have hnow:=h.now
 have H:=Lib.hid h
 have HP:=Lib.hid hp
 have HV:=Lib.hid hv
 clear h hp hv
 cases e with
 | tx l=>
   simp only[stepE] at hs
   split at hs
   · rename_i h1
     cases hs
     obtain⟨hok,h150⟩:=h1
     obtain⟨ch,r,hw1,hw2⟩:=writeT_first hok
     have hpre:Lib.hasPrefix (writeT l) [102,32]=false:=by
      rw[hw1]
      have h2:((102:UInt8)==ch)=false:=by simpa using fun e=>hw2 e.symm
      show((102:UInt8)==ch && _)=false
      rw[h2];rfl
     have htl:(writeT l).length<=10000:=hlen
     obtain⟨S,hS⟩: ∃S:ByteArray,S=⟨(writeT l).toArray⟩:=⟨_,rfl⟩
     have hSl:S.data.toList=writeT l:=by rw[hS]
     have hSs:S.size<=100000:=by rw[hS];simpa [ByteArray.size] using Nat.le_trans htl (by omega)
     have hC:=Tryz.strings_CutPrefix S ⟨#[102,32]⟩ w
     rw[hSl,show(⟨#[102,32]⟩:ByteArray).data.toList= [102,32] from rfl,hpre] at hC
     have hR:=fread_full S w hSs HP.out HV.out
     have hrd:readF S.data.toList=some l:=by rw[hSl];exact(readF_iff _ _).2 ((okT_iff _ _).2 ⟨(okL_iff.1 hok).1,(okL_iff.1 hok).2,rfl⟩)
     rw[hrd] at hR
     have hCM:=fun(X:World) (ao:Option Addr) (c:Nat) (hX:Below w.heap.size w X) (hl:opsAt X ao l) (hb: ∀b f,ao=some ⟨b,f,none⟩->w.heap.size<=b)=>commit_is ao c l bb 1 _ hist s g X (H.out.below hX) hl (fun b f e hf=>by have h1:=hb b f e;have h2:=H.out.at'.lt b hf;omega) (HP.out.below hX) hok h150
     rw[show entT (.tx l)=writeT l from rfl, <-hS]
     have HC:=Lib.hid hC
     have HR:=Lib.hid hR
     have HCM:=Lib.hid hCM
     have HK:=Lib.hid hk
     clear hC hR hCM hk hrd hSs hSl hS hpre hw1 hw2 hlen htl hnow
     generalize Lib.trimPrefix (writeT l) [102,32]=tp at*
     go_enter Tryz.func53,Tryz.ntmps53
     go_wp2_with (first
      | (go_at_call 110;(with_reducible refine HC.out.mono ?_);rintro e w1 ⟨rfl,rfl⟩)
      | (go_at_call 113;(with_reducible refine HR.out.mono ?_);rintro e w2 ⟨hx,b2⟩;rcases hx with ⟨L,ao,cp,rfl,hL,hops,hblk⟩|⟨_,hL⟩;rotate_left;(exact absurd hL (by simp));obtain rfl:l=L:=Option.some.inj hL;have HB2:=Lib.hid b2;have HO:=Lib.hid hops;have HBK:=Lib.hid hblk;clear b2 hops hblk hL)
      | (go_at_call 114;(with_reducible refine(HCM.out _ _ _ HB2.out HO.out HBK.out).mono ?_);rintro e w3 ⟨s',g',rfl,hp3,hg3,hf3,hG3⟩;have H3:=Lib.hid hp3;have HG3:=Lib.hid hg3;have HF3:=Lib.hid hf3;have HGr:=Lib.hid hG3;clear hp3 hg3 hf3 hG3))
     go_ret
     exact⟨s',g',rfl,H3.out,HG3.out.trans HK.out,(Fr.new (F:=g.foot bb) HB2.out).trans HF3.out,fun k hk=>by
      rcases HGr.out k hk with e|e
      · exact .inl e
      · exact .inr (Nat.le_trans HB2.out.size e)⟩
   · cases hs
 | fo m=>
   simp only[stepE] at hs
   split at hs
   · rename_i h1
     injection hs with hs
     injection hs with hs1 hs2
     subst hs1
     subst hs2
     obtain⟨h1,h2⟩:=h1
     change known<=m at h1
     change m<=hist.length at h2
     obtain⟨S,hS⟩: ∃S:ByteArray,S=⟨(102::32::Lib.itoa m).toArray⟩:=⟨_,rfl⟩
     have hSl:S.data.toList=102::32::Lib.itoa m:=by rw[hS]
     have hC:=Tryz.strings_CutPrefix S ⟨#[102,32]⟩ w
     rw[hSl,show(⟨#[102,32]⟩:ByteArray).data.toList= [102,32] from rfl,show Lib.hasPrefix (102::32::Lib.itoa m) [102,32]=true from rfl,show Lib.trimPrefix (102::32::Lib.itoa m) [102,32]=Lib.itoa m from rfl] at hC
     have hl:=H.out.len
     have hil:=Lib.itoa_length_le (m:Int) (by omega) (by omega)
     obtain⟨I,hI⟩: ∃I:ByteArray,I=⟨(Lib.itoa m).toArray⟩:=⟨_,rfl⟩
     have hIl:I.data.toList=Lib.itoa m:=by rw[hI]
     have hA:=atoi_any I w (by rw[hI];simpa [ByteArray.size] using Nat.le_trans hil (by omega)) HV.out
     have hnum:num? I.data.toList=some (m:Int):=by rw[hIl];unfold num?;rw[atoi_itoa m (by omega) (by omega)]
     rw[hnum] at hA
     have hF:=fun(X:World) (hX:Below w.heap.size w X)=>forget_is (m:Int) bb 1 _ hist s g X (H.out.below hX) (by omega) (by omega)
     rw[show entT (.fo m)=102::32::Lib.itoa m from rfl, <-hS]
     rw[<-hI] at hC
     have HC:=Lib.hid hC
     have HA:=Lib.hid hA
     have HF:=Lib.hid hF
     clear hC hA hF hk hlen hnow hnum hIl hI hSl hS hil hl h1 h2
     go_enter Tryz.func53,Tryz.ntmps53
     go_wp2_with (first
      | (go_at_call 110;(with_reducible refine HC.out.mono ?_);rintro e w1 ⟨rfl,rfl⟩)
      | (go_at_call 111;(with_reducible refine HA.out.mono ?_);rintro e w2 ⟨⟨v,er,rfl,hx⟩,b2⟩;rcases hx with ⟨hv,rfl⟩|⟨hv,_⟩;rotate_left;(exact absurd hv (by simp));obtain rfl:(m:Int)=v:=Option.some.inj hv;have HB2:=Lib.hid b2;clear b2 hv)
      | (go_at_call 112;(with_reducible refine(HF.out _ HB2.out).mono ?_);rintro e w3 ⟨s',g',rfl,hp3,hg3,hf3,hG3⟩;have H3:=Lib.hid hp3;have HG3:=Lib.hid hg3;have HF3:=Lib.hid hf3;have HGr:=Lib.hid hG3;clear hp3 hg3 hf3 hG3))
     go_ret
     exact⟨s',g',rfl,H3.out,HG3.out,(Fr.new (F:=g.foot bb) HB2.out).trans HF3.out,fun k hk=>by
      rcases HGr.out k hk with e|e
      · exact .inl e
      · exact .inr (Nat.le_trans HB2.out.size e)⟩
   · cases hs
structure Says (D:List ByteArray) (log:List Ent):Prop where
 ll:log.length<=150
 small: ∀x∈D,x.size<=70000
 said: ∀(j:Nat) e,log[j]? =some e->D[j]? =some ⟨(sealT j (entT e)).toArray⟩
 none' : ∀(j:Nat) x,log.length<=j->D[j]? =some x->openT j x.data.toList=none
theorem sealT_len (k:Int) (hk:0<=k/\k<1000) (s:List UInt8) (hs:s.length<=50000):(sealT k s).length<=60000:=by
 have h1:=Lib.itoa_length_le k (by omega) (by omega)
 have h2:=sumR_rng (headT k s)
 have h3:=Lib.itoa_length_le (sumR (headT k s)) (by omega) (by omega)
 unfold sealT
 simp only[List.length_append,List.length_cons]
 unfold headT at*
 simp only[List.length_append,List.length_cons]
 omega
theorem Says.torn {D:List ByteArray} {log:List Ent} (h:Says D log) {s:List UInt8} (hs:(124:UInt8)∉s) (hl:s.length<=50000) (hlog:log.length<150) {t u:List UInt8} (e:t++u=sealT log.length s) (hu:u≠ []):Says (D.set log.length ⟨t.toArray⟩) log:=by
 have hle:=sealT_len log.length (by omega) s hl
 have htl:t.length<=60000:=by
  have:=congrArg List.length e
  rw[List.length_append] at this
  omega
 refine⟨h.ll,fun x hx=> ?_,fun j en hj=> ?_,fun j x hj hx=> ?_⟩
 · rcases List.mem_or_eq_of_mem_set hx with hx|rfl
   · exact h.small x hx
   · simpa [ByteArray.size] using Nat.le_trans htl (by omega)
 · have hlt:j<log.length:=(List.getElem?_eq_some_iff.1 hj).1
   rw[List.getElem?_set_ne (by omega)]
   exact h.said j en hj
 · by_cases hjl:log.length=j
   · subst hjl
     rw[List.getElem?_set_self'] at hx
     cases hd:D[log.length]? with
     | none=>rw[hd] at hx;cases hx
     | some y=>
       rw[hd] at hx
       cases hx
       exact open_torn hs e hu
   · rw [List.getElem?_set_ne hjl] at hx
     exact h.none' j x hj hx
theorem Says.more {D:List ByteArray} {log:List Ent} (h:Says D log) {e:Ent} (hl:(entT e).length<=50000) (hlog:log.length<150) (hd:D.length=150):Says (D.set log.length ⟨(sealT log.length (entT e)).toArray⟩) (log++ [e]):=by
 have hle:=sealT_len log.length (by omega) (entT e) hl
 refine⟨by rw[List.length_append,List.length_singleton];omega,fun x hx=> ?_,fun j en hj=> ?_,fun j x hj hx=> ?_⟩
 · rcases List.mem_or_eq_of_mem_set hx with hx|rfl
   · exact h.small x hx
   · simpa [ByteArray.size] using Nat.le_trans hle (by omega)
 · have hlt:j<(log++ [e]).length:=(List.getElem?_eq_some_iff.1 hj).1
   rw[List.length_append,List.length_singleton] at hlt
   by_cases hjl:log.length=j
   · subst hjl
     rw[List.getElem?_append_right (Nat.le_refl _),Nat.sub_self] at hj
     cases hj
     rw[List.getElem?_set_self (by omega)]
   · rw [List.getElem?_set_ne hjl]
     rw[List.getElem?_append_left (by omega)] at hj
     exact h.said j en hj
 · rw [List.length_append,List.length_singleton] at hj
   rw[List.getElem?_set_ne (by omega)] at hx
   exact h.none' j x (by omega) hx
theorem Says.empty:Says (List.replicate 150 ⟨#[]⟩) []:=
 ⟨Nat.zero_le _,fun x hx=>by rw[List.eq_of_mem_replicate hx];exact Nat.zero_le _,fun j e h=>by simp at h,fun j x _ hx=>by
  have:=List.mem_of_getElem? hx
  rw[List.eq_of_mem_replicate this]
  exact open_empty _⟩
structure Op1 (w:World) (db bb:Nat) (log:List Ent) (i:Nat) (hi:List (List OpP)) (ki:Nat) (s:Pst) (g:Gh) (X:World):Prop where
 le:i<=log.length
 pl:playE (log.take i)=some (hi,ki)
 p:PastIs X bb 1 (BR db i false) hi s g
 k:s.gone=ki
 new: ∀k,g.foot bb k->w.heap.size<=k
 be:Below w.heap.size w X
set_option maxRecDepth 100000 in
set_option maxHeartbeats 4000000 in
theorem bopen_any {db:Nat} {D:List ByteArray} {cut:Bool} {left:Int} {log:List Ent} {hist:List (List OpP)} {known:Nat} (w:World) (h:BD w db D cut left) (hs:Says D log) (hpl:playE log=some (hist,known)) (hp:PowTab w) (hv:NumVars w):
  Calls Tryz.prog 18 #[.pointer (some ⟨db,0,none⟩)] w fun x w' => ∃bb s g,x= .returned (.tuple #[.pointer (some ⟨bb,0,none⟩),.nilIface])/\PastIs w' bb 1 (BR db log.length false) hist s g/\s.gone=known/\(∀k,g.foot bb k->w.heap.size<=k)/\Below w.heap.size w w' :=by
 obtain⟨W,hW⟩: ∃W,W=w.alloc (.cells #[.pointer (some ⟨db,0,none⟩),.int .i64 0,.int .i64 0,.int .i64 0,.map none,.map none,.int .i64 0,.bool false] 128):=⟨_,rfl⟩
 obtain⟨bb,hbb⟩: ∃bb,bb=w.heap.size:=⟨_,rfl⟩
 have hBW:Below w.heap.size w W:=by rw[hW];exact(Below.refl _ _).alloc (Nat.le_refl _) _
 have hblk:W.heap[bb]? =some (.cells #[.pointer (some ⟨db,0,none⟩),.int .i64 0,.int .i64 0,.int .i64 0,.map none,.map none,.int .i64 0,.bool false] 128 (0,0)):=by rw[hW,hbb];exact block_alloc_new _ _
 have h0:Op1 w db bb log 0 [] 0 ⟨0,0,0,[]⟩ noGh W:=⟨Nat.zero_le _,rfl,past_is_new rfl hblk,rfl,fun k hk=>by rw[foot_new hk,hbb];exact Nat.le_refl _,hBW⟩
 have HW:=Lib.hid hW
 have HBB:=Lib.hid hbb
 have H0:=Lib.hid h0
 have HD:=Lib.hid h
 have HS:=Lib.hid hs
 have HPL:=Lib.hid hpl
 have HP:=Lib.hid hp
 have HV:=Lib.hid hv
 have hdl:=h.lt
 clear hW hbb h0 hBW hblk h hs hpl hp hv
 go_enter Tryz.func18,Tryz.ntmps18
 go_wp2_with fail
 rw[<-HW.out, <-HBB.out]
 go_loopg [5] (log.length+1) (fun gh v X=> ∃(i:Nat) (hi:List (List OpP)) (ki:Nat) (s:Pst) (g:Gh),log.length+1-i<=gh/\Op1 w db bb log i hi ki s g X)
 case atStart=>exact⟨0,_,_,_,_,Nat.le_refl _,H0.out⟩
 case round=>
  obtain⟨i,hi,ki,s,g,hgh,hO⟩:=hrel
  have hdx:BD wr db D cut left:=HD.out.frame (F:=fun k=>w.heap.size<=k) (Fr.ofBelow hO.be) (by omega)
  have hpw:=HP.out.below hO.be
  have hnv:=HV.out.below hO.be
  obtain⟨c0,c6,c7,hfz,hbl⟩:=base_cells hO.p
  have hf6:=hfz 6
  have hll:=HS.out.ll
  have hle:=hO.le
  have hdl2:=hdx.lt
  have HO:=Lib.hid hO
  have j0:(0:Int)<=(i:Int):=by omega
  have q6:=fun X:InC (Bel wr)=>X.cell c6
  have HPW:=Lib.hid hpw
  have HNV:=Lib.hid hnv
  by_cases hlt:i<log.length
  · obtain⟨e,he⟩: ∃e,log[i]? =some e:=⟨_,List.getElem?_eq_getElem hlt⟩
    have d0:=hdx.place (HS.out.said i e he)
    obtain⟨⟨h',k'⟩,hst,hpl'⟩:=playE_next HPL.out he hO.pl
    have hbar:=entT_bar hst
    obtain⟨S,hS⟩: ∃S:ByteArray,S=⟨(sealT i (entT e)).toArray⟩:=⟨_,rfl⟩
    obtain⟨E,hE⟩: ∃E:ByteArray,E=⟨(entT e).toArray⟩:=⟨_,rfl⟩
    have hop:openT i S.data.toList=some (entT e):=by rw[hS];exact open_seal hbar
    have hSs:S.size<=70000:=HS.out.small S (by rw[hS];exact List.mem_of_getElem? (HS.out.said i e he))
    rw[<-hS] at d0
    have hC1:=fun(X:InC (Bel wr))=>bopened_some i (by omega) S X.w (by omega) (hpw.below X.ok) (hnv.below X.ok) hop
    rw[<-hE] at hC1
    have hC2:=fun(X:InC (Bel wr))=>bplays_ok e X.w (hO.p.below X.ok) hO.k hst (hpw.below X.ok) (hnv.below X.ok)
    rw[<-hE] at hC2
    have p0:=fun X:InC (Bel wr)=>X.cell d0
    have C1:=Lib.hid hC1
    have C2:=Lib.hid hC2
    have HPN:=Lib.hid hpl'
    have j1:(i:Int)<150:=by omega
    clear hC1 hC2 hop hSs hbar hst hpl' he hS hE d0 hdx hO hpw hnv
    go_wp2_with fail
    refine wp_region_in (S:=Bel wr) (by kernel_rfl) (by kernel_rfl) (bel_drew (Below.refl _ wr)) (fun hne=> ?_)
    repeat (go_big_quiet_step ((go_at_call 52;exact InC.call (C1.out _))))
    refine wpQuiet_nil ?_
    rintro _ ⟨X,rfl⟩
    go_wp2_with (go_at_call 53;(with_reducible refine(C2.out X).mono ?_);rintro e w3 ⟨s',g',rfl,hp3,hg3,hf3,hG3⟩;obtain⟨c0',c6',c7',hfz',hbl'⟩:=base_cells hp3;have hf6' :=hfz' 6;have H3:=Lib.hid hp3;have HG3:=Lib.hid hg3;have HF3:=Lib.hid hf3;have HGr:=Lib.hid hG3;clear hp3 hg3 hf3 hG3 hfz' c7' c0')
    go_roundg (log.length+1-(i+1))
    case measure=>omega
    case rel=>
     have hu:=base_used H3.out
     rw[show((i+1:Nat):Int)=(i:Int)+1 by omega] at hu
     have hx3:Below w.heap.size w w3:=(HO.out.be.trans (X.ok.mono HO.out.be.size)).trans (HF3.out.below (fun k _ hk=>HO.out.new k hk) (Nat.le_trans HO.out.be.size X.ok.size))
     refine⟨i+1,h',k',s',g',Nat.le_refl _,by omega,HPN.out,hu,HG3.out,fun k hk=> ?_,hx3.setCell (p:=⟨bb,6,none⟩) (HO.out.new bb (.inl rfl)) _⟩
     rcases HGr.out k hk with e|e
     · exact HO.out.new k e
     · exact Nat.le_trans (Nat.le_trans HO.out.be.size X.ok.size) e
  · obtain rfl:i=log.length:=by omega
    by_cases h150:log.length<150
    · obtain⟨x,hx⟩: ∃x,D[log.length]? =some x:=⟨_,List.getElem?_eq_getElem (by rw[hdx.len];exact h150)⟩
      have d0:=hdx.place hx
      have hop:=HS.out.none' log.length x (Nat.le_refl _) hx
      have hSs:=HS.out.small x (List.mem_of_getElem? hx)
      have hC1:=fun(X:InC (Bel wr))=>bopened_none log.length (by omega) x X.w (by omega) (hpw.below X.ok) (hnv.below X.ok) hop
      have p0:=fun X:InC (Bel wr)=>X.cell d0
      have C1:=Lib.hid hC1
      have j1:(log.length:Int)<150:=by omega
      clear hC1 hop hSs d0 hdx hO hx hpw hnv
      go_wp2_with fail
      refine wp_region_in (S:=Bel wr) (by kernel_rfl) (by kernel_rfl) (bel_drew (Below.refl _ wr)) (fun hne=> ?_)
      repeat (go_big_quiet_step ((go_at_call 52;exact InC.call (C1.out _))))
      refine wpQuiet_nil ?_
      rintro _ ⟨X,rfl⟩
      go_wp2_with fail
      go_ret2
      have hpl2:=HO.out.pl
      rw[List.take_of_length_le (Nat.le_refl _),HPL.out] at hpl2
      cases hpl2
      exact⟨bb,s,g,rfl,HO.out.p.below X.ok,HO.out.k,HO.out.new,HO.out.be.trans (X.ok.mono HO.out.be.size)⟩
    · have j1: ¬(log.length:Int)<150:=by omega
      go_wp2_with fail
      go_ret2
      have hpl2:=HO.out.pl
      rw[List.take_of_length_le (Nat.le_refl _),HPL.out] at hpl2
      cases hpl2
      exact⟨bb,rfl,s,g,HO.out.p,HO.out.k,HO.out.new,HO.out.be⟩
structure BI (X:World) (bb db:Nat) (D:List ByteArray) (cut:Bool) (left:Int) (log:List Ent) (down:Bool) (hist:List (List OpP)) (known:Nat) (s:Pst) (g:Gh):Prop where
 pl:playE log=some (hist,known)
 says:Says D log
 dk:BD X db D cut left
 p:PastIs X bb 1 (BR db log.length down) hist s g
 k:s.gone=known
 nf: ¬g.foot bb db
 lr:cut=true->0<=left/\left<=9223372036854775807
section
variable {X Y:World} {bb db:Nat} {D:List ByteArray} {cut:Bool} {left:Int} {log:List Ent} {down:Bool} {hist:List (List OpP)} {known:Nat} {s:Pst} {g:Gh}
theorem BI.frame {F:Nat->Prop} (h:BI X bb db D cut left log down hist known s g) (hf:Fr F X Y) (h1: ∀k,g.foot bb k-> ¬F k) (h2: ¬F db):BI Y bb db D cut left log down hist known s g:=
 ⟨h.pl,h.says,h.dk.frame hf h2,h.p.frame hf h1,h.k,h.nf,h.lr⟩
theorem BI.below (h:BI X bb db D cut left log down hist known s g) (hb:Below X.heap.size X Y):BI Y bb db D cut left log down hist known s g:=
 h.frame (F:=fun _=>False) (Fr.new hb) (fun _ _ e=>e) (fun e=>e)
theorem BI.ne (h:BI X bb db D cut left log down hist known s g):bb≠db:=fun e=>h.nf (.inl e.symm)
end
def roomE (down:Bool) (used:Nat):Int:=if down=true then 6 else if 150<=used then 4 else 0
set_option maxRecDepth 100000 in
set_option maxHeartbeats 2000000 in
theorem broom_any {bb db n:Nat} {down:Bool} {hist:List (List OpP)} {s:Pst} {g:Gh} (w:World) (h:PastIs w bb 1 (BR db n down) hist s g) (hn:n<=150):
  Calls Tryz.prog 183 #[.pointer (some ⟨bb,0,none⟩)] w fun e w' =>e= .returned (errN (roomE down n))/\w=w' :=by
 obtain⟨c0,c6,c7,hfz,hbl⟩:=base_cells h
 clear h hfz
 cases down with
 | true=>
   have hE:errN (roomE true n)=errV 6:=by unfold roomE;rw[if_pos rfl];exact errN_of (by decide)
   unfold errV at hE
   have HE:=Lib.hid hE
   clear hE
   go_enter Tryz.func183,Tryz.ntmps183
   go_wp2_with fail
   go_ret
   exact⟨by rw[HE.out];rfl,rfl⟩
 | false=>
   by_cases h150:150<=n
   · obtain rfl:n=150:=by omega
     have hE:errN (roomE false 150)=errV 4:=by unfold roomE;rw[if_neg (by decide),if_pos (Nat.le_refl _)];exact errN_of (by decide)
     unfold errV at hE
     have HE:=Lib.hid hE
     clear hE h150
     go_enter Tryz.func183,Tryz.ntmps183
     go_wp2_with fail
     go_ret
     exact⟨by rw[HE.out];rfl,rfl⟩
   · have hE:errN (roomE false n)= .nilIface:=by unfold roomE;rw[if_neg (by decide),if_neg h150];rfl
     have HE:=Lib.hid hE
     have j1: ¬(n:Int)>=150:=by omega
     clear hE h150
     go_enter Tryz.func183,Tryz.ntmps183
     go_wp2_with fail
     go_ret
     exact⟨by rw[HE.out];rfl,rfl⟩
set_option maxRecDepth 100000 in
set_option maxHeartbeats 4000000 in
theorem badd_ok {bb db:Nat} {D:List ByteArray} {cut:Bool} {left:Int} {log:List Ent} {down:Bool} {hist:List (List OpP)} {known:Nat} {s:Pst} {g:Gh} (E:List UInt8) (torn:Int) (w:World) (h:BI w bb db D cut left log down hist known s g) (hl:E.length<=10000) (hlog:log.length<150) (ho:cut=true->left≠0) (hp:PowTab w):
  Calls Tryz.prog 184 #[.pointer (some ⟨bb,0,none⟩),.string ⟨E.toArray⟩,.int .i64 torn] w fun x w' =>x= .returned .nilIface/\(∃l2,BD w' db (D.set log.length ⟨(sealT log.length E).toArray⟩) cut l2/\(cut=true->l2=left-1))/\PastIs w' bb 1 (BR db (log.length+1) down) hist s g/\Fr (fun k=>k=bb\/k=db) w w' :=by
 obtain⟨c0,c6,c7,hfz,hbl⟩:=base_cells h.p
 have hf6:=hfz 6
 obtain⟨S,hS⟩: ∃S:ByteArray,S=⟨E.toArray⟩:=⟨_,rfl⟩
 have hSl:S.data.toList=E:=by rw[hS]
 have hSs:S.size<=90000:=by rw[hS];simpa [ByteArray.size] using Nat.le_trans hl (by omega)
 have hC1:=fun(X:World) (hX:Below w.heap.size w X)=>bsealed_any log.length (by omega) S X hSs (hp.below hX)
 rw[hSl] at hC1
 obtain⟨T,hT⟩: ∃T:ByteArray,T=⟨(sealT log.length E).toArray⟩:=⟨_,rfl⟩
 rw[<-hT] at hC1 ⊢
 rw[<-hS]
 have hC2:=fun(X:World) (hX:Below w.heap.size w X)=>bwrite_ok log.length hlog T torn X (h.dk.below hX) (fun hc=>⟨by have:=h.lr hc;have:=ho hc;omega,(h.lr hc).2⟩)
 have hne:=h.ne
 have H:=Lib.hid h
 have C1:=Lib.hid hC1
 have C2:=Lib.hid hC2
 clear hC1 hC2 hS hSl hSs hT h hp hfz c7 ho
 go_enter Tryz.func184,Tryz.ntmps184
 go_wp2_with fail
 go_region_held3 (fun X=>X.cell? ⟨bb,0,none⟩=some (.pointer (some ⟨db,0,none⟩))/\X.cell? ⟨bb,6,none⟩=some (.int .i64 log.length))
  (first|exact⟨c0,c6⟩|exact hS2|exact hS1)
  (first
   | (go_at_call 109;(with_reducible refine(C1.out _ (Below.refl _ _).drew).mono ?_);rintro e x1 ⟨rfl,b1⟩;have hB1:=Lib.hid ((Below.refl w.heap.size w).drew.trans b1);have hS1:=And.intro (below_cell b1 hbl c0) (below_cell b1 hbl c6);have hx1:=Nat.lt_of_lt_of_le hbl b1.size;clear b1)
   | (go_at_call 243;(with_reducible refine(C2.out x1 hB1.out).mono ?_);rintro e x2 ⟨rfl,hbd,hf⟩;have HBD:=Lib.hid hbd;have HF2:=Lib.hid hf;have hS2:=And.intro ((World.cell?_of_block (a:=⟨bb,0,none⟩) (hf.block bb hx1 hne)).trans hS1.1) ((World.cell?_of_block (a:=⟨bb,6,none⟩) (hf.block bb hx1 hne)).trans hS1.2);clear hbd hf))
 have hF:Fr (fun k=>k=db) w x2:=(Fr.new hB1.out).trans HF2.out
 have hp2:=H.out.p.frame hF (fun k hk e=>H.out.nf (e▸hk))
 obtain⟨d0,d6,d7,dfz,dbl⟩:=base_cells hp2
 have df6:=dfz 6
 have HP2:=Lib.hid hp2
 have HFF:=Lib.hid hF
 have hu:=base_used hp2
 rw[show((log.length+1:Nat):Int)=(log.length:Int)+1 by omega] at hu
 have HU:=Lib.hid hu
 have j1:(log.length:Int)<150:=by omega
 clear hp2 hF hS2 hS1 hu dfz
 go_wp2_with fail
 go_ret
 obtain⟨l2,hb,hl2⟩:=HBD.out
 have hf3:=Fr.setCell (F:=fun k=>k=bb) (p:=⟨bb,6,none⟩) (Fr.refl _ x2) (fun _=>rfl) (.int .i64 ((log.length:Int)+1))
 exact⟨rfl,⟨l2,hb.frame hf3 (fun e=>hne e.symm),hl2⟩,HU.out,(HFF.out.mono fun _ _ e=> .inr e).next hf3 fun _ _ e=> .inl e⟩
set_option maxRecDepth 100000 in
set_option maxHeartbeats 4000000 in
theorem badd_off {bb db:Nat} {D:List ByteArray} {log:List Ent} {down:Bool} {hist:List (List OpP)} {known:Nat} {s:Pst} {g:Gh} (E:List UInt8) (torn:Int) (w:World) (h:BI w bb db D true 0 log down hist known s g) (hl:E.length<=10000) (hE:(124:UInt8)∉E) (hlog:log.length<150) (ht:i64 torn) (hp:PowTab w):
  Calls Tryz.prog 184 #[.pointer (some ⟨bb,0,none⟩),.string ⟨E.toArray⟩,.int .i64 torn] w fun x w' =>x= .returned (errV 14)/\(∃D',BD w' db D' true 0/\Says D' log)/\PastIs w' bb 1 (BR db log.length true) hist s g/\Fr (fun k=>k=bb\/k=db) w w' :=by
 obtain⟨c0,c6,c7,hfz,hbl⟩:=base_cells h.p
 have hf7:=hfz 7
 obtain⟨S,hS⟩: ∃S:ByteArray,S=⟨E.toArray⟩:=⟨_,rfl⟩
 have hSl:S.data.toList=E:=by rw[hS]
 have hSs:S.size<=90000:=by rw[hS];simpa [ByteArray.size] using Nat.le_trans hl (by omega)
 have hC1:=fun(X:World) (hX:Below w.heap.size w X)=>bsealed_any log.length (by omega) S X hSs (hp.below hX)
 rw[hSl] at hC1
 obtain⟨T,hT⟩: ∃T:ByteArray,T=⟨(sealT log.length E).toArray⟩:=⟨_,rfl⟩
 have hTl:T.data.toList=sealT log.length E:=by rw[hT]
 have hTs:1<=T.size/\T.size<=100000:=by
  have h1:=sealT_len log.length (by omega) E (by omega)
  rw[<-hTl,size_toList] at h1
  refine⟨?_,by omega⟩
  rw[<-size_toList,hTl]
  unfold sealT
  simp only[List.length_append,List.length_cons]
  omega
 rw[<-hT] at hC1
 rw[<-hS]
 have hC2:=fun(X:World) (hX:Below w.heap.size w X)=>bwrite_off log.length hlog T torn X (h.dk.below hX) hTs ht
 have hne:=h.ne
 have H:=Lib.hid h
 have C1:=Lib.hid hC1
 have C2:=Lib.hid hC2
 have HTL:=Lib.hid hTl
 have HEE:=Lib.hid hE
 clear hC1 hC2 hS hSl hSs hT h hp hfz c7 ht hTl hTs hE
 unfold errV at C2 ⊢
 go_enter Tryz.func184,Tryz.ntmps184
 go_wp2_with fail
 go_region_held3 (fun X=>X.cell? ⟨bb,0,none⟩=some (.pointer (some ⟨db,0,none⟩))/\X.cell? ⟨bb,6,none⟩=some (.int .i64 log.length))
  (first|exact⟨c0,c6⟩|exact hS2|exact hS1)
  (first
   | (go_at_call 109;(with_reducible refine(C1.out _ (Below.refl _ _).drew).mono ?_);rintro e x1 ⟨rfl,b1⟩;have hB1:=Lib.hid ((Below.refl w.heap.size w).drew.trans b1);have hS1:=And.intro (below_cell b1 hbl c0) (below_cell b1 hbl c6);have hx1:=Nat.lt_of_lt_of_le hbl b1.size;clear b1)
   | (go_at_call 243;(with_reducible refine(C2.out x1 hB1.out).mono ?_);rintro e x2 ⟨rfl,hbd,hf⟩;have HBD:=Lib.hid hbd;have HF2:=Lib.hid hf;have hS2:=And.intro ((World.cell?_of_block (a:=⟨bb,0,none⟩) (hf.block bb hx1 hne)).trans hS1.1) ((World.cell?_of_block (a:=⟨bb,6,none⟩) (hf.block bb hx1 hne)).trans hS1.2);clear hbd hf))
 have hF:Fr (fun k=>k=db) w x2:=(Fr.new hB1.out).trans HF2.out
 have hp2:=H.out.p.frame hF (fun k hk e=>H.out.nf (e▸hk))
 obtain⟨d0,d6,d7,dfz,dbl⟩:=base_cells hp2
 have df7:=dfz 7
 have HFF:=Lib.hid hF
 have HU:=Lib.hid (base_down hp2 true)
 clear hp2 hF hS2 hS1 dfz
 go_wp2_with fail
 go_ret
 have hf3:=Fr.setCell (F:=fun k=>k=bb) (p:=⟨bb,7,none⟩) (Fr.refl _ x2) (fun _=>rfl) (.bool true)
 have hfr:Fr (fun k=>k=bb\/k=db) w (x2.setCell ⟨bb,7,none⟩ (.bool true)):=(HFF.out.mono fun _ _ e=> .inr e).next hf3 fun _ _ e=> .inl e
 rcases HBD.out with hb|⟨t,u,hb,htu,hu⟩
 · exact⟨rfl,⟨D,hb.frame hf3 (fun e=>hne e.symm),H.out.says⟩,HU.out,hfr⟩
 · exact⟨rfl,⟨_,hb.frame hf3 (fun e=>hne e.symm),H.out.says.torn HEE.out (by omega) hlog (by rw[htu,HTL.out]) hu⟩,HU.out,hfr⟩
end Go.Proofs.YtpgkjnebklknjaaGreatDoor
namespace Go.Proofs.YtpgkjnebklknjaaGreatDoor
open Go.RowKit Go.Deep Go.Shelf Go.Sort Go.Maps
def offB (cut:Bool) (left:Int):Bool:=cut && decide (left=0)
def comBE (down:Bool) (used:Nat) (cut:Bool) (left:Int) (l:List OpP):Int×Int:=
 if roomE down used≠0 then (roomE down used, -1) else if okL l=true then (if offB cut left=true then (14, -1) else (0, -1)) else (writeR l).2
def forBE (down:Bool) (used:Nat) (cut:Bool) (left:Int) (N:Nat) (known a:Int):Int:=
 if roomE down used≠0 then roomE down used else if forR N known a≠0 then forR N known a else if offB cut left=true then 14 else 0
structure BN (w:World) (bb db:Nat) (cut:Bool) (left:Int) (log:List Ent) (hist:List (List OpP)) (known:Nat) (g:Gh) (cut' :Bool) (left' :Int) (log' :List Ent) (down' :Bool) (hist' :List (List OpP)) (known' :Nat) (w' :World):Prop where
 bi: ∃D' s' g',BI w' bb db D' cut' left' log' down' hist' known' s' g' /\Grows g g' bb w
 fr:Fr (fun k=>g.foot bb k\/k=db) w w'
theorem okL_small {l:List OpP} (h:okL l=true): ∀o∈l,o.key.word.size<=100000/\o.value.size<=100000:=fun o ho=>by
 have h1:=List.all_eq_true.1 (okL_iff.1 h).2 o ho
 have h2:=(wfkey (op_key h1)).2
 rcases op_value h1 with h3|h3
 · omega
 · unfold wordB at h3;simp at h3;omega
theorem writeT_len {l:List OpP} (h:okL l=true):(writeT l).length<=10000:=
 entT_len (s:=([],0)) (s' :=([l],0)) (e:= .tx l) (by simp only[stepE];rw[if_pos ⟨h,by decide⟩];rfl) (by decide)
theorem opsAt_fr {F:Nat->Prop} {w X:World} {ao:Option Addr} {l:List OpP} (hl:opsAt w ao l) (hf:Fr F w X) (h: ∀b f,ao=some ⟨b,f,none⟩-> ¬F b):opsAt X ao l:=fun i o hi=>by
 obtain⟨b,f,e,hc⟩:=hl i o hi
 exact⟨b,f,e,fun j u hj=>hf.cell (hc j u hj) (h b f e)⟩
section
variable {bb db:Nat} {D:List ByteArray} {cut:Bool} {left:Int} {log:List Ent} {down:Bool} {hist:List (List OpP)} {known:Nat} {s:Pst} {g:Gh}
theorem BN.same {w w' :World} (h:BI w bb db D cut left log down hist known s g) (hb:Below w.heap.size w w'):BN w bb db cut left log hist known g cut left log down hist known w' :=
 ⟨⟨D,s,g,h.below hb,Grows.refl _ _ _⟩,Fr.new hb⟩
set_option maxRecDepth 100000 in
set_option maxHeartbeats 4000000 in
theorem bcommit_room (ao:Option Addr) (c:Nat) (l:List OpP) (torn:Int) (w:World) (h:BI w bb db D cut left log down hist known s g) (hr:roomE down log.length≠0):
  Calls Tryz.prog 124 #[.pointer (some ⟨bb,0,none⟩),.slice ao l.length c,.int .i64 torn] w fun e w' =>e= .returned (errN (roomE down log.length))/\w=w' :=by
 have hR:=broom_any w h.p h.says.ll
 generalize roomE down log.length=n at*
 rw[errN_of hr] at hR ⊢
 unfold errV at hR ⊢
 have HR:=Lib.hid hR
 clear hR h hr
 go_enter Tryz.func124,Tryz.ntmps124
 go_wp2_with (go_at_call 183;(with_reducible refine HR.out.mono ?_);rintro e w1 ⟨rfl,rfl⟩)
 go_ret
 exact⟨rfl,rfl⟩
set_option maxRecDepth 100000 in
set_option maxHeartbeats 4000000 in
theorem bcommit_bad (ao:Option Addr) (c:Nat) (l:List OpP) (torn:Int) (w:World) (h:BI w bb db D cut left log down hist known s g) (hr:roomE down log.length=0) (hl:opsAt w ao l) (hm:l.length<=maxLen) (hs: ∀o∈l,o.key.word.size<=100000/\o.value.size<=100000) (hp:PowTab w) (hok:okL l=false):
  Calls Tryz.prog 124 #[.pointer (some ⟨bb,0,none⟩),.slice ao l.length c,.int .i64 torn] w fun e w' =>(∃v,e= .returned v/\ErrIs w' v (writeR l).2.1 (writeR l).2.2)/\Below w.heap.size w w' :=by
 have hR:=broom_any w h.p h.says.ll
 rw[hr] at hR
 have e0:errN 0= .nilIface:=rfl
 rw[e0] at hR
 have hFW:=fwrite_any ao c l w hl hm hs hp
 have hne:=okL_not hok
 have HR:=Lib.hid hR
 have HFW:=Lib.hid hFW
 have HNE:=Lib.hid hne
 clear hR hFW h hr hl hs hp hok hne e0
 go_enter Tryz.func124,Tryz.ntmps124
 go_wp2_with (first
  | (go_at_call 183;(with_reducible refine HR.out.mono ?_);rintro e w1 ⟨rfl,rfl⟩)
  | (go_at_call 162;(with_reducible refine HFW.out.mono ?_);rintro e w2 ⟨⟨v,rfl,hv,hn⟩,b2⟩;rcases hn with ⟨_,h0⟩|⟨⟨t,p,rfl⟩,_⟩;(exact absurd h0 HNE.out);have HV:=Lib.hid hv;have HB:=Lib.hid b2;clear hv b2))
 go_ret
 exact⟨⟨_,rfl,HV.out⟩,HB.out⟩
set_option maxRecDepth 100000 in
set_option maxHeartbeats 4000000 in
theorem bcommit_off (ao:Option Addr) (c:Nat) (l:List OpP) (torn:Int) (w:World) (h:BI w bb db D cut left log down hist known s g) (hr:roomE down log.length=0) (hl:opsAt w ao l) (hp:PowTab w) (hok:okL l=true) (ho:offB cut left=true) (ht:i64 torn):
  Calls Tryz.prog 124 #[.pointer (some ⟨bb,0,none⟩),.slice ao l.length c,.int .i64 torn] w fun e w' =>e= .returned (errV 14)/\BN w bb db cut left log hist known g cut left log true hist known w' :=by
 obtain⟨hc,h0⟩:cut=true/\left=0:=by unfold offB at ho;simpa using ho
 subst hc
 subst h0
 have hlog:log.length<150:=by
  unfold roomE at hr
  split at hr
  · exact absurd hr (by decide)
  · split at hr
    · exact absurd hr (by decide)
    · omega
 have hR:=broom_any w h.p h.says.ll
 rw[hr] at hR
 have e0:errN 0= .nilIface:=rfl
 rw[e0] at hR
 obtain⟨hlen,hall⟩:=okL_iff.1 hok
 have hwr:=okL_write hok
 have hsz: ∀o∈l,o.key.word.size<=100000/\o.value.size<=100000:=okL_small hok
 have hm:l.length<=maxLen:=by unfold maxLen;omega
 have hFW:=fwrite_any ao c l w hl hm hsz hp
 rw[hwr] at hFW
 obtain⟨S,hS⟩: ∃S:ByteArray,S=⟨(writeT l).toArray⟩:=⟨_,rfl⟩
 have hA:=fun(X:World) (hX:Below w.heap.size w X)=>badd_off (writeT l) torn X (h.below hX) (writeT_len hok) (writeT_bar hall) hlog ht (hp.below hX)
 rw[<-hS] at hA hFW
 unfold errV at hA ⊢
 have HR:=Lib.hid hR
 have HFW:=Lib.hid hFW
 have HA:=Lib.hid hA
 have H:=Lib.hid h
 clear hR hFW h hr hl hsz hp hok e0 hA hwr hS ht hlen hall hm
 go_enter Tryz.func124,Tryz.ntmps124
 go_wp2_with (first
  | (go_at_call 183;(with_reducible refine HR.out.mono ?_);rintro e w1 ⟨rfl,rfl⟩)
  | (go_at_call 162;(with_reducible refine HFW.out.mono ?_);rintro e w2 ⟨⟨v,rfl,_,hn⟩,b2⟩;rcases hn with ⟨rfl,_⟩|⟨_,h0⟩;rotate_left;(exact absurd rfl h0);have HB:=Lib.hid b2;clear b2)
  | (go_at_call 184;(with_reducible refine(HA.out _ HB.out).mono ?_);rintro e w3 ⟨rfl,h3,h4,h5⟩;have H3:=Lib.hid h3;have H4:=Lib.hid h4;have H5:=Lib.hid h5;clear h3 h4 h5))
 go_ret
 obtain⟨D',hbd,hsy⟩:=H3.out
 exact⟨rfl,⟨⟨D',s,g,⟨H.out.pl,hsy,hbd,H4.out,H.out.k,H.out.nf,H.out.lr⟩,Grows.refl _ _ _⟩,(Fr.new HB.out).trans (H5.out.mono fun k _ e=>e.imp (fun e=> .inl e) id)⟩⟩
set_option maxRecDepth 100000 in
set_option maxHeartbeats 4000000 in
theorem bcommit_ok (ao:Option Addr) (c:Nat) (l:List OpP) (torn:Int) (w:World) (h:BI w bb db D cut left log down hist known s g) (hr:roomE down log.length=0) (hl:opsAt w ao l) (hsep: ∀b f,ao=some ⟨b,f,none⟩-> ¬g.foot bb b/\b≠db) (hp:PowTab w) (hpt: ∀X:World,Fr (fun k=>k=bb\/k=db) w X->PowTab X) (hok:okL l=true) (ho:offB cut left=false):
  Calls Tryz.prog 124 #[.pointer (some ⟨bb,0,none⟩),.slice ao l.length c,.int .i64 torn] w fun e w' =>e= .returned .nilIface/\ ∃l2,BN w bb db cut left log hist known g cut l2 (log++ [.tx l]) down (hist++ [l]) known w' /\(cut=true->l2=left-1):=by
 have hlog:log.length<150:=by
  unfold roomE at hr
  split at hr
  · exact absurd hr (by decide)
  · split at hr
    · exact absurd hr (by decide)
    · omega
 have h150:hist.length<150:=Nat.lt_of_le_of_lt (playE_len h.pl).1 hlog
 have hR:=broom_any w h.p h.says.ll
 rw[hr] at hR
 have e0:errN 0= .nilIface:=rfl
 rw[e0] at hR
 obtain⟨hlen,hall⟩:=okL_iff.1 hok
 have hwr:=okL_write hok
 have hsz: ∀o∈l,o.key.word.size<=100000/\o.value.size<=100000:=okL_small hok
 have hm:l.length<=maxLen:=by unfold maxLen;omega
 have hFW:=fwrite_any ao c l w hl hm hsz hp
 rw[hwr] at hFW
 obtain⟨S,hS⟩: ∃S:ByteArray,S=⟨(writeT l).toArray⟩:=⟨_,rfl⟩
 have hne:=h.ne
 have ho2:cut=true->left≠0:=fun hc h0=>by rw[hc,h0] at ho;exact absurd ho (by decide)
 have hA:=fun(X:World) (hX:Below w.heap.size w X)=>badd_ok (writeT l) torn X (h.below hX) (writeT_len hok) hlog ho2 (hp.below hX)
 rw[<-hS] at hA hFW
 have hSy:=h.says.more (e:= .tx l) (by have:=writeT_len hok;show(writeT l).length<=50000;omega) hlog h.dk.len
 have hCM:=fun(X:World) (hf:Fr (fun k=>k=bb\/k=db) w X) (hX:PastIs X bb 1 (BR db (log.length+1) down) hist s g)=>commit_is ao c l bb 1 _ hist s g X hX (opsAt_fr hl hf fun b f e=>by obtain⟨h1,h2⟩:=hsep b f e;exact fun e' =>e'.elim (fun e' =>h1 (.inl e')) h2) (fun b f e=>(hsep b f e).1) (hpt X hf) hok h150
 have HR:=Lib.hid hR
 have HFW:=Lib.hid hFW
 have HA:=Lib.hid hA
 have H:=Lib.hid h
 have HCM:=Lib.hid hCM
 have HSY:=Lib.hid hSy
 have HOK:=Lib.hid hok
 clear hR hFW h hr hl hsz hp hok e0 hA hwr hS hlen hall hm hCM hSy hsep
 go_enter Tryz.func124,Tryz.ntmps124
 go_wp2_with (first
  | (go_at_call 183;(with_reducible refine HR.out.mono ?_);rintro e w1 ⟨rfl,rfl⟩)
  | (go_at_call 162;(with_reducible refine HFW.out.mono ?_);rintro e w2 ⟨⟨v,rfl,_,hn⟩,b2⟩;rcases hn with ⟨rfl,_⟩|⟨_,h0⟩;rotate_left;(exact absurd rfl h0);have HB:=Lib.hid b2;clear b2)
  | (go_at_call 184;(with_reducible refine(HA.out _ HB.out).mono ?_);rintro e w3 ⟨rfl,h3,h4,h5⟩;have H3:=Lib.hid h3;have H4:=Lib.hid h4;have H5:=Lib.hid ((Fr.new HB.out).trans h5);clear h3 h4 h5)
  | (go_at_call 114;(with_reducible refine(HCM.out _ H5.out H4.out).mono ?_);rintro e w4 ⟨s',g',rfl,h6,h7,h8,h9⟩;have H6:=Lib.hid h6;have H7:=Lib.hid h7;have H8:=Lib.hid h8;have H9:=Lib.hid h9;clear h6 h7 h8 h9))
 go_ret
 obtain⟨l2,hbd,hl2⟩:=H3.out
 refine⟨rfl,l2,⟨⟨_,s',g',⟨?_,HSY.out,hbd.frame H8.out H.out.nf,by rw[List.length_append,List.length_singleton];exact H6.out,H7.out.trans H.out.k,fun hk=> ?_,fun hc=> ?_⟩,fun k hk=> ?_⟩,(H5.out.mono fun k _ e=>e.imp (fun e=> .inl e) id).next H8.out fun k _ e=> .inl e⟩,hl2⟩
 · rw [playE_snoc,H.out.pl]
   simp only[Option.bind_some,stepE]
   rw[if_pos ⟨HOK.out,h150⟩]
 · rcases H9.out db hk with e|e
   · exact H.out.nf e
   · have:=hbd.lt;omega
 · have h1:=H.out.lr hc
   have h2:=ho2 hc
   have h3:=hl2 hc
   omega
 · rcases H9.out k hk with e|e
   · exact .inl e
   · exact .inr (Nat.le_trans H5.out.size e)
theorem room_lt {down:Bool} {n:Nat} (h:roomE down n=0):n<150:=by
 unfold roomE at h
 split at h
 · exact absurd h (by decide)
 · split at h
   · exact absurd h (by decide)
   · omega
set_option maxRecDepth 100000 in
set_option maxHeartbeats 4000000 in
theorem bforget_room (a torn:Int) (w:World) (h:BI w bb db D cut left log down hist known s g) (hr:roomE down log.length≠0):
  Calls Tryz.prog 131 #[.pointer (some ⟨bb,0,none⟩),.int .i64 a,.int .i64 torn] w fun e w' =>e= .returned (errN (roomE down log.length))/\w=w' :=by
 have hR:=broom_any w h.p h.says.ll
 generalize roomE down log.length=n at*
 rw[errN_of hr] at hR ⊢
 unfold errV at hR ⊢
 have HR:=Lib.hid hR
 clear hR h hr
 go_enter Tryz.func131,Tryz.ntmps131
 go_wp2_with (go_at_call 183;(with_reducible refine HR.out.mono ?_);rintro e w1 ⟨rfl,rfl⟩)
 go_ret
 exact⟨rfl,rfl⟩
set_option maxRecDepth 100000 in
set_option maxHeartbeats 4000000 in
theorem bforget_bad (a torn:Int) (w:World) (h:BI w bb db D cut left log down hist known s g) (hr:roomE down log.length=0) (hf:forR hist.length known a≠0):
  Calls Tryz.prog 131 #[.pointer (some ⟨bb,0,none⟩),.int .i64 a,.int .i64 torn] w fun e w' =>e= .returned (errN (forR hist.length known a))/\w=w' :=by
 have hR:=broom_any w h.p h.says.ll
 rw[hr] at hR
 have e0:errN 0= .nilIface:=rfl
 rw[e0] at hR
 have hN:=pnow_any bb 1 _ s g w h.p.at'
 have hK:=pknown_any bb 1 _ s g w h.p.at'
 rw[h.p.now] at hN
 rw[h.k] at hK
 have hbl:=(base_cells h.p).2.2.2.2
 have hE:errN (forR hist.length known a)=errV (forR hist.length known a):=errN_of hf
 rw[hE]
 have HR:=Lib.hid hR
 have HN:=Lib.hid hN
 have HK:=Lib.hid hK
 clear hR hN hK h hr hE e0
 unfold forR at hf ⊢
 unfold errV
 by_cases h0:a<0
 · rw [if_pos (.inl h0)]
   clear hf
   go_enter Tryz.func131,Tryz.ntmps131
   go_wp2_with (go_at_call 183;(with_reducible refine HR.out.mono ?_);rintro e w1 ⟨rfl,rfl⟩)
   go_ret
   exact⟨rfl,rfl⟩
 · have h0' : ¬a<0:=h0
   by_cases h1:(hist.length:Int)<a
   · have h1' :a>(hist.length:Int):=h1
     rw[if_pos (.inr h1)]
     clear hf
     go_enter Tryz.func131,Tryz.ntmps131
     go_wp2_with (first
      | (go_at_call 183;(with_reducible refine HR.out.mono ?_);rintro e w1 ⟨rfl,rfl⟩)
      | (go_at_call 125;(with_reducible refine HN.out.mono ?_);rintro e w1 ⟨rfl,rfl⟩))
     go_ret
     exact⟨rfl,rfl⟩
   · have h1' : ¬a>(hist.length:Int):=h1
     rw[if_neg (by omega)] at hf ⊢
     by_cases h2:a<(known:Int)
     · rw [if_pos h2]
       clear hf
       go_enter Tryz.func131,Tryz.ntmps131
       go_wp2_with (first
        | (go_at_call 183;(with_reducible refine HR.out.mono ?_);rintro e w1 ⟨rfl,rfl⟩)
        | (go_at_call 125;(with_reducible refine HN.out.mono ?_);rintro e w1 ⟨rfl,rfl⟩)
        | (go_at_call 136;(with_reducible refine HK.out.mono ?_);rintro e w1 ⟨rfl,rfl⟩))
       go_ret
       exact⟨rfl,rfl⟩
     · rw [if_neg h2] at hf
       exact absurd rfl hf
theorem forR_0 {N:Nat} {known a:Int} (h:forR N known a=0):0<=a/\a<=N/\known<=a:=by
 unfold forR at h
 split at h
 · exact absurd h (by decide)
 · split at h
   · exact absurd h (by decide)
   · omega
theorem fo_bar (n:Nat):(124:UInt8)∉entT (.fo n):=entT_bar (s:=(List.replicate n [],0)) (s' :=(List.replicate n [],n)) (e:= .fo n) (by simp only[stepE];rw[if_pos ⟨Nat.zero_le _,by rw[List.length_replicate];exact Nat.le_refl _⟩])
theorem fo_len (n:Nat) (h:n<=150):(entT (.fo n)).length<=10000:=by
 have:=Lib.itoa_length_le (n:Int) (by omega) (by omega)
 show(102::32::Lib.itoa n).length<=10000
 simp only[List.length_cons]
 omega
theorem fo_text (n:Nat):(⟨#[102,32]⟩:ByteArray)++⟨(Lib.itoa n).toArray⟩=⟨(entT (.fo n)).toArray⟩:=bytes_ext (by simp[entT])
set_option maxRecDepth 100000 in
set_option maxHeartbeats 4000000 in
theorem bforget_off (a:Nat) (torn:Int) (w:World) (h:BI w bb db D cut left log down hist known s g) (hr:roomE down log.length=0) (hf:forR hist.length known a=0) (hp:PowTab w) (ho:offB cut left=true) (ht:i64 torn):
  Calls Tryz.prog 131 #[.pointer (some ⟨bb,0,none⟩),.int .i64 (a:Nat),.int .i64 torn] w fun e w' =>e= .returned (errV 14)/\BN w bb db cut left log hist known g cut left log true hist known w' :=by
 obtain⟨hc,h0⟩:cut=true/\left=0:=by unfold offB at ho;simpa using ho
 subst hc
 subst h0
 have hlog:=room_lt hr
 obtain⟨_,f1,f2⟩:=forR_0 hf
 have hl:=h.p.len
 have hR:=broom_any w h.p h.says.ll
 rw[hr] at hR
 have e0:errN 0= .nilIface:=rfl
 rw[e0] at hR
 have hN:=pnow_any bb 1 _ s g w h.p.at'
 have hK:=pknown_any bb 1 _ s g w h.p.at'
 rw[h.p.now] at hN
 rw[h.k] at hK
 have hbl:=(base_cells h.p).2.2.2.2
 have hI:=itoa_any (a:Int) (by unfold i64B;omega) w hp
 obtain⟨I,hIe⟩: ∃I:ByteArray,I=⟨(Lib.itoa a).toArray⟩:=⟨_,rfl⟩
 have hil:=Lib.itoa_length_le (a:Int) (by omega) (by omega)
 have hIs:I.size<=30:=by rw[hIe];simpa [ByteArray.size] using Nat.le_trans hil (by omega)
 have hIt:(⟨#[102,32]⟩:ByteArray)++I=⟨(entT (.fo a)).toArray⟩:=by rw[hIe];exact fo_text a
 have hA:=fun(X:World) (hX:Below w.heap.size w X)=>badd_off (entT (.fo a)) torn X (h.below hX) (fo_len a (by omega)) (fo_bar a) hlog ht (hp.below hX)
 rw[<-hIt] at hA
 rw[<-hIe] at hI
 have q1: ¬9223372036854775807<2+I.size:=by omega
 have z0: ¬(a:Int)<0:=by omega
 have z1: ¬(a:Int)>(hist.length:Int):=by omega
 have z2: ¬(a:Int)<(known:Int):=by omega
 unfold errV at hA ⊢
 have HR:=Lib.hid hR
 have HN:=Lib.hid hN
 have HK:=Lib.hid hK
 have HI:=Lib.hid hI
 have HA:=Lib.hid hA
 have H:=Lib.hid h
 clear hR hN hK hI h hr hp e0 hA hIe hIt hf ht f1 f2 hil hIs hl
 go_enter Tryz.func131,Tryz.ntmps131
 go_wp2_with (first
  | (go_at_call 183;(with_reducible refine HR.out.mono ?_);rintro e w1 ⟨rfl,rfl⟩)
  | (go_at_call 125;(with_reducible refine HN.out.mono ?_);rintro e w1 ⟨rfl,rfl⟩)
  | (go_at_call 136;(with_reducible refine HK.out.mono ?_);rintro e w1 ⟨rfl,rfl⟩)
  | (go_at_call 25;(with_reducible refine HI.out.mono ?_);rintro e w2 ⟨rfl,b2⟩;have HB:=Lib.hid b2;clear b2)
  | (go_at_call 184;(with_reducible refine(HA.out _ HB.out).mono ?_);rintro e w3 ⟨rfl,h3,h4,h5⟩;have H3:=Lib.hid h3;have H4:=Lib.hid h4;have H5:=Lib.hid h5;clear h3 h4 h5))
 go_ret
 obtain⟨D',hbd,hsy⟩:=H3.out
 exact⟨rfl,⟨⟨D',s,g,⟨H.out.pl,hsy,hbd,H4.out,H.out.k,H.out.nf,H.out.lr⟩,Grows.refl _ _ _⟩,(Fr.new HB.out).trans (H5.out.mono fun k _ e=>e.imp (fun e=> .inl e) id)⟩⟩
set_option maxRecDepth 100000 in
set_option maxHeartbeats 4000000 in
theorem bforget_ok (a:Nat) (torn:Int) (w:World) (h:BI w bb db D cut left log down hist known s g) (hr:roomE down log.length=0) (hf:forR hist.length known a=0) (hp:PowTab w) (ho:offB cut left=false):
  Calls Tryz.prog 131 #[.pointer (some ⟨bb,0,none⟩),.int .i64 (a:Nat),.int .i64 torn] w fun e w' =>e= .returned .nilIface/\ ∃l2,BN w bb db cut left log hist known g cut l2 (log++ [.fo a]) down hist a w' /\(cut=true->l2=left-1):=by
 have hlog:=room_lt hr
 obtain⟨_,f1,f2⟩:=forR_0 hf
 have hl:=h.p.len
 have hR:=broom_any w h.p h.says.ll
 rw[hr] at hR
 have e0:errN 0= .nilIface:=rfl
 rw[e0] at hR
 have hN:=pnow_any bb 1 _ s g w h.p.at'
 have hK:=pknown_any bb 1 _ s g w h.p.at'
 rw[h.p.now] at hN
 rw[h.k] at hK
 have hbl:=(base_cells h.p).2.2.2.2
 have hI:=itoa_any (a:Int) (by unfold i64B;omega) w hp
 obtain⟨I,hIe⟩: ∃I:ByteArray,I=⟨(Lib.itoa a).toArray⟩:=⟨_,rfl⟩
 have hil:=Lib.itoa_length_le (a:Int) (by omega) (by omega)
 have hIs:I.size<=30:=by rw[hIe];simpa [ByteArray.size] using Nat.le_trans hil (by omega)
 have hIt:(⟨#[102,32]⟩:ByteArray)++I=⟨(entT (.fo a)).toArray⟩:=by rw[hIe];exact fo_text a
 have ho2:cut=true->left≠0:=fun hc h0=>by rw[hc,h0] at ho;exact absurd ho (by decide)
 have hA:=fun(X:World) (hX:Below w.heap.size w X)=>badd_ok (entT (.fo a)) torn X (h.below hX) (fo_len a (by omega)) hlog ho2 (hp.below hX)
 have hSy:=h.says.more (e:= .fo a) (by have:=fo_len a (by omega);omega) hlog h.dk.len
 have hF:=fun(X:World) (hX:PastIs X bb 1 (BR db (log.length+1) down) hist s g)=>forget_is (a:Int) bb 1 _ hist s g X hX (by rw[h.k];exact f2) (by rw[hX.now];exact f1)
 rw[<-hIt] at hA
 rw[<-hIe] at hI
 have q1: ¬9223372036854775807<2+I.size:=by omega
 have z0: ¬(a:Int)<0:=by omega
 have z1: ¬(a:Int)>(hist.length:Int):=by omega
 have z2: ¬(a:Int)<(known:Int):=by omega
 have HR:=Lib.hid hR
 have HN:=Lib.hid hN
 have HK:=Lib.hid hK
 have HI:=Lib.hid hI
 have HA:=Lib.hid hA
 have HF:=Lib.hid hF
 have H:=Lib.hid h
 have HSY:=Lib.hid hSy
 have hka:known<=a/\a<=hist.length:=by omega
 clear hR hN hK hI h hr hp e0 hA hF hIe hIt hf f1 f2 hil hIs hl hSy
 go_enter Tryz.func131,Tryz.ntmps131
 go_wp2_with (first
  | (go_at_call 183;(with_reducible refine HR.out.mono ?_);rintro e w1 ⟨rfl,rfl⟩)
  | (go_at_call 125;(with_reducible refine HN.out.mono ?_);rintro e w1 ⟨rfl,rfl⟩)
  | (go_at_call 136;(with_reducible refine HK.out.mono ?_);rintro e w1 ⟨rfl,rfl⟩)
  | (go_at_call 25;(with_reducible refine HI.out.mono ?_);rintro e w2 ⟨rfl,b2⟩;have HB:=Lib.hid b2;clear b2)
  | (go_at_call 184;(with_reducible refine(HA.out _ HB.out).mono ?_);rintro e w3 ⟨rfl,h3,h4,h5⟩;have hbl3:=(base_cells h4).2.2.2.2;have H3:=Lib.hid h3;have H4:=Lib.hid h4;have H5:=Lib.hid ((Fr.new HB.out).trans h5);clear h3 h4 h5)
  | (go_at_call 112;(with_reducible refine(HF.out _ H4.out).mono ?_);rintro e w4 ⟨s',g',rfl,h6,h7,h8,h9⟩;have H6:=Lib.hid h6;have H7:=Lib.hid h7;have H8:=Lib.hid h8;have H9:=Lib.hid h9;clear h6 h7 h8 h9))
 go_ret
 obtain⟨l2,hbd,hl2⟩:=H3.out
 refine⟨rfl,l2,⟨⟨_,s',g',⟨?_,HSY.out,hbd.frame H8.out H.out.nf,by rw[List.length_append,List.length_singleton];exact H6.out,H7.out,fun hk=> ?_,fun hc=> ?_⟩,fun k hk=> ?_⟩,(H5.out.mono fun k _ e=>e.imp (fun e=> .inl e) id).next H8.out fun k _ e=> .inl e⟩,hl2⟩
 · rw [playE_snoc,H.out.pl]
   simp only[Option.bind_some,stepE]
   rw[if_pos hka]
 · rcases H9.out db hk with e|e
   · exact H.out.nf e
   · have:=hbd.lt;omega
 · have h1:=H.out.lr hc
   have h2:=ho2 hc
   have h3:=hl2 hc
   omega
 · rcases H9.out k hk with e|e
   · exact .inl e
   · exact .inr (Nat.le_trans H5.out.size e)
theorem bused_any (w:World) (h:BI w bb db D cut left log down hist known s g):Calls Tryz.prog 137 #[.pointer (some ⟨bb,0,none⟩)] w fun e w' =>e= .returned (.int .i64 (log.length:Nat))/\w=w' :=by
 obtain⟨c0,c6,c7,hfz,hbl⟩:=base_cells h.p
 clear h hfz
 go_enter Tryz.func137,Tryz.ntmps137
 go_wp2_with fail
 go_ret
 exact⟨rfl,rfl⟩
theorem bdown_any (w:World) (h:BI w bb db D cut left log down hist known s g):Calls Tryz.prog 138 #[.pointer (some ⟨bb,0,none⟩)] w fun e w' =>e= .returned (.bool down)/\w=w' :=by
 obtain⟨c0,c6,c7,hfz,hbl⟩:=base_cells h.p
 clear h hfz
 go_enter Tryz.func138,Tryz.ntmps138
 go_wp2_with fail
 go_ret
 exact⟨rfl,rfl⟩
theorem bpast_any (w:World) (h:BI w bb db D cut left log down hist known s g):Calls Tryz.prog 57 #[.pointer (some ⟨bb,0,none⟩)] w fun e w' =>e= .returned (.pointer (some ⟨bb,1,none⟩))/\w=w' :=by
 obtain⟨c0,c6,c7,hfz,hbl⟩:=base_cells h.p
 clear h hfz
 go_enter Tryz.func57,Tryz.ntmps57
 go_wp2_with fail
 go_ret
 exact⟨rfl,rfl⟩
end
end Go.Proofs.YtpgkjnebklknjaaGreatDoor
namespace Go.Proofs.YtpgkjnebklknjaaGreatDoor
open Go.RowKit Go.Deep Go.Shelf Go.Sort Go.Maps
section
variable {F F' :Nat->Prop} {X Y:World} {qb rb used:Nat} {off:Bool} {left:Int} {down:Bool} {hist:List (List OpP)} {known:Int}
end
end Go.Proofs.YtpgkjnebklknjaaGreatDoor
namespace Go.Proofs.YtpgkjnebklknjaaGreatDoor
open Go.RowKit Go.Deep Go.Shelf Go.Sort Go.Maps
def goC (down:Bool) (used:Nat) (cut:Bool) (left:Int) (b:Bool):Bool:=decide (roomE down used=0) && (b && !offB cut left)
def dnC (down:Bool) (used:Nat) (cut:Bool) (left:Int) (b:Bool):Bool:=down||(decide (roomE down used=0) && (b && offB cut left))
theorem goC_room {down:Bool} {used:Nat} {cut:Bool} {left:Int} {b:Bool} (h:roomE down used≠0):goC down used cut left b=false/\dnC down used cut left b=down:=by
 unfold goC dnC;rw[decide_eq_false h];simp
theorem goC_not {down:Bool} {used:Nat} {cut:Bool} {left:Int} {b:Bool} (h:b=false):goC down used cut left b=false/\dnC down used cut left b=down:=by
 unfold goC dnC;subst h;simp
theorem goC_off {down:Bool} {used:Nat} {cut:Bool} {left:Int} {b:Bool} (h:roomE down used=0) (hb:b=true) (ho:offB cut left=true):goC down used cut left b=false/\dnC down used cut left b=true:=by
 unfold goC dnC;rw[decide_eq_true h,hb,ho];simp
theorem goC_ok {down:Bool} {used:Nat} {cut:Bool} {left:Int} {b:Bool} (h:roomE down used=0) (hb:b=true) (ho:offB cut left=false):goC down used cut left b=true/\dnC down used cut left b=down:=by
 unfold goC dnC;rw[decide_eq_true h,hb,ho];simp
section
variable {bb db:Nat} {D:List ByteArray} {cut:Bool} {left:Int} {log:List Ent} {down:Bool} {hist:List (List OpP)} {known:Nat} {s:Pst} {g:Gh}
theorem bcommit_full (ao:Option Addr) (c:Nat) (l:List OpP) (torn:Int) (w:World) (h:BI w bb db D cut left log down hist known s g) (hl:opsAt w ao l) (hm:l.length<=maxLen) (hs: ∀o∈l,o.key.word.size<=100000/\o.value.size<=100000) (hsep:l≠ []-> ∀b f,ao=some ⟨b,f,none⟩-> ¬g.foot bb b/\b≠db) (hp:PowTab w) (hpt: ∀X:World,Fr (fun k=>k=bb\/k=db) w X->PowTab X) (ht:i64 torn):
  Calls Tryz.prog 124 #[.pointer (some ⟨bb,0,none⟩),.slice ao l.length c,.int .i64 torn] w fun e w' => ∃v l2,e= .returned v/\ErrIs w' v (comBE down log.length cut left l).1 (comBE down log.length cut left l).2∧
   BN w bb db cut left log hist known g cut l2 (if goC down log.length cut left (okL l) then log++ [.tx l] else log) (dnC down log.length cut left (okL l)) (if goC down log.length cut left (okL l) then hist++ [l] else hist) known w' /\(cut=true->l2=if goC down log.length cut left (okL l) then left-1 else left)/\((comBE down log.length cut left l).1=0->v= .nilIface):=by
 unfold comBE
 by_cases hr:roomE down log.length=0
 · rw [if_neg (by rw[hr];decide)]
   cases hok:okL l with
   | false=>
     obtain⟨e1,e2⟩:=goC_not (down:=down) (used:=log.length) (cut:=cut) (left:=left) (b:=false) rfl
     rw[e1,e2]
     refine(bcommit_bad ao c l torn w h hr hl hm hs hp hok).mono ?_
     rintro e w' ⟨⟨v,rfl,hv⟩,hb⟩
     exact⟨v,left,rfl,hv,BN.same h hb,fun _=>rfl,fun h0=>absurd (show(writeR l).2.1=0 from h0) (okL_not hok)⟩
   | true=>
     have hne:l≠ []:=fun e=>by subst e;exact absurd hok (by decide)
     cases ho:offB cut left with
     | true=>
       obtain⟨e1,e2⟩:=goC_off (b:=true) hr rfl ho
       rw[e1,e2]
       refine(bcommit_off ao c l torn w h hr hl hp hok ho ht).mono ?_
       rintro e w' ⟨rfl,hb⟩
       exact⟨_,left,rfl,.inr (.inl ⟨rfl,rfl⟩),hb,fun _=>rfl,fun h0=>absurd (show(14:Int)=0 from h0) (by decide)⟩
     | false=>
       obtain⟨e1,e2⟩:=goC_ok (b:=true) hr rfl ho
       rw[e1,e2]
       refine(bcommit_ok ao c l torn w h hr hl (hsep hne) hp hpt hok ho).mono ?_
       rintro e w' ⟨rfl,l2,hb,hl2⟩
       exact⟨_,l2,rfl,.inl ⟨rfl,rfl,rfl⟩,hb,hl2,fun _=>rfl⟩
 · obtain⟨e1,e2⟩:=goC_room (cut:=cut) (left:=left) (b:=okL l) hr
   rw[if_pos hr,e1,e2]
   refine(bcommit_room ao c l torn w h hr).mono ?_
   rintro e w' ⟨rfl,rfl⟩
   exact⟨_,left,rfl,errN_is _ _,BN.same h (Below.refl _ _),fun _=>rfl,fun h0=>absurd h0 hr⟩
theorem bforget_any (a torn:Int) (w:World) (h:BI w bb db D cut left log down hist known s g) (hp:PowTab w) (ht:i64 torn):
  Calls Tryz.prog 131 #[.pointer (some ⟨bb,0,none⟩),.int .i64 a,.int .i64 torn] w fun e w' => ∃l2,e= .returned (errN (forBE down log.length cut left hist.length known a))∧
   BN w bb db cut left log hist known g cut l2 (if goC down log.length cut left (decide (forR hist.length known a=0)) then log++ [.fo a.toNat] else log) (dnC down log.length cut left (decide (forR hist.length known a=0))) hist (if goC down log.length cut left (decide (forR hist.length known a=0)) then a.toNat else known) w' /\(cut=true->l2=if goC down log.length cut left (decide (forR hist.length known a=0)) then left-1 else left):=by
 unfold forBE
 by_cases hr:roomE down log.length=0
 · rw [if_neg (by rw[hr];decide)]
   by_cases hf:forR hist.length known a=0
   · rw [if_neg (by rw[hf];decide)]
     obtain⟨n,rfl⟩: ∃n:Nat,a=n:=⟨a.toNat,by have:=(forR_0 hf).1;omega⟩
     rw[decide_eq_true hf,Int.toNat_natCast]
     cases ho:offB cut left with
     | true=>
       obtain⟨e1,e2⟩:=goC_off (b:=true) hr rfl ho
       rw[e1,e2]
       refine(bforget_off n torn w h hr hf hp ho ht).mono ?_
       rintro e w' ⟨rfl,hb⟩
       exact⟨left,rfl,hb,fun _=>rfl⟩
     | false=>
       obtain⟨e1,e2⟩:=goC_ok (b:=true) hr rfl ho
       rw[e1,e2]
       refine(bforget_ok n torn w h hr hf hp ho).mono ?_
       rintro e w' ⟨rfl,l2,hb,hl2⟩
       exact⟨l2,rfl,hb,hl2⟩
   · obtain⟨e1,e2⟩:=goC_not (down:=down) (used:=log.length) (cut:=cut) (left:=left) (b:=decide (forR hist.length known a=0)) (decide_eq_false hf)
     rw[if_pos hf,e1,e2]
     refine(bforget_bad a torn w h hr hf).mono ?_
     rintro e w' ⟨rfl,rfl⟩
     exact⟨left,rfl,BN.same h (Below.refl _ _),fun _=>rfl⟩
 · obtain⟨e1,e2⟩:=goC_room (cut:=cut) (left:=left) (b:=decide (forR hist.length known a=0)) hr
   rw[if_pos hr,e1,e2]
   refine(bforget_room a torn w h hr).mono ?_
   rintro e w' ⟨rfl,rfl⟩
   exact⟨left,rfl,BN.same h (Below.refl _ _),fun _=>rfl⟩
end
section
variable {F:Nat->Prop} {qb rb used:Nat} {off:Bool} {left:Int} {down:Bool} {hist:List (List OpP)} {known:Nat}
end
end Go.Proofs.YtpgkjnebklknjaaGreatDoor
