/-Plain law of a session:what stands,what each line says. -/
import Derived.Deep.RegionLaw
import Derived.Test.YtpgkjnebklknjaaGreatDoorWkIJr
import Derived.Test.YtpgkjnebklknjaaGreatDoorRpTJr
import Derived.Test.YtpgkjnebklknjaaGreatDoorWqCJr
import Derived.Test.YtpgkjnebklknjaaGreatDoorFcEJr
import Derived.Test.YtpgkjnebklknjaaGreatDoorWqGJr
import Derived.Test.YtpgkjnebklknjaaGreatDoorTreeRJr
import Derived.Test.YtpgkjnebklknjaaGreatDoorBaGJr
import Derived.Test.YtpgkjnebklknjaaGreatDoorDkOJr
namespace Go.Proofs.YtpgkjnebklknjaaGreatDoor
open Go.RowKit Go.Deep Go.Shelf Go.Sort Go.Maps Go.WideMaps
structure KeyOk (k:KeyP):Prop where
 kind:i64 k.kind
 a:i64 k.a
 b:i64 k.b
 word:k.word.size<=maxLen
theorem KeyOk.of {k:KeyP} (h:keyB k=true):KeyOk k:=by
 obtain⟨⟨h1,h2,h3⟩,h4⟩:=wfkey h
 exact⟨h1,h2,h3,by unfold maxLen;omega⟩
set_option maxRecDepth 100000 in
theorem key_litsG (n:Nat) (k:KeyP) (h:KeyOk k):Tryz.prog.keyLits (n+2) 97 [.int .i64 k.kind,.int .i64 k.a,.string k.word,.int .i64 k.b]=some (keyLs k):=by
 have w1:=wfI h.kind
 have w2:=wfI h.a
 have w3:=wfI h.b
 have w4:=h.word
 simp[Program.keyLits,Tryz.underlying97,Tryz.underlying3,Tryz.underlying9,cellsKey,cellsIntO,cellsStrO,w1,w2,w3,w4,keyLs]
theorem keyOf_keyG {k:KeyP} (h:KeyOk k):keyOf Tryz.prog 97 (keyV k)=some (kK k):=by
 obtain⟨n,hn⟩:=key_sizes
 have hf:(keyV k).formed Tryz.prog 97=true:=by
  unfold keyV Value.formed;simp only[Tryz.underlying97,cellsKey];rfl
 unfold keyOf
 rw[Tryz.underlying97]
 simp only[key_keyType,hf,Bool.and_self,if_true,hn]
 show((Tryz.prog.keyLits (n+1+1) 97 [.int .i64 k.kind,.int .i64 k.a,.string k.word,.int .i64 k.b]).map fun ls=>Lit.string (keyBytes ls))=_
 rw[key_litsG n k h];rfl
theorem kK_injG {x y:KeyP} (hx:KeyOk x) (hy:KeyOk y) (h:kK x=kK y):x=y:=keyV_inj (keyLaw.inj (keyOf_keyG hx) (by rw[h];exact keyOf_keyG hy))
def lookK (P:List (KeyP×ByteArray)) (k:KeyP):Option ByteArray:=(P.find? fun p=>decide (p.1=k)).map (·.2)
theorem GP.look {w:World} {gb:Nat} {P:List (KeyP×ByteArray)} (h:GP w gb P) {k:KeyP} (hk:KeyOk k): ∃pb,w.cell? ⟨gb,2,none⟩=some (.map (some pb))∧
  (Instr.lookup 185 (.map (some pb)) (.agg #[.int .i64 k.kind,.int .i64 k.a,.string k.word,.int .i64 k.b]) true).run Tryz.prog w= .ok (.tuple #[.string ((lookK P k).getD ⟨#[]⟩),.bool (lookK P k).isSome]) w:=by
 obtain⟨v0,v1,pb,D,n,h1,hown,hD⟩:=h.own
 refine⟨pb,block_cell h1 2,?_⟩
 obtain⟨u,ps,hr,hu⟩:=hown.look_ok keyLaw Tryz.underlying185 (zeroStrW w) (strVT.put ⟨#[]⟩) (keyOf_keyG hk)
 obtain⟨b',rfl,e1⟩:=strVT.inv _ _ hu
 simp only[Prod.mk.injEq] at e1
 unfold lookK
 cases hf:P.find? fun p=>decide (p.1=k) with
 | some p=>
   have hp:=List.mem_of_find?_eq_some hf
   have he:p.1=k:=by simpa using List.find?_some hf
   have e2:=hD.at' p hp (strD ⟨#[]⟩)
   rw[he] at e2
   have e3:b' =p.2:=strVT.inj _ _ (e1.1.symm.trans e2)
   have e4:Maps.has D (kK k)=true:=(hD.has _ (kK_key _)).2 ⟨p,hp,by rw[he]⟩
   rw[e3,e4] at hr
   exact hr
 | none=>
   have hn: ∀p∈P,kK p.1≠kK k:=fun p hp e=>by
    have:=List.find?_eq_none.1 hf p hp
    have e2:=kK_injG (KeyOk.of (h.key p hp)) hk e
    simp[e2] at this
   have e4:Maps.has D (kK k)=false:=hD.none (kK_key _) hn
   have e3:b' =⟨#[]⟩:=strVT.inj _ _ (e1.1.symm.trans (atKey_of_not_has e4 _))
   rw[e3,e4] at hr
   exact hr
def propG (N:List (Int×ByteArray)) (P:List (KeyP×ByteArray)) (n:Int) (word:ByteArray):ByteArray×Int:=
 if (N.lookup n).isSome=true then (match lookK P ⟨3,n,word,0⟩ with|some v=>(v,0)|none=>(⟨#[]⟩,8)) else (⟨#[]⟩,7)
set_option maxRecDepth 100000 in
set_option maxHeartbeats 2000000 in
theorem gprop_any (n:Int) (word:ByteArray) (w:World) {gb nb:Nat} {eo:Option Addr} {N:List (Int×ByteArray)} {E:List KeyP} {P:List (KeyP×ByteArray)} (hG:GAt w gb nb eo N E) (hP:GP w gb P) (hn:i64 n) (hw:word.size<=maxLen):
  Calls Tryz.prog 140 #[.pointer (some ⟨gb,0,none⟩),.int .i64 n,.string word] w fun e w' =>e= .returned (.tuple #[.string (propG N P n word).1,errN (propG N P n word).2])/\w=w' :=by
 obtain⟨ec,c0,c1,hgl⟩:=hG.cells
 obtain⟨nn,hN⟩:=hG.nod
 obtain⟨pb,c2,hl2⟩:=hP.look (k:=⟨3,n,word,0⟩) ⟨by show i64 3;unfold i64;omega,hn,by show i64 0;unfold i64;omega,hw⟩
 have hlk:=hN.look_ok strVT Tryz.underlying184 ⟨#[]⟩ (zeroStrW w) hn
 have hQ:propG N P n word=(if (N.lookup n).isSome=true then (match lookK P ⟨3,n,word,0⟩ with|some v=>(v,(0:Int))|none=>((⟨#[]⟩:ByteArray),(8:Int))) else ((⟨#[]⟩:ByteArray),(7:Int))):=rfl
 clear hG hN hP c1
 simp only[] at hl2
 cases ho:N.lookup n with
 | none=>
   rw[ho] at hlk hQ
   simp only[Option.getD_none,Option.isSome_none] at hlk
   have HQ:Hid (propG N P n word=(⟨#[]⟩,7)):=Lib.hid (by rw[hQ];rfl)
   clear hQ ho hl2
   go_enter Tryz.func140,Tryz.ntmps140
   go_wp2_with fail
   go_ret2
   exact⟨by rw[HQ.out];show _=Ending.returned (.tuple #[.string ⟨#[]⟩,errN 7]);rw[errN_of (by decide)];rfl,rfl⟩
 | some v0=>
   rw[ho] at hlk hQ
   simp only[Option.getD_some,Option.isSome_some] at hlk
   cases hp:lookK P ⟨3,n,word,0⟩ with
   | none=>
     rw[hp] at hl2 hQ
     simp only[Option.getD_none,Option.isSome_none] at hl2
     have HQ:Hid (propG N P n word=(⟨#[]⟩,8)):=Lib.hid (by rw[hQ];rfl)
     clear hQ ho hp
     go_enter Tryz.func140,Tryz.ntmps140
     go_wp2_with fail
     go_ret2
     exact⟨by rw[HQ.out];show _=Ending.returned (.tuple #[.string ⟨#[]⟩,errN 8]);rw[errN_of (by decide)];rfl,rfl⟩
   | some v=>
     rw[hp] at hl2 hQ
     simp only[Option.getD_some,Option.isSome_some] at hl2
     have HQ:Hid (propG N P n word=(v,0)):=Lib.hid (by rw[hQ];rfl)
     clear hQ ho hp
     go_enter Tryz.func140,Tryz.ntmps140
     go_wp2_with fail
     go_ret2
     exact⟨by rw[HQ.out];rfl,rfl⟩
set_option maxRecDepth 100000 in
set_option maxHeartbeats 2000000 in
theorem hops_rng (x h:Int) (word:ByteArray) (w:World) {gb nb:Nat} {eo:Option Addr} {N:List (Int×ByteArray)} {E:List KeyP} (hG:GAt w gb nb eo N E) (hx:i64 x) (hin:(N.lookup x).isSome=true) (hh: ¬(0<=h/\h<=1048576)):
  Calls Tryz.prog 132 #[.pointer (some ⟨gb,0,none⟩),.int .i64 x,.string word,.int .i64 h] w fun e w' =>e= .returned (.tuple #[.slice none 0 0,errV 2])/\w=w' :=by
 obtain⟨ec,c0,c1,hgl⟩:=hG.cells
 obtain⟨nn,hN⟩:=hG.nod
 have hlk:=hN.look_ok strVT Tryz.underlying184 ⟨#[]⟩ (zeroStrW w) hx
 rw[hin] at hlk
 obtain⟨v0,hv0⟩: ∃v0,v0=(N.lookup x).getD ⟨#[]⟩:=⟨_,rfl⟩
 rw[<-hv0] at hlk
 clear hG hN hin c1 hv0
 unfold errV
 by_cases h0:h<0
 · clear hh
   go_enter Tryz.func132,Tryz.ntmps132
   go_wp2_with fail
   go_ret2
   exact⟨rfl,rfl⟩
 · have h1:h>1048576:=by omega
   clear hh
   go_enter Tryz.func132,Tryz.ntmps132
   go_wp2_with fail
   go_ret2
   exact⟨rfl,rfl⟩
open Go.RowKit Go.Deep Go.Shelf Go.Sort Go.Maps
def nodesN (N:List (Int×ByteArray)) (kind:ByteArray):List Int:=(N.filter fun p=>decide (kind.size=0)||decide (p.2=kind)).map (·.1)
def kindB (N:List (Int×ByteArray)) (kind:ByteArray) (y:Int):Bool:=decide (kind.size=0)||decide ((N.lookup y).getD ⟨#[]⟩=kind)
theorem lookup_keysS {F:List (Int×ByteArray)} (hn:(F.map (·.1)).Nodup) {y:Int} {v:ByteArray} (h:(y,v)∈F):F.lookup y=some v:=by
 induction F with
 | nil=>cases h
 | cons p F ih=>
   obtain⟨a,b⟩:=p
   rw[List.map_cons,List.nodup_cons] at hn
   rw[List.lookup_cons]
   rcases List.mem_cons.1 h with e|e
   · cases e;simp
   · have:y≠a:=fun e' =>hn.1 (List.mem_map.2 ⟨(y,v),e,e'⟩)
     have h2:(y==a)=false:=by simpa using this
     rw[h2]
     exact ih hn.2 e
theorem kind_nodes {N:List (Int×ByteArray)} (hn:(N.map (·.1)).Nodup) (kind:ByteArray) {U:List Int} (hU:U.Perm (N.map (·.1))):(U.filter (kindB N kind)).Perm (nodesN N kind):=by
 refine(hU.filter _).trans ?_
 rw[List.filter_map]
 unfold nodesN
 have e:(N.filter (kindB N kind∘fun x=>x.1))=N.filter fun p=>decide (kind.size=0)||decide (p.2=kind):=by
  refine List.filter_congr fun p hp=> ?_
  show kindB N kind p.1=_
  unfold kindB
  rw[lookup_keysS hn (y:=p.1) (v:=p.2) hp]
  rfl
 rw[e]
set_option maxRecDepth 100000 in
set_option maxHeartbeats 8000000 in
theorem gnodes_any (kind:ByteArray) (w:World) {gb nb:Nat} {eo:Option Addr} {N:List (Int×ByteArray)} {E:List KeyP} (hG:GAt w gb nb eo N E):
  Calls Tryz.prog 135 #[.pointer (some ⟨gb,0,none⟩),.string kind] w fun e w' => ∃ao cap,e= .returned (.slice ao (sortI (nodesN N kind)).length cap)/\IntsIn w' ao (sortI (nodesN N kind))/\Below w.heap.size w w' :=by
 obtain⟨ec,c0,c1,hgl⟩:=hG.cells
 obtain⟨nn,hN⟩:=hG.nod
 have hnd:=hG.nnd
 have hNl:=hG.nlen
 obtain⟨D,hown,hD⟩:=hN.own
 have hnb:nb<w.heap.size:=hown.lt
 have hhas: ∀y∈N.map (·.1),Maps.has D (kI y)=true:=fun y hy=>by obtain⟨p,hp,rfl⟩:=List.mem_map.1 hy;exact(hD.has _ kI_key).2 ⟨p,hp,rfl⟩
 have hsz:=hD.size
 have hrng:=hN.rng
 have HST:=Lib.hid (TI.start (M:=N.map (·.1)) hhas)
 have HD:=Lib.hid hD
 have HSZ:=Lib.hid hsz
 have HRNG:=Lib.hid hrng
 have HNOD:=Lib.hid hnd
 have HKS:Hid (kind.size=0\/kind.size≠0):=Lib.hid (Decidable.em _)
 clear hhas hD hsz hrng hG hN c1 hnd
 go_enter Tryz.func135,Tryz.ntmps135
 go_wp2_with (at_range;refine wpList_range_own _ rfl _ 184 rfl 3 9 intLaw Tryz.underlying184 strR nb nn D rfl hown ?_;intro w5 hrg hgr hs5)
 try go_frame
 have hB5:Below w.heap.size w w5:=⟨hgr.os,hgr.tape,hgr.output,hgr.size,fun i hi' =>hgr.block i hi' (by simp)⟩
 obtain⟨r,hr⟩: ∃r,r=w.heap.size:=⟨_,rfl⟩
 have hrg' :w5.ranges Tryz.prog 3 strR nb r nn D (Maps.has D) (Maps.size D):=by rw[hr];exact hrg
 have HB5:=Lib.hid hB5
 have HRG' :=Lib.hid hrg'
 have HS5:=Lib.hid hs5
 have HRE:=Lib.hid hr
 have hmr:nb<r:=by rw[hr];exact hnb
 rw[<-hr]
 clear hgr hB5 hrg hs5 hown hrg' hr
 go_loopw [5] (fun v X=> ∃(left:Lit->Bool) (cnt:Nat) (U:List Int),X.ranges Tryz.prog 3 strR nb r nn D left cnt/\TI (N.map (·.1)) left U/\U.length+cnt<=N.length/\X.ownsRow (r+1) 3 1 v (U.filter (kindB N kind)).length ((U.filter (kindB N kind)).map (Value.int .i64))/\Below r w X/\r<X.heap.size/\(∀q,left q=true->Maps.has D q=true)) (fun _ X=>X.rangeLeft nb r)
 case atStart=>exact⟨_,_,[],HRG'.out,HST.out,by rw[HSZ.out];simp,World.ownsRow_nil _ _ _ _,by rw[HRE.out];exact HB5.out,by have:=HS5.out;have:=HRE.out;omega,fun _ e=>e⟩
 case round=>
  obtain⟨left,cnt,U,hrg,hTL,hcnt,hownU,hBr,hrl,hsub⟩:=hrel
  have HTL:=Lib.hid hTL
  have HBR:=Lib.hid hBr
  have HSUB:=Lib.hid hsub
  have HRGW:=Lib.hid hrg
  have hul:(U.filter (kindB N kind)).length<=U.length:=List.length_filter_le _ _
  clear hTL hBr hsub
  go_wp2_with (at_next;refine wpList_next_raw _ rfl _ rfl 3 intLaw strR nb r nn D left cnt rfl hrg ?_ ?_)
  · intro hc0 hl0
    have hperm:=kind_nodes HNOD.out kind (HTL.out.done hl0 HNOD.out)
    obtain⟨L,hL⟩: ∃L,L=U.filter (kindB N kind):=⟨_,rfl⟩
    rw[<-hL] at hownU hul hperm
    have CS:=Lib.hid (sortSlice_own (r+1) L _ wr hownU (by omega) (by omega))
    have hsl:sortI L=sortI (nodesN N kind):=sortI_perm hperm
    have HSL:=Lib.hid hsl
    obtain⟨ao,cap,rfl,_⟩:=ownsRow_intsIn hownU
    clear hl0 hc0 hrg hownU hperm hL hsl
    go_wp2_with (go_at_call 157;(with_reducible refine CS.out.mono ?_);rintro e w6 ⟨rfl,own6,b6⟩;have HO6:=Lib.hid own6;have B6:=Lib.hid b6;clear own6 b6)
    go_ret
    obtain⟨ao',cap',e',hin⟩:=ownsRow_intsIn HO6.out
    rw[HSL.out] at e' hin
    have hb9:Below w.heap.size w w6:=(HBR.out.trans (B6.out.mono (by omega))).mono (by rw[HRE.out];exact Nat.le_refl _)
    exact⟨ao',cap',by rw[<-e'];rfl,hin,hb9⟩
  · intro key v kl y1 y2 w6 cnt3 hkey hlk3 hv hat hrg3 hlt3 hgr3 hs3 hen
    obtain⟨p,hp,e⟩:=HD.out.got (intLaw.key hkey) (HSUB.out _ hlk3)
    obtain⟨y,d⟩:=p
    obtain⟨vb,rfl,hvb⟩:=strVT.inv _ _ hv
    have hvd:vb=d:=by
     have h1:=HD.out.at' (y,d) hp (strD ⟨#[]⟩)
     rw[e,hat (strD ⟨#[]⟩)] at h1
     exact strVT.inj _ _ ((Prod.mk.inj hvb).1.symm.trans h1)
    subst hvd
    have hyH:y∈N.map (·.1):=List.mem_map.2 ⟨_,hp,rfl⟩
    have hyr:=HRNG.out _ hp
    have hly:=lookup_keysS HNOD.out hp
    simp only[] at e hyr
    have ek:key= .int .i64 y:=intLaw.inj hkey (by rw[<-e];exact keyOf_int_mk Tryz.underlying3 (wfI hyr))
    subst ek
    have ekl:kl=kI y:=e.symm
    subst ekl
    have hF3:Fr (· =r) wr w6:=Fr.ofGrown hgr3
    have hB3:Below r w w6:=HBR.out.trans (hF3.below (B:=r) (fun k _ e=>by omega) (by omega))
    have hown3:=ownsRow_frame hownU hF3 (fun g hg e=>by omega)
    have hsub3: ∀q,(left q && !q.sameKey (kI y))=true->Maps.has D q=true:=fun q hq=>HSUB.out q (by rw[Bool.and_eq_true] at hq;exact hq.1)
    have hnear:(U++ [y]).filter (kindB N kind)=U.filter (kindB N kind)++(if kindB N kind y=true then [y] else []):=by
     rw[List.filter_append]
     congr 1
     cases h:kindB N kind y<;>simp[h]
    have HRG3:=Lib.hid hrg3
    have HB3:=Lib.hid hB3
    have HSUB3:=Lib.hid hsub3
    have HO3:=Lib.hid hown3
    have HNEAR:=Lib.hid hnear
    have hrl3:r<w6.heap.size:=by omega
    have frame: ∀W,Below (r+1) w6 W->W.ranges Tryz.prog 3 strR nb r nn D (fun z=>left z && !z.sameKey (kI y)) cnt3:=fun W hB=>ranges_frame HRG3.out (Fr.ofBelow hB) (by omega) (by omega)
    have HFRM:=Lib.hid frame
    have hrr:r+1<=w6.heap.size:=by omega
    have HN:=Lib.hid (HTL.out.yes hyH hlk3)
    have hkb:kindB N kind y=(decide (kind.size=0)||decide (vb=kind)):=by unfold kindB;rw[hly];rfl
    clear frame hrg3 hB3 hsub3 hown3 hF3 hgr3 hat hv hkey e hlk3 hs3 hp hyH hyr hly hvb hnear
    obtain⟨L,hL⟩: ∃L,L=U.filter (kindB N kind):=⟨_,rfl⟩
    rw[<-hL] at HO3 hul HNEAR
    clear hL hownU
    rcases word_cases kind vb with ⟨hw0,hz⟩|⟨hw0,hw1,hz⟩|⟨hw0,hw1,hz,hz2⟩
    case inr.inr=>
     rw[hkb,show(decide (kind.size=0)||decide (vb=kind))=false by simp[hz,hz2],if_neg (by decide),List.append_nil] at HNEAR
     clear hz hz2 hkb
     have hB8:Below (r+1) w6 w6:=Below.refl _ _
     have HB8:=Lib.hid hB8
     clear hB8
     go_wp2_with fail
     go_roundw
     case rel=>
      first
       | exact⟨_,cnt3,U++ [y],HFRM.out _ HB8.out,HN.out,by rw[List.length_append,List.length_singleton];omega,by rw[HNEAR.out];exact HO3.out,HB3.out,hrl3,HSUB3.out⟩
       | ((repeat apply Exists.intro);exact⟨⟨_,cnt3,U++ [y],HFRM.out _ HB8.out,HN.out,by rw[List.length_append,List.length_singleton];omega,by rw[HNEAR.out];exact HO3.out,HB3.out,hrl3,HSUB3.out⟩,rfl⟩)
     case measure=>rw[(HFRM.out _ HB8.out).left_eq,HRGW.out.left_eq];exact hlt3
    all_goals
     rw[hkb,show(decide (kind.size=0)||decide (vb=kind))=true by simp[hz],if_pos rfl] at HNEAR
     clear hz hkb
     go_wp2_with (at_builtin;refine appInt rfl _ _ rfl (r+1) _ L rfl (HO3.out.alloc _) w6.heap.size y rfl (by simp) (by omega) (by simp;omega) w6 ((Below.refl _ _).alloc hrr _) ?_;intro v8 w8 hown8 hB8 hs8 _)
     go_roundw
     case rel=>
      first
       | exact⟨_,cnt3,U++ [y],HFRM.out _ hB8,HN.out,by rw[List.length_append,List.length_singleton];omega,by rw[HNEAR.out];exact hown8,HB3.out.trans (hB8.mono (by omega)),by have:=hB8.size;omega,HSUB3.out⟩
       | ((repeat apply Exists.intro);exact⟨⟨_,cnt3,U++ [y],HFRM.out _ hB8,HN.out,by rw[List.length_append,List.length_singleton];omega,by rw[HNEAR.out];exact hown8,HB3.out.trans (hB8.mono (by omega)),by have:=hB8.size;omega,HSUB3.out⟩,rfl⟩)
     case measure=>rw[(HFRM.out _ hB8).left_eq,HRGW.out.left_eq];exact hlt3
theorem flat_len: ∀ {hist:List (List OpP)},(∀t∈hist,okL t=true)->hist.flatten.length<=8*hist.length
 | [],_=>Nat.le_refl _
 | l ::h,hok=>by
   have h1:=(okL_iff.1 (hok l (by simp))).1.2
   have h2:=flat_len (hist:=h) fun t ht=>hok t (List.mem_cons_of_mem _ ht)
   rw[List.flatten_cons,List.length_append,List.length_cons]
   omega
theorem keys_len {hist:List (List OpP)} (hok: ∀t∈hist,okL t=true) (hl:hist.length<=150) {n:Nat} {t:Int} {L:List KeyP} (h:KeysIs hist n t L):L.length<=1200:=by
 have hn:L.Nodup:=h.1.imp fun {a b} hab e=>by subst e;rw[keyLess_irrefl] at hab;cases hab
 have h1:=nodup_le (m:=hist.flatten.map (·.key)) hn fun k hk=>by
  obtain⟨l,h1,o,h2,h3⟩:=said_in ((h.2 k).1 hk)
  exact List.mem_map.2 ⟨o,List.mem_flatten.2 ⟨l,h1,h2⟩,h3⟩
 rw[List.length_map] at h1
 have:=flat_len hok
 omega
section
variable {F:Nat->Prop} {rb:Nat} {hist:List (List OpP)} {known:Int}
end
end Go.Proofs.YtpgkjnebklknjaaGreatDoor
namespace Go.Proofs.YtpgkjnebklknjaaGreatDoor
open Go.RowKit Go.Deep Go.Shelf Go.Sort Go.Maps
def graphV (hist:List (List OpP)) (a:Nat) (t:Int) (L:List KeyP):List (KeyP×ByteArray):=L.map fun k=>(k,saidH hist k a t)
section
variable {hist:List (List OpP)} {a:Nat} {t:Int} {L:List KeyP}
theorem find_key (k:KeyP):((graphV hist a t L).find? fun p=>decide (p.1=k))=if k∈L then some (k,saidH hist k a t) else none:=by
 unfold graphV
 induction L with
 | nil=>rfl
 | cons x L ih=>
   rw[List.map_cons,List.find?_cons]
   by_cases h:x=k
   · subst h;simp
   · have h2:decide ((x,saidH hist x a t).1=k)=false:=decide_eq_false h
     rw[h2,ih]
     have:k∈x::L↔k∈L:=⟨fun e=>(List.mem_cons.1 e).resolve_left fun e=>h e.symm,fun e=>List.mem_cons_of_mem _ e⟩
     by_cases hm:k∈L
     · rw[if_pos hm,if_pos (this.2 hm)]
     · rw[if_neg hm,if_neg (fun e=>hm (this.1 e))]
theorem ofP_graph (k:KeyP):ofP (graphV hist a t L) k=if k∈L then saidH hist k a t else ⟨#[]⟩:=by
 unfold ofP
 rw[find_key]
 split<;>rfl
theorem node_mem (hB: ∀k∈L,keyB k=true) (n:Int):n∈nodesP L↔(⟨1,n,⟨#[]⟩,0⟩:KeyP)∈L:=by
 unfold nodesP
 rw[List.mem_map]
 constructor
 · rintro⟨k,hk,rfl⟩
   obtain⟨h1,h2⟩:=List.mem_filter.1 hk
   rw[<-key_node (hB k h1) (by simpa using h2)];exact h1
 · intro h
   exact⟨_,List.mem_filter.2 ⟨h,by simp⟩,rfl⟩
theorem isN_graph (hK:KeysIs hist a t L) (hB: ∀k∈L,keyB k=true) (n:Int):isN (graphV hist a t L) n=decide (n∈nodesP L):=by
 unfold isN
 rw[ofP_graph,Bool.eq_iff_iff]
 simp only[decide_eq_true_eq]
 rw[node_mem hB]
 by_cases h:(⟨1,n,⟨#[]⟩,0⟩:KeyP)∈L
 · rw[if_pos h];exact⟨fun _=>h,fun _=>(hK.2 _).1 h⟩
 · rw[if_neg h];exact⟨fun e=>absurd rfl e,fun e=>absurd e h⟩
theorem isN_look (hK:KeysIs hist a t L) (hB: ∀k∈L,keyB k=true) (n:Int):isN (graphV hist a t L) n=((nodesV hist a t L).lookup n).isSome:=by
 rw[isN_graph hK hB,Bool.eq_iff_iff,decide_eq_true_eq,lookup_some,nodesV_fst]
theorem nodesK_graph (kind:ByteArray):nodesK (graphV hist a t L) kind=nodesN (nodesV hist a t L) kind:=by
 unfold nodesK nodesN graphV nodesV
 induction L with
 | nil=>rfl
 | cons k L ih=>
   rw[List.map_cons,List.filter_cons,List.filter_cons]
   by_cases h1:k.kind=1
   · simp only[h1,decide_true,Bool.true_and,if_true,List.map_cons,List.filter_cons]
     by_cases h2:(decide (kind.size=0)||decide (saidH hist k a t=kind))=true
     · rw[if_pos h2,if_pos h2,List.map_cons,List.map_cons,ih]
     · rw[if_neg h2,if_neg h2,ih]
   · simp only[h1,decide_false,Bool.false_and,if_false,Bool.false_eq_true]
     exact ih
theorem edges_graph (hK:KeysIs hist a t L) (hB: ∀k∈L,keyB k=true):edgesGP (graphV hist a t L) (graphV hist a t L)=edgesP L:=by
 unfold edgesGP
 have e: ∀M:List KeyP,((graphV hist a t M).filter (edgeOk (graphV hist a t L))).map (·.1)=M.filter fun k=>decide (k.kind=2) && (decide (k.a∈nodesP L) && decide (k.b∈nodesP L)):=fun M=>by
  induction M with
  | nil=>rfl
  | cons k M ih=>
    have hg:graphV hist a t (k::M)=(k,saidH hist k a t)::graphV hist a t M:=rfl
    have hk:edgeOk (graphV hist a t L) (k,saidH hist k a t)=(decide (k.kind=2) && (decide (k.a∈nodesP L) && decide (k.b∈nodesP L))):=by
     unfold edgeOk
     rw[isN_graph hK hB,isN_graph hK hB]
    rw[hg,List.filter_cons,List.filter_cons,hk]
    split
    · rw[List.map_cons,ih]
    · exact ih
 exact e L
theorem prop_graph (hK:KeysIs hist a t L) (hB: ∀k∈L,keyB k=true) (n:Int) (word:ByteArray):propP (graphV hist a t L) n word=propG (nodesV hist a t L) (propsV hist a t L) n word:=by
 unfold propP propG
 rw[isN_look hK hB]
 have hl:lookK (propsV hist a t L) ⟨3,n,word,0⟩=if (⟨3,n,word,0⟩:KeyP)∈L then some (saidH hist ⟨3,n,word,0⟩ a t) else none:=by
  have e:propsV hist a t L=graphV hist a t (L.filter fun k=>decide (k.kind=3)):=rfl
  unfold lookK
  rw[e,find_key]
  have hm:(⟨3,n,word,0⟩:KeyP)∈L.filter (fun k=>decide (k.kind=3))↔(⟨3,n,word,0⟩:KeyP)∈L:=by
   rw[List.mem_filter];exact⟨fun h=>h.1,fun h=>⟨h,by simp⟩⟩
  by_cases h:(⟨3,n,word,0⟩:KeyP)∈L
  · rw[if_pos (hm.2 h),if_pos h];rfl
  · rw[if_neg (fun e=>h (hm.1 e)),if_neg h];rfl
 rw[hl,ofP_graph]
 by_cases h:(⟨3,n,word,0⟩:KeyP)∈L
 · rw[if_pos h,if_pos h,if_neg ((hK.2 _).1 h)]
 · rw[if_neg h,if_neg h];rfl
theorem edge_ends (hB: ∀k∈L,keyB k=true): ∀k∈edgesP L,0<=k.b/\k.b∈nodesP L/\k.a∈nodesP L:=fun k hk=>by
 unfold edgesP at hk
 obtain⟨h1,h2⟩:=List.mem_filter.1 hk
 simp only[Bool.and_eq_true,decide_eq_true_eq] at h2
 refine⟨?_,h2.2.2,h2.2.1⟩
 have h3:=hB _ ((node_mem hB k.b).1 h2.2.2)
 unfold keyB nodeB at h3
 simp at h3
 omega
theorem node_i64' (hB: ∀k∈L,keyB k=true): ∀x∈nodesP L,i64 x:=fun x hx=>(key_i64 (hB _ ((node_mem hB x).1 hx))).1
end
end Go.Proofs.YtpgkjnebklknjaaGreatDoor
namespace Go.Proofs.YtpgkjnebklknjaaGreatDoor
open Go.RowKit Go.Deep Go.Shelf Go.Sort Go.Maps
set_option maxRecDepth 100000 in
set_option maxHeartbeats 2000000 in
theorem at_bad {hist:List (List OpP)} {known:Int} {w:World} {pb po:Nat} {R:Rest} {s:Pst} {g:Gh} (h:PastIs w pb po R hist s g) (hok: ∀l∈hist,okL l=true) (hk:s.gone=known) (a t:Int) (he:keyRE hist known a t≠0):
  Calls Tryz.prog 56 #[.pointer (some ⟨pb,po,none⟩),.int .i64 a,.int .i64 t] w fun e w' =>e= .returned (.tuple #[.pointer none,errV (keyRE hist known a t)])/\Below w.heap.size w w' :=by
 have HC:=Lib.hid (pkeys_same h hok hk a t)
 have hE:errN (keyRE hist known a t)=errV (keyRE hist known a t):=errN_of he
 rw[hE] at HC
 clear h hok hk he hE
 generalize keyRE hist known a t=n at*
 unfold errV at HC ⊢
 go_enter Tryz.func56,Tryz.ntmps56
 go_wp2_with (go_at_call 117;(with_reducible refine HC.out.mono ?_);rintro e w1 ⟨ao,cap,L,rfl,_,_,b1⟩;have HB:=Lib.hid b1;clear b1)
 go_ret2
 exact⟨rfl,HB.out⟩
theorem GAt.frame {F:Nat->Prop} {w w' :World} {gb nb:Nat} {eo:Option Addr} {N:List (Int×ByteArray)} {E:List KeyP} (h:GAt w gb nb eo N E) (hf:Fr F w w') (h1: ¬F gb) (h2: ¬F nb) (h3: ∀b,eo=some ⟨b,0,none⟩-> ¬F b):GAt w' gb nb eo N E:=by
 obtain⟨ec,pb,hb⟩:=h.blk
 obtain⟨n,hN⟩:=h.nod
 exact⟨⟨ec,pb,hf.keeps hb h1⟩,⟨n,hN.frame hf h2⟩,h.edg.frame hf h3,h.elen,h.eok,h.enil,h.eblk,h.nnd,h.nlen⟩
theorem GP.frame {F:Nat->Prop} {w w' :World} {gb:Nat} {P:List (KeyP×ByteArray)} (h:GP w gb P) (hf:Fr F w w') (hn: ∀b,b=gb\/(∃v0 v1,w.heap[gb]? =some (.cells #[v0,v1,.map (some b)] 187 (0,0)))-> ¬F b):GP w' gb P:=by
 obtain⟨v0,v1,pb,D,n,h1,h2,h3⟩:=h.own
 exact⟨⟨v0,v1,pb,D,n,hf.keeps h1 (hn _ (.inl rfl)),owns_frame h2 hf (hn _ (.inr ⟨v0,v1,h1⟩)),h3⟩,h.key⟩
section
variable {hist:List (List OpP)} {a:Nat} {t:Int} {L:List KeyP}
theorem ghops_doc (hK:KeysIs hist a t L) (hB: ∀k∈L,keyB k=true) (x h:Int) (word:ByteArray) (w:World) {gb nb:Nat} {eo:Option Addr} (hG:GAt w gb nb eo (nodesV hist a t L) (edgesP L)) (hx:i64 x):
  Calls Tryz.prog 132 #[.pointer (some ⟨gb,0,none⟩),.int .i64 x,.string word,.int .i64 h] w fun e w' => ∃ao cap,e= .returned (.tuple #[.slice ao (hopsR (graphV hist a t L) x word h).length cap,errN (hopE (graphV hist a t L) x h)])/\IntsIn w' ao (hopsR (graphV hist a t L) x word h)/\Below w.heap.size w w' /\(hopsR (graphV hist a t L) x word h).length<=maxLen:=by
 have hI:=isN_look hK hB x
 have hE:=edges_graph hK hB
 cases hn:isN (graphV hist a t L) x with
 | false=>
   rw[hn] at hI
   have he:hopE (graphV hist a t L) x h=7:=by unfold hopE;rw[hn];rfl
   have hr:hopsR (graphV hist a t L) x word h= []:=by unfold hopsR;rw[he];rfl
   rw[he,hr]
   refine(hops_bad x h word w hG hx (Option.not_isSome_iff_eq_none.1 (by rw[<-hI];decide))).mono ?_
   rintro e w' ⟨rfl,rfl⟩
   exact⟨none,0,by rw[errN_of (by decide)];rfl,fun j p hp=>(by cases hp),Below.refl _ _,by decide⟩
 | true=>
   rw[hn] at hI
   by_cases hh:0<=h/\h<=1048576
   · obtain⟨n,rfl⟩: ∃n:Nat,h=n:=⟨h.toNat,by omega⟩
     have he:hopE (graphV hist a t L) x n=0:=by unfold hopE;rw[hn,if_pos rfl,if_pos hh]
     have hr:hopsR (graphV hist a t L) x word n=sortI (hopP (edgesP L) word x n):=by unfold hopsR;rw[if_pos he,hE,Int.toNat_natCast]
     rw[he,hr]
     refine(hops_ok x n word w hG hx hI.symm (by omega)).mono ?_
     rintro e w' ⟨v,rfl,hown,hb⟩
     have hle:=ownsRow_len hown
     obtain⟨ao,cap,rfl,hin⟩:=ownsRow_intsIn hown
     exact⟨ao,cap,rfl,hin,hb,by first|exact hle|(rw[sortI_length];exact hle)⟩
   · have he:hopE (graphV hist a t L) x h=2:=by unfold hopE;rw[hn,if_pos rfl,if_neg hh]
     have hr:hopsR (graphV hist a t L) x word h= []:=by unfold hopsR;rw[he];rfl
     rw[he,hr]
     refine(hops_rng x h word w hG hx hI.symm hh).mono ?_
     rintro e w' ⟨rfl,rfl⟩
     exact⟨none,0,by rw[errN_of (by decide)];rfl,fun j p hp=>(by cases hp),Below.refl _ _,by decide⟩
end
end Go.Proofs.YtpgkjnebklknjaaGreatDoor
namespace Go.Proofs.YtpgkjnebklknjaaGreatDoor
open Go.RowKit Go.Deep Go.Shelf Go.Sort Go.Maps
theorem least_in {p:Int->Prop}: ∀ {l:List Int},(∃z∈l,p z)-> ∃z∈l,p z/\ ∀u∈l,p u->z<=u
 | [],h=>by obtain⟨z,hz,_⟩:=h;cases hz
 | a ::l,h=>by
   by_cases hl: ∃z∈l,p z
   · obtain⟨z,hz,hp,hm⟩:=least_in hl
     by_cases ha:p a/\a<=z
     · refine⟨a,by simp,ha.1,fun u hu hpu=> ?_⟩
       rcases List.mem_cons.1 hu with e|hu
       · rw[e];exact Int.le_refl _
       · have:=hm u hu hpu;omega
     · refine⟨z,List.mem_cons_of_mem _ hz,hp,fun u hu hpu=> ?_⟩
       rcases List.mem_cons.1 hu with e|hu
       · subst e
         have: ¬u<=z:=fun h=>ha ⟨hpu,h⟩
         omega
       · exact hm u hu hpu
   · obtain⟨z,hz,hp⟩:=h
     rcases List.mem_cons.1 hz with e|hz
     · subst e
       refine⟨z,by simp,hp,fun u hu hpu=> ?_⟩
       rcases List.mem_cons.1 hu with e|hu
       · rw[e];exact Int.le_refl _
       · exact absurd ⟨u,hu,hpu⟩ hl
     · exact absurd ⟨z,hz,hp⟩ hl
theorem rw_some {E:List KeyP} {word:ByteArray} {nodes:List Int} {y:Int} (hE: ∀k∈E,k.b∈nodes): ∀(d:Nat) (x:Int),Mn E word d x y-> ∃W,RW E word nodes y d x W
 | 0,x,h=>⟨[x],h.1,rfl⟩
 | d + 1,x,h=>by
   obtain⟨k,hk,k1,k2,k3⟩:=h.1
   have hkd:Mn E word d k.b y:=⟨k3,fun m hm g=>h.2 (m+1) (by omega) ⟨k,hk,k1,k2,g⟩⟩
   have hk1:Mn E word 1 x k.b:=⟨⟨k,hk,k1,k2,rfl⟩,fun m hm g=>by
    obtain rfl:m=0:=by omega
    have e:x=k.b:=g
    exact h.2 d (by omega) (by rw[e];exact k3)⟩
   obtain⟨z,hz,⟨h1,h2⟩,hm⟩:=least_in (p:=fun z=>Mn E word 1 x z/\Mn E word d z y) ⟨k.b,hE k hk,hk1,hkd⟩
   obtain⟨W,hW⟩:=rw_some hE d z h2
   exact⟨x::W,z,W,rfl,hz,h1,h2,fun u hu g1 g2=>hm u hu ⟨g1,g2⟩,hW⟩
theorem rw_one {E:List KeyP} {word:ByteArray} {nodes:List Int} {y:Int}: ∀ {d:Nat} {x:Int} {W W' :List Int},RW E word nodes y d x W->RW E word nodes y d x W' ->W=W'
 | 0,x,W,W',h,g=>by rw[h.2,g.2]
 | d + 1,x,W,W',⟨z,V,e,hz,h1,h2,hm,hr⟩,⟨z',V',e',hz',h1',h2',hm',hr'⟩=>by
   have a:=hm z' hz' h1' h2'
   have b:=hm' z hz h1 h2
   obtain rfl:z=z' :=by omega
   rw[e,e',rw_one hr hr']
theorem rw_in {E:List KeyP} {word:ByteArray} {nodes:List Int} {y:Int}: ∀ {d:Nat} {x:Int} {W:List Int},RW E word nodes y d x W-> ∀z∈W,z=x\/z∈nodes
 | 0, x,W,h,z,hz=>by
   rw[h.2,List.mem_singleton] at hz
   exact .inl hz
 | d + 1,x,W,⟨u,V,e,hu,_,_,_,hr⟩,z,hz=>by
   rw[e] at hz
   rcases List.mem_cons.1 hz with h|h
   · exact .inl h
   · rcases rw_in hr z h with h|h
     · exact .inr (by rw[h];exact hu)
     · exact .inr h
theorem rw_far {E:List KeyP} {word:ByteArray} {nodes:List Int} {y:Int}: ∀ {d:Nat} {x:Int} {W:List Int},RW E word nodes y d x W->Mn E word d x y-> ∀z∈W,∃m,m<=d/\Mn E word m z y
 | 0, x,W,h,hm,z,hz=>by
   rw[h.2,List.mem_singleton] at hz
   subst hz
   exact⟨0,Nat.le_refl _,hm⟩
 | d + 1,x,W,⟨u,V,e,hu,_,h2,_,hr⟩,hm,z,hz=>by
   rw[e] at hz
   rcases List.mem_cons.1 hz with h|h
   · subst h
     exact⟨d+1,Nat.le_refl _,hm⟩
   · obtain⟨m,h1,h3⟩:=rw_far hr h2 z h
     exact⟨m,by omega,h3⟩
theorem rw_nodup {E:List KeyP} {word:ByteArray} {nodes:List Int} {y:Int}: ∀ {d:Nat} {x:Int} {W:List Int},RW E word nodes y d x W->Mn E word d x y->W.Nodup
 | 0,x,W,h,_=>by rw[h.2];simp
 | d + 1,x,W,⟨u,V,e,hu,_,h2,_,hr⟩,hm=>by
   rw[e,List.nodup_cons]
   refine⟨fun hx=> ?_,rw_nodup hr h2⟩
   obtain⟨m,h1,h3⟩:=rw_far hr h2 x hx
   have:=hm.one h3
   omega
section
variable {hist:List (List OpP)} {a:Nat} {t:Int} {L:List KeyP}
theorem way_nodes (hist:List (List OpP)) (a:Nat) (t:Int) (L:List KeyP) (u:Int):u∈nodesS (graphV hist a t L)↔u∈nodesP L:=by
 unfold nodesS
 rw[<-mem_sortI,nodesK_graph]
 have :nodesN (nodesV hist a t L) ⟨#[]⟩=nodesP L:=by
  unfold nodesN
  rw[List.filter_eq_self.2 (fun p _=>by rfl),nodesV_fst]
 rw[this]
def WayPl (hist:List (List OpP)) (a:Nat) (t:Int) (L:List KeyP) (x y:Int) (word:ByteArray) (n:Int) (W:List Int):Prop:=
 ((isN (graphV hist a t L) x=false\/isN (graphV hist a t L) y=false)/\n=7/\W= [])∨
 (isN (graphV hist a t L) x=true/\isN (graphV hist a t L) y=true/\(∃d,Mn (edgesP L) word d x y/\RW (edgesP L) word (nodesS (graphV hist a t L)) y d x W)/\n=0)∨
 (isN (graphV hist a t L) x=true/\isN (graphV hist a t L) y=true/\(∀d,¬Pth (edgesP L) word d x y)/\n=8/\W= [])
theorem way_has (hB: ∀k∈L,keyB k=true) (x y:Int) (word:ByteArray): ∃n W,WayPl hist a t L x y word n W:=by
 cases hxx:isN (graphV hist a t L) x with
 | false=>exact⟨7,[],.inl ⟨.inl hxx,rfl,rfl⟩⟩
 | true=>
   cases hyy:isN (graphV hist a t L) y with
   | false=>exact⟨7,[],.inl ⟨.inr hyy,rfl,rfl⟩⟩
   | true=>
     by_cases hp: ∃d,Pth (edgesP L) word d x y
     · obtain⟨d0,hd0⟩:=hp
       obtain⟨d,_,hd⟩:=hd0.mn
       obtain⟨W,hW⟩:=rw_some (nodes:=nodesS (graphV hist a t L)) (fun k hk=>(way_nodes hist a t L _).2 (edge_ends hB k hk).2.1) d x hd
       exact⟨0,W,.inr (.inl ⟨hxx,hyy,⟨d,hd,hW⟩,rfl⟩)⟩
     · exact⟨8,[],.inr (.inr ⟨hxx,hyy,fun d h=>hp ⟨d,h⟩,rfl,rfl⟩)⟩
theorem WayPl.rng {x y:Int} {word:ByteArray} {n:Int} {W:List Int} (h:WayPl hist a t L x y word n W):0<=n/\n<=20:=by
 rcases h with ⟨_,rfl,_⟩|⟨_,_,_,rfl⟩|⟨_,_,_,rfl,_⟩<;>decide
theorem WayPl.small (hB: ∀k∈L,keyB k=true) {x y:Int} {word:ByteArray} {n:Int} {W:List Int} (h:WayPl hist a t L x y word n W) (hx:i64 x):(∀z∈W,i64 z)/\W.length<=L.length+1:=by
 rcases h with ⟨_,_,rfl⟩|⟨_,_,⟨d,hd,hW⟩,_⟩|⟨_,_,_,_,rfl⟩
 · exact⟨fun z hz=>(by cases hz),Nat.zero_le _⟩
 · have hmem: ∀z∈W,z∈x::nodesP L:=fun z hz=>(rw_in hW z hz).elim (fun e=>by rw[e];exact List.mem_cons_self) (fun h=>List.mem_cons_of_mem _ ((way_nodes hist a t L z).1 h))
   refine⟨fun z hz=> ?_,?_⟩
   · rcases List.mem_cons.1 (hmem z hz) with e|h
     · rw[e];exact hx
     · exact node_i64' hB z h
   · have h1:=nodup_le (rw_nodup hW hd) hmem
     have h2:=nodesV_len hist a t L
     have h3:(nodesP L).length=(nodesV hist a t L).length:=by rw[<-nodesV_fst hist a t L,List.length_map]
     rw[List.length_cons] at h1
     omega
 · exact⟨fun z hz=>(by cases hz),Nat.zero_le _⟩
theorem WayPl.prog (hK:KeysIs hist a t L) (hB: ∀k∈L,keyB k=true) {x y:Int} {word:ByteArray} {n:Int} {W:List Int} (h:WayPl hist a t L x y word n W) (hx:i64 x) (hy:i64 y) (w:World) (gb nb:Nat) (eo:Option Addr) (hG:GAt w gb nb eo (nodesV hist a t L) (edgesP L)):
  Calls Tryz.prog 142 #[.pointer (some ⟨gb,0,none⟩),.int .i64 x,.int .i64 y,.string word] w fun e w' => ∃ao cap,e= .returned (.tuple #[.slice ao W.length cap,errN n])/\IntsIn w' ao W/\W.length<=maxLen/\Below w.heap.size w w' :=by
 have hIx:=isN_look hK hB x
 have hIy:=isN_look hK hB y
 have hE0: ∀k∈edgesP L,0<=k.b:=fun k hk=>(edge_ends hB k hk).1
 rcases h with ⟨hb,rfl,rfl⟩|⟨hxx,hyy,⟨d,hd,hW⟩,rfl⟩|⟨hxx,hyy,hp,rfl,rfl⟩
 · cases hxx:isN (graphV hist a t L) x with
   | false=>
     rw[hxx] at hIx
     refine(way_miss1 x y word w hG hx (Option.not_isSome_iff_eq_none.1 (by rw[<-hIx];decide))).mono ?_
     rintro e w' ⟨rfl,hb'⟩
     exact⟨none,0,by rw[errN_of (by decide)];rfl,fun j p hp=>(by cases hp),by decide,by rw[hb'];exact Below.refl _ _⟩
   | true=>
     rw[hxx] at hIx
     have hyy:isN (graphV hist a t L) y=false:=hb.resolve_left (by rw[hxx];decide)
     rw[hyy] at hIy
     refine(way_miss2 x y word w hG hx hy hIx.symm (Option.not_isSome_iff_eq_none.1 (by rw[<-hIy];decide))).mono ?_
     rintro e w' ⟨rfl,hb'⟩
     exact⟨none,0,by rw[errN_of (by decide)];rfl,fun j p hp=>(by cases hp),by decide,by rw[hb'];exact Below.refl _ _⟩
 · rw [hxx] at hIx
   rw[hyy] at hIy
   refine(way_ok x y word w hG hE0 hx hy hIx.symm hIy.symm).mono ?_
   rintro e w' ⟨n,hn,hb,hm⟩
   have hF:=farS_all hn
   unfold wayP at hm
   rw[(hF.is x d).2 ⟨d,rfl,hd⟩] at hm
   obtain⟨v,rfl,hown⟩:=hm
   have hw:=rw_one hW (way_rw hF (fun k hk=>⟨hE0 k hk,(way_nodes hist a t L _).2 (edge_ends hB k hk).2.1⟩) d x hd)
   rw[Int.toNat_natCast, <-hw] at hown
   have hle:=ownsRow_len hown
   obtain⟨ao,cap,rfl,hin⟩:=ownsRow_intsIn hown
   exact⟨ao,cap,rfl,hin,hle,hb⟩
 · rw [hxx] at hIx
   rw[hyy] at hIy
   refine(way_ok x y word w hG hE0 hx hy hIx.symm hIy.symm).mono ?_
   rintro e w' ⟨n,hn,hb,hm⟩
   have hF:=farS_all hn
   have hl:(farS (edgesP L) word y n).1.lookup x=none:=by
    cases hc:(farS (edgesP L) word y n).1.lookup x with
    | none=>rfl
    | some v=>
      obtain⟨m,_,h⟩:=(hF.is x v).1 hc
      exact absurd h.1 (hp m)
   unfold wayP at hm
   rw[hl] at hm
   exact⟨none,0,by rw[errN_of (by decide)];exact hm,fun j p hp=>(by cases hp),by decide,hb⟩
end
end Go.Proofs.YtpgkjnebklknjaaGreatDoor
namespace Go.Proofs.YtpgkjnebklknjaaGreatDoor
open Go.RowKit Go.Deep Go.Shelf Go.Sort Go.Maps
open Classical in
noncomputable def pcsF (hist:List (List OpP)) (known:Int) (k:KeyP) (a:Int):List Pc:=if h: ∃L,PSpec hist known k a L then h.choose else []
theorem PSpec.is {hist:List (List OpP)} {known:Int} {k:KeyP} {a:Int} {L:List Pc} (h:PSpec hist known k a L):L=pcsF hist known k a:=by
 have e: ∃L,PSpec hist known k a L:=⟨L,h⟩
 unfold pcsF
 rw[dif_pos e]
 exact h.one e.choose_spec
open Classical in
noncomputable def evsF (hist:List (List OpP)) (known:Int) (k:KeyP) (a b f t:Int):List ByteArray:=if h: ∃L,ESpec hist known k a b f t L then h.choose else []
theorem ESpec.is {hist:List (List OpP)} {known:Int} {k:KeyP} {a b f t:Int} {L:List ByteArray} (h:ESpec hist known k a b f t L):L=evsF hist known k a b f t:=by
 have e: ∃L,ESpec hist known k a b f t L:=⟨L,h⟩
 unfold evsF
 rw[dif_pos e]
 exact h.one e.choose_spec
open Classical in
noncomputable def ksF (hist:List (List OpP)) (known a t:Int):List KeyP:=if h: ∃L,KSpec hist known a t L then h.choose else []
theorem KSpec.is {hist:List (List OpP)} {known a t:Int} {L:List KeyP} (h:KSpec hist known a t L):L=ksF hist known a t:=by
 have e: ∃L,KSpec hist known a t L:=⟨L,h⟩
 unfold ksF
 rw[dif_pos e]
 exact h.one e.choose_spec
open Classical in
noncomputable def keysF (hist:List (List OpP)) (a:Nat) (t:Int):List KeyP:=if h: ∃L,KeysIs hist a t L then h.choose else []
theorem KeysIs.is {hist:List (List OpP)} {a:Nat} {t:Int} {L:List KeyP} (h:KeysIs hist a t L):L=keysF hist a t:=by
 have e: ∃L,KeysIs hist a t L:=⟨L,h⟩
 unfold keysF
 rw[dif_pos e]
 exact h.one e.choose_spec fun _=>rfl
open Classical in
noncomputable def wayF (hist:List (List OpP)) (a:Nat) (t:Int) (L:List KeyP) (x y:Int) (word:ByteArray):Int×List Int:=
 if h: ∃q:Int×List Int,WayPl hist a t L x y word q.1 q.2 then h.choose else (7,[])
theorem wayF_is {hist:List (List OpP)} {a:Nat} {t:Int} {L:List KeyP} (hB: ∀k∈L,keyB k=true) (x y:Int) (word:ByteArray):WayPl hist a t L x y word (wayF hist a t L x y word).1 (wayF hist a t L x y word).2:=by
 obtain⟨n,W,h⟩:=way_has (hist:=hist) (a:=a) (t:=t) hB x y word
 have e: ∃q:Int×List Int,WayPl hist a t L x y word q.1 q.2:=⟨(n,W),h⟩
 unfold wayF
 rw[dif_pos e]
 exact e.choose_spec
theorem way_prog {hist:List (List OpP)} {a:Nat} {t:Int} {L:List KeyP} (hK:KeysIs hist a t L) (hB: ∀k∈L,keyB k=true) (x y:Int) (word:ByteArray) (hx:i64 x) (hy:i64 y) (w:World) (gb nb:Nat) (eo:Option Addr) (hG:GAt w gb nb eo (nodesV hist a t L) (edgesP L)):
  Calls Tryz.prog 142 #[.pointer (some ⟨gb,0,none⟩),.int .i64 x,.int .i64 y,.string word] w fun e w' => ∃ao cap,e= .returned (.tuple #[.slice ao (wayF hist a t L x y word).2.length cap,errN (wayF hist a t L x y word).1])/\IntsIn w' ao (wayF hist a t L x y word).2/\(wayF hist a t L x y word).2.length<=maxLen/\Below w.heap.size w w' :=
 (wayF_is hB x y word).prog hK hB hx hy w gb nb eo hG
theorem way_small {hist:List (List OpP)} {a:Nat} {t:Int} {L:List KeyP} (hB: ∀k∈L,keyB k=true) (x y:Int) (word:ByteArray) (hx:i64 x):(∀z∈(wayF hist a t L x y word).2,i64 z)/\(wayF hist a t L x y word).2.length<=L.length+1:=
 (wayF_is hB x y word).small hB hx
theorem wayF_rng (hist:List (List OpP)) (a:Nat) (t:Int) (L:List KeyP) (x y:Int) (word:ByteArray):0<=(wayF hist a t L x y word).1/\(wayF hist a t L x y word).1<=20:=by
 unfold wayF
 split
 · rename_i h;exact h.choose_spec.rng
 · decide
structure Dsk where
 hist:List (List OpP)
 known:Nat
 used:Nat
 down:Bool
 cut:Bool
 left:Int
 gh:List (List OpP)
 ga:Nat
 gt:Int
def dsk0:Dsk:=⟨[],0,0,false,false,0,[],0,0⟩
noncomputable def Dsk.L (s:Dsk):List KeyP:=keysF s.gh s.ga s.gt
noncomputable def Dsk.G (s:Dsk):List (KeyP×ByteArray):=graphV s.gh s.ga s.gt s.L
inductive Cm where
 | «at» |cut|edges|ever|forget|help|hops|keys|new|nodes|now| «open» |pieces|prop|value|way
def cmOf (s:ByteArray):Option Cm:=
 if s.data.toList= [97,116] then some .at
 else if s.data.toList= [99,117,116] then some .cut
 else if s.data.toList= [101,100,103,101,115] then some .edges
 else if s.data.toList= [101,118,101,114] then some .ever
 else if s.data.toList= [102,111,114,103,101,116] then some .forget
 else if s.data.toList= [104,101,108,112] then some .help
 else if s.data.toList= [104,111,112,115] then some .hops
 else if s.data.toList= [107,101,121,115] then some .keys
 else if s.data.toList= [110,101,119] then some .new
 else if s.data.toList= [110,111,100,101,115] then some .nodes
 else if s.data.toList= [110,111,119] then some .now
 else if s.data.toList= [111,112,101,110] then some .open
 else if s.data.toList= [112,105,101,99,101,115] then some .pieces
 else if s.data.toList= [112,114,111,112] then some .prop
 else if s.data.toList= [118,97,108,117,101] then some .value
 else if s.data.toList= [119,97,121] then some .way
 else none
def commitW:List UInt8:= [99,111,109,109,105,116]
def formC:Cm->List Bool
 | .at=> [true,true]
 | .cut=> [true]
 | .edges=> []
 | .ever=> [true,true,false,true,true,true,true,true]
 | .forget=> [true]
 | .help=> []
 | .hops=> [true,false,true]
 | .keys=> [true,true]
 | .new=> []
 | .nodes=> [false]
 | .now=> []
 | .open=> []
 | .pieces=> [true,true,false,true,true]
 | .prop=> [true,false]
 | .value=> [true,true,false,true,true,true]
 | .way=> [true,true,false]
abbrev Ans:=Int×List UInt8
def helpT:List UInt8:= [97,116,32,99,111,109,109,105,116,32,99,117,116,32,101,100,103,101,115,32,101,118,101,114,32,102,111,114,103,101,116,32,104,101,108,112,32,104,111,112,115,32,107,101,121,115,32,110,101,119,32,110,111,100,101,115,32,110,111,119,32,111,112,101,110,32,112,105,101,99,101,115,32,112,114,111,112,32,118,97,108,117,101,32,119,97,121]
def comD (s:Dsk) (l:List OpP):Dsk×Ans:=
 ({ s with hist:=if goC s.down s.used s.cut s.left (okL l) then s.hist++ [l] else s.hist,used:=if goC s.down s.used s.cut s.left (okL l) then s.used+1 else s.used,down:=dnC s.down s.used s.cut s.left (okL l),left:=if goC s.down s.used s.cut s.left (okL l) then s.left-1 else s.left },
  ((comBE s.down s.used s.cut s.left l).1,Lib.itoa (((if goC s.down s.used s.cut s.left (okL l) then s.hist++ [l] else s.hist).length:Nat):Int)))
def forD (s:Dsk) (a:Int):Dsk×Ans:=
 ({ s with known:=if goC s.down s.used s.cut s.left (decide (forR s.hist.length s.known a=0)) then a.toNat else s.known,used:=if goC s.down s.used s.cut s.left (decide (forR s.hist.length s.known a=0)) then s.used+1 else s.used,down:=dnC s.down s.used s.cut s.left (decide (forR s.hist.length s.known a=0)),left:=if goC s.down s.used s.cut s.left (decide (forR s.hist.length s.known a=0)) then s.left-1 else s.left },
  (forBE s.down s.used s.cut s.left s.hist.length s.known a,[102,111,114,103,101,116]))
noncomputable def actD (s:Dsk):Cm->List Int->List ByteArray->Dsk×Ans
 | .at,[a,t],_=>if keyRE s.hist s.known a t=0 then ({ s with gh:=s.hist,ga:=a.toNat,gt:=t },(0,[97,116])) else (s,(keyRE s.hist s.known a t,[]))
 | .cut,[n],_=>({ s with cut:=decide (0<=n),left:=n },(0,[99,117,116]))
 | .edges,_,_=>(s,(0,[101,100,103,101,115,32]++keysT (edgesP s.L)))
 | .ever,[k,x,y,a,b,f,t],[w]=>(s,(everRE s.hist s.known ⟨k,x,plainB w,y⟩ a b f t,[101,118,101,114,32]++Lib.join ((evsF s.hist s.known ⟨k,x,plainB w,y⟩ a b f t).map (·.data.toList)) [32]))
 | .forget,[a],_=>forD s a
 | .help,_,_=>(s,(0,helpT))
 | .hops,[n,h],[w]=>(s,(hopE s.G n h,[104,111,112,115,32]++wordsT (hopsR s.G n (plainB w) h)))
 | .keys,[a,t],_=>(s,(keyRE s.hist s.known a t,[107,101,121,115,32]++keysT (ksF s.hist s.known a t)))
 | .new,_,_=>(dsk0,(0,[110,101,119]))
 | .nodes,_,[w]=>(s,(0,[110,111,100,101,115,32]++wordsT (sortI (nodesN (nodesV s.gh s.ga s.gt s.L) (plainB w)))))
 | .now,_,_=>(s,(0,wordsT [s.hist.length,s.known,s.used]++32::boolT s.down))
 | .open,_,_=>({ s with cut:=false,down:=false,left:=0 },(0,[111,112,101,110]))
 | .pieces,[k,x,y,a],[w]=>(s,(pieRE s.hist s.known ⟨k,x,plainB w,y⟩ a,[112,105,101,99,101,115,32]++pcsT (pcsF s.hist s.known ⟨k,x,plainB w,y⟩ a)))
 | .prop,[n],[w]=>(s,((propP s.G n w).2,(propP s.G n w).1.data.toList))
 | .value,[k,x,y,a,t],[w]=>(s,((valR s.hist s.known ⟨k,x,plainB w,y⟩ a t).2,dashL (valR s.hist s.known ⟨k,x,plainB w,y⟩ a t).1))
 | .way,[x,y],[w]=>(s,((wayF s.gh s.ga s.gt s.L x y (plainB w)).1,[119,97,121,32]++wordsT (wayF s.gh s.ga s.gt s.L x y (plainB w)).2))
 | _,_,_=>(s,(3,[]))
noncomputable def doesD (s:Dsk) (c:Cm) (w:List ByteArray):Dsk×Ans:=match goW (formC c) w with
 | some q=>actD s c q.1 q.2
 | none=>(s,(3,[]))
def commitD (s:Dsk) (w:List ByteArray):Dsk×Ans:=match readF (Lib.join (w.map (·.data.toList)) [32]) with
 | some l=>comD s l
 | none=>(s,(3,[]))
noncomputable def nameD (s:Dsk) (name:ByteArray) (w:List ByteArray):Dsk×Ans:=
 if name.data.toList=commitW then commitD s w else match cmOf name with
  | some c=>doesD s c w
  | none=>(s,(3,[]))
def ansT (a:Ans):List UInt8:=if a.1=0 then a.2 else errT a.1
noncomputable def lineD (s:Dsk) (t:List UInt8):Dsk×List UInt8:=match fieldsL t with
 | []=>(s,[111,107])
 | name::w=>((nameD s name w).1,ansT (nameD s name w).2)
noncomputable def linesD:Dsk->List (List UInt8)->Dsk×List UInt8
 | s,[]=>(s,[])
 | s,t::l=>((linesD (lineD s t).1 l).1,(lineD s t).2++10::(linesD (lineD s t).1 l).2)
def trimN (t:List UInt8):List UInt8:=if t.getLast? =some 10 then t.dropLast else t
noncomputable def sessD (t:List UInt8):List UInt8:=if 20000<t.length then errT 4++ [10] else (linesD dsk0 (cutC 10 (trimN t))).2
end Go.Proofs.YtpgkjnebklknjaaGreatDoor
