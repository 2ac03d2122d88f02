/-The document's Way,where there is one. -/
import Derived.Deep.RegionHeld3
import Derived.Lib.AppendZeros
import Derived.Deep.DeepCutAuto
import Derived.DeepKeys4
import Derived.WideKeyArgs2
import Derived.Laws.EntriesVeiled
import Derived.Deep.LoopGhost
import Derived.Test.YtpgkjnebklknjaaGreatDoorTreeRJr
import Derived.Test.YtpgkjnebklknjaaGreatDoorDag3Jr
import Derived.Test.YtpgkjnebklknjaaGreatDoorPsAJr
import Derived.Test.YtpgkjnebklknjaaGreatDoorWkIJr
import Derived.Test.YtpgkjnebklknjaaGreatDoorRpJJr
import Derived.Test.YtpgkjnebklknjaaGreatDoorAppMJr
import Derived.Test.YtpgkjnebklknjaaGreatDoorErrCJr
import Derived.Test.YtpgkjnebklknjaaGreatDoorPickJr
import Derived.Test.YtpgkjnebklknjaaGreatDoorWqCJr
import Derived.Test.YtpgkjnebklknjaaGreatDoorPwMJr
namespace Go.Proofs.YtpgkjnebklknjaaGreatDoor
open Go.RowKit Go.Deep Go.Shelf Go.Sort Go.Maps
section
variable {Z w w' :World} {pb:Nat} {R:Rest} {hist:List (List OpP)} {s s' :Pst} {g g' :Gh}
end
end Go.Proofs.YtpgkjnebklknjaaGreatDoor
namespace Go.Proofs.YtpgkjnebklknjaaGreatDoor
open Go.RowKit Go.Deep Go.Shelf Go.Sort Go.Maps
theorem farS_len (E:List KeyP) (word:ByteArray) (y:Int): ∀k,(farS E word y k).2.length<=(farS E word y k).1.length
 | 0=>by simp[farS]
 | k + 1=>by
   rw[farS]
   split
   · exact farS_len E word y k
   · have:=farLine_grow E word (farS E word y k).2 ((farS E word y k).1,[])
     unfold farLine
     simp only[List.length_nil,Nat.add_zero] at this
     omega
theorem way_end {E:List KeyP} {word:ByteArray} {y d:Int} {c:List (Int×Int)×List Int} (h:FI E word y c) (hx:c.1.lookup y=some d):wayL E word c.1 y d.toNat y= [y]:=by
 rw[h.root] at hx;cases hx;rfl
theorem way_step {E:List KeyP} {word:ByteArray} {y x d:Int} {c:List (Int×Int)×List Int} (h:FI E word y c) (hE: ∀k∈E,0<=k.b) (hx:c.1.lookup x=some d) (hne:x≠y):
  0<d/\c.1.lookup (bestP E word c.1 x)=some (d-1)/\0<=bestP E word c.1 x/\wayL E word c.1 y d.toNat x=x::wayL E word c.1 y (d-1).toNat (bestP E word c.1 x):=by
 have hr:=h.rng _ (lookup_mem hx)
 simp only at hr
 have hd:0<d:=by
  rcases Int.lt_or_eq_of_le hr.1 with e|e
  · exact e
  · exact absurd ((h.ok x d hx).1 e.symm) hne
 obtain⟨h1,h2⟩:=best_ok h hE hx hd
 refine⟨hd,h1,h2,?_⟩
 obtain⟨m,hm⟩: ∃m,d.toNat=m+1:=⟨d.toNat-1,by omega⟩
 rw[hm,show(d-1).toNat=m by omega]
 show(if x=y then [x] else x::wayL E word c.1 y m (bestP E word c.1 x))=_
 rw[if_neg hne]
theorem wayL_cons (E:List KeyP) (word:ByteArray) (F:List (Int×Int)) (y:Int): ∀(n:Nat) (x:Int),wayL E word F y n x=x::(wayL E word F y n x).tail
 | 0,_=>rfl
 | n + 1,x=>by
   unfold wayL
   split<;>rfl
set_option maxRecDepth 100000 in
set_option maxHeartbeats 2000000 in
theorem way_miss1 (x y:Int) (word:ByteArray) (w:World) {gb nb:Nat} {eo:Option Addr} {N:List (Int×ByteArray)} {E:List KeyP} (hG:GAt w gb nb eo N E) (hx:i64 x) (hin:N.lookup x=none):
  Calls Tryz.prog 142 #[.pointer (some ⟨gb,0,none⟩),.int .i64 x,.int .i64 y,.string word] w fun e w' =>e= .returned (.tuple #[.slice none 0 0,errV 7])/\w' =w:=by
 obtain⟨ec,c0,c1,hgl⟩:=hG.cells
 obtain⟨nn,hN⟩:=hG.nod
 have hlk:=hN.look_ok strVT Tryz.underlying184 ⟨#[]⟩ (zeroStrW w) hx
 rw[hin] at hlk
 simp only[Option.getD_none,Option.isSome_none] at hlk
 clear hG hN hin c1
 unfold errV
 have har:=arrInt2 x y
 have ha0:=fun w=>(har w).1
 have ha1:=fun w=>(har w).2
 clear har
 go_enter Tryz.func142,Tryz.ntmps142
 go_wp2_with fail
 refine wp_loop_rounds 1 ?_
 rw[rounds_succ]
 go_wp2_with fail
 go_ret2
 exact⟨rfl,rfl⟩
set_option maxRecDepth 100000 in
set_option maxHeartbeats 2000000 in
theorem way_miss2 (x y:Int) (word:ByteArray) (w:World) {gb nb:Nat} {eo:Option Addr} {N:List (Int×ByteArray)} {E:List KeyP} (hG:GAt w gb nb eo N E) (hx:i64 x) (hy:i64 y) (hinx:(N.lookup x).isSome=true) (hin:N.lookup y=none):
  Calls Tryz.prog 142 #[.pointer (some ⟨gb,0,none⟩),.int .i64 x,.int .i64 y,.string word] w fun e w' =>e= .returned (.tuple #[.slice none 0 0,errV 7])/\w' =w:=by
 obtain⟨ec,c0,c1,hgl⟩:=hG.cells
 obtain⟨nn,hN⟩:=hG.nod
 have hlk:=hN.look_ok strVT Tryz.underlying184 ⟨#[]⟩ (zeroStrW w) hy
 have hlx:=hN.look_ok strVT Tryz.underlying184 ⟨#[]⟩ (zeroStrW w) hx
 rw[hin] at hlk
 rw[hinx] at hlx
 obtain⟨v0,hv0⟩: ∃v0,v0=(N.lookup x).getD ⟨#[]⟩:=⟨_,rfl⟩
 rw[<-hv0] at hlx
 simp only[Option.getD_none,Option.isSome_none] at hlk
 clear hG hN hin c1 hinx hv0
 unfold errV
 have har:=arrInt2 x y
 have ha0:=fun w=>(har w).1
 have ha1:=fun w=>(har w).2
 clear har
 go_enter Tryz.func142,Tryz.ntmps142
 go_wp2_with fail
 refine wp_loop_rounds 2 ?_
 rw[rounds_succ]
 go_wp2_with fail
 rw[rounds_succ]
 go_wp2_with fail
 go_ret2
 exact⟨rfl,rfl⟩
structure FarAt (w:World) (mb:Nat) (E:List KeyP) (word:ByteArray) (y:Int) (n:Nat) (X:World):Prop where
 fin:(farS E word y n).2= []
 map:IM intR intD X mb (farS E word y n).1.length (farS E word y n).1
 be:Below w.heap.size w X
set_option maxRecDepth 100000 in
set_option maxHeartbeats 16000000 in
theorem way_ok (x y:Int) (word:ByteArray) (w:World) {gb nb:Nat} {eo:Option Addr} {N:List (Int×ByteArray)} {E:List KeyP} (hG:GAt w gb nb eo N E) (hE0: ∀k∈E,0<=k.b) (hx:i64 x) (hy:i64 y) (hinx:(N.lookup x).isSome=true) (hiny:(N.lookup y).isSome=true):
  Calls Tryz.prog 142 #[.pointer (some ⟨gb,0,none⟩),.int .i64 x,.int .i64 y,.string word] w fun e w' => ∃n,(farS E word y n).2= []/\Below w.heap.size w w' /\match wayP E word (farS E word y n).1 x y with
   | none=>e= .returned (.tuple #[.slice none 0 0,errV 8])
   | some W=> ∃v,e= .returned (.tuple #[v,.nilIface])/\w'.ownsRow w.heap.size 3 1 v W.length (W.map (Value.int .i64)):=by
 have hmm:= @run_makeMap Tryz.prog
 obtain⟨ec,c0,c1,hgl⟩:=hG.cells
 obtain⟨nn,hN⟩:=hG.nod
 have hlx:=hN.look_ok strVT Tryz.underlying184 ⟨#[]⟩ (zeroStrW w) hx
 have hly:=hN.look_ok strVT Tryz.underlying184 ⟨#[]⟩ (zeroStrW w) hy
 rw[hinx] at hlx
 rw[hiny] at hly
 obtain⟨v0,hv0⟩: ∃v0,v0=(N.lookup x).getD ⟨#[]⟩:=⟨_,rfl⟩
 obtain⟨v1,hv1⟩: ∃v1,v1=(N.lookup y).getD ⟨#[]⟩:=⟨_,rfl⟩
 rw[<-hv0] at hlx
 rw[<-hv1] at hly
 obtain⟨mb,hmb⟩: ∃mb,mb=w.heap.size:=⟨_,rfl⟩
 obtain⟨W1,hW1⟩: ∃W1,W1=w.alloc (.map #[] 0):=⟨_,rfl⟩
 have ho1:W1.ownsMap Tryz.prog 3 intR mb 0 (.map []):=by rw[hW1,hmb];exact World.ownsMap_made _ _ _ _
 obtain⟨W2,hrun2,ho2,hg2⟩:=ho1.update intLaw Tryz.underlying171 (by decide) (key:= .int .i64 y) (val:= .int .i64 0) (keyOf_int_mk Tryz.underlying3 (wfI hy)) (intVT.put 0)
 have hIM2:IM intR intD W2 mb 1 [(y,0)]:=by
  have:=IM.put (L:= []) (x:=y) (v:=(0:Int)) (fun p hp=>by cases hp) (mapOf_nil (kl:=fun p:Int×Int=>kI p.1) (dt:=fun p=>intD p.2)) hy rfl ho2
  simpa using this
 obtain⟨W3,hW3⟩: ∃W3,W3=W2.alloc (.cells #[.int .i64 y] 3):=⟨_,rfl⟩
 obtain⟨lb,hlb⟩: ∃lb,lb=W2.heap.size:=⟨_,rfl⟩
 have b01:Below w.heap.size w W1:=by rw[hW1];exact(Below.refl _ _).alloc (Nat.le_refl _) _
 have hs1:W1.heap.size=w.heap.size+1:=by rw[hW1];simp
 have b02:Below w.heap.size w W2:=b01.trans ((Fr.ofGrown hg2).below (fun k _ e=>by omega) b01.size)
 have hs2:W1.heap.size<=W2.heap.size:=hg2.size
 have b23:Below W2.heap.size W2 W3:=by rw[hW3];exact(Below.refl _ _).alloc (Nat.le_refl _) _
 have b03:Below w.heap.size w W3:=b02.trans (b23.mono b02.size)
 have hIM3:=hIM2.below b23
 have hli:IntsIn W3 (some ⟨lb,0,none⟩) [y]:=fun j p hp=>by
  match j,hp with
  | 0,hp=>simp at hp;subst hp;exact⟨lb,rfl,by rw[hW3,hlb];simp⟩
 have hlm:lb≠mb:=by omega
 have hEa: ∀k∈E,i64 k.a/\i64 k.b:=hG.eok
 have hel:=hG.elen
 have HG:=Lib.hid hG
 have HW1:=Lib.hid hW1
 have HW3:=Lib.hid hW3
 have HMB:=Lib.hid hmb
 have HLB:=Lib.hid hlb
 have HB3:=Lib.hid b03
 have HIM:=Lib.hid hIM3
 have HLI:=Lib.hid hli
 have HEA:=Lib.hid hEa
 have HE0:=Lib.hid hE0
 have HX:=Lib.hid hx
 have HY:=Lib.hid hy
 have hml3:mb<W3.heap.size:=hIM3.lt
 clear hG hN hinx hiny hv0 hv1 ho1 ho2 hg2 hIM2 hIM3 hli b01 b02 b23 b03 hs1 hs2 hW1 hW3 hmb hlb hEa c1 hx hy hE0
 have har:=arrInt2 x y
 have ha0:=fun w=>(har w).1
 have ha1:=fun w=>(har w).2
 clear har
 go_enter Tryz.func142,Tryz.ntmps142
 go_wp2_with fail
 refine wp_loop_rounds 3 ?_
 rw[rounds_succ]
 go_wp2_with fail
 rw[rounds_succ]
 go_wp2_with fail
 rw[rounds_succ]
 go_upto_block 2 with (first|(rw[<-HW1.out, <-HMB.out])|(rw[<-HW3.out, <-HLB.out]))
 go_cut [] (fun X=> ∃n,FarAt w mb E word y n X)
 case first=>
  go_wp2_with fail
  go_loopg [15] (2*(E.length+1)+1) (fun gh v X=> ∃(k:Nat) (ao:Option Addr) (cap:Nat),2*(E.length+1-(farS E word y k).1.length)+(if (farS E word y k).2= [] then 0 else 1)<=gh/\v= .slice ao (farS E word y k).2.length cap/\IntsIn X ao (farS E word y k).2/\(∀b,ao=some ⟨b,0,none⟩->b≠mb)/\IM intR intD X mb (farS E word y k).1.length (farS E word y k).1/\Below w.heap.size w X)
  case atStart=>exact⟨0,_,_,by simp[farS];omega,rfl,HLI.out,(fun b e=>by cases e;exact hlm),HIM.out,HB3.out⟩
  case round=>
   obtain⟨k,ao,cap,hgh,rfl,hin,hne,hIM,hB⟩:=hrel
   have hok:=farS_ok E word y k
   have hlf:=farS_len E word y k
   have hstep:(farS E word y k).2≠ []->farS E word y (k+1)=farLine E word (farS E word y k).1 (farS E word y k).2:=fun hn=>by rw[farS,if_neg hn]
   have hkeep:=fun(h:(farS E word y k).2= [])=>(⟨h,hIM,hB⟩:FarAt w mb E word y k wr)
   obtain⟨far,line,hst⟩: ∃a b,farS E word y k=(a,b):=⟨_,_,rfl⟩
   rw[hst] at hok hin hIM hstep hgh hkeep hlf
   rw[hst]
   simp only[] at hin hIM hstep hgh hkeep hlf
   have HOK:=Lib.hid hok
   have HIN:=Lib.hid hin
   have HNE:=Lib.hid hne
   have HIM1:=Lib.hid hIM
   have HB1:=Lib.hid hB
   have HSTEP:=Lib.hid hstep
   have HKEEP:=Lib.hid hkeep
   clear HIM HLI HB3 hok hin hne hIM hB hstep hst hkeep
   by_cases hl:line= []
   · subst hl
     go_wp2_with fail
     go_meet
     exact⟨k,by first|exact HKEEP.out rfl|exact HKEEP.out trivial⟩
   · have hll:0<line.length:=List.length_pos_iff.2 hl
     have hlz:(line.length:Int)>0:=by omega
     rw[if_neg hl] at hgh
     have HS1:=Lib.hid (HSTEP.out hl)
     have hmV:=HIM1.out.lt
     have hfl:far.length<=E.length+1:=HOK.out.size
     have hle4:line.length<=4001:=by omega
     have HLN:=Lib.hid (Lib.hid hl)
     generalize wr=V at*
     clear HSTEP HKEEP hl
     go_wp2_with fail
     go_loopw [16,61] (fun vm vj X=> ∃j:Nat,j<=line.length/\vj= .int .i64 j/\X.ownsRow V.heap.size 3 1 vm ((line.take j).foldl (farTo E word) (far,[])).2.length (((line.take j).foldl (farTo E word) (far,[])).2.map (Value.int .i64))/\IM intR intD X mb ((line.take j).foldl (farTo E word) (far,[])).1.length ((line.take j).foldl (farTo E word) (far,[])).1/\Fr (· =mb) V X) (fun _ vj _=>line.length-(intOf vj).toNat)
     case atStart=>exact⟨0,Nat.zero_le _,rfl,World.ownsRow_nil _ _ _ _,HIM1.out,Fr.refl _ _⟩
     case round=>
      obtain⟨j,hj,rfl,hown,hIM,hf⟩:=hrel
      by_cases hjl:j<line.length
      · obtain⟨lbk,x0,rfl,hx0,hlbl,d0⟩:=intsIn_get (HIN.out.frame hf HNE.out) hjl
        have hmem:x0∈line:=List.mem_of_getElem? hx0
        have hokj:FI E word y ((line.take j).foldl (farTo E word) (far,[])):=FI.line HOK.out.fresh fun z hz=>HOK.out.mor z (List.mem_of_mem_take hz)
        have hx0s:(((line.take j).foldl (farTo E word) (far,[])).1.lookup x0).isSome=true:=by
         obtain⟨v,hv⟩:=Option.isSome_iff_exists.1 (HOK.out.mor x0 hmem)
         rw[farTo_keep (c:=(far,[])) hv];rfl
        have hnext:(line.take (j+1)).foldl (farTo E word) (far,[])=E.foldl (farIn word x0) ((line.take j).foldl (farTo E word) (far,[])):=foldl_take hx0
        obtain⟨c,hc⟩: ∃c,c=(line.take j).foldl (farTo E word) (far,[]):=⟨_,rfl⟩
        rw[<-hc] at hown hIM hokj hnext hx0s
        have hx0i:i64 x0:=by
         obtain⟨v,hv⟩:=Option.isSome_iff_exists.1 hx0s
         exact hIM.rng _ (lookup_mem hv)
        have hBX:Below w.heap.size w wr:=HB1.out.trans (hf.below (fun k _ e=>by have:=HMB.out;omega) HB1.out.size)
        obtain⟨ec',p0,p1,hgl'⟩:=(HG.out.below hBX).cells
        have HGX:=Lib.hid (HG.out.below hBX)
        have j0:(0:Int)<=(j:Int):=by omega
        have j1:(j:Int)<(line.length:Int):=by omega
        have HOWN:=Lib.hid hown
        have HIM2:=Lib.hid hIM
        have HF:=Lib.hid hf
        have HOKJ:=Lib.hid hokj
        have HX0:=Lib.hid hx0s
        have HX0I:=Lib.hid hx0i
        have HNEXT:=Lib.hid hnext
        have HC0:=Lib.hid hc
        clear hown hIM hf hokj hnext hx0 hc p0 hx0s hx0i hmem hBX
        go_wp2_with fail
        go_loopw [16,70] (fun vm vq X=> ∃q:Nat,q<=E.length/\vq= .int .i64 q/\X.ownsRow V.heap.size 3 1 vm ((E.take q).foldl (farIn word x0) c).2.length (((E.take q).foldl (farIn word x0) c).2.map (Value.int .i64))/\IM intR intD X mb ((E.take q).foldl (farIn word x0) c).1.length ((E.take q).foldl (farIn word x0) c).1/\Fr (· =mb) V X) (fun _ vq _=>E.length-(intOf vq).toNat)
        case atStart=>exact⟨0,Nat.zero_le _,rfl,HOWN.out,HIM2.out,HF.out⟩
        case round=>
         clear p1
         obtain⟨q,hq,rfl,hown,hIM,hf⟩:=hrel
         by_cases hqn:q<E.length
         · have hBX:Below w.heap.size w wr:=HB1.out.trans (hf.below (fun k _ e=>by have:=HMB.out;omega) HB1.out.size)
           obtain⟨eb,kk,rfl,hk,hebl,e0,e1,e2,e3⟩:=keysIn_get (HG.out.below hBX).edg hqn
           have hki:=HEA.out kk (List.mem_of_getElem? hk.out)
           have hst:(E.take (q+1)).foldl (farIn word x0) c=farIn word x0 ((E.take q).foldl (farIn word x0) c) kk:=foldl_take hk.out
           obtain⟨hokd,hds⟩:=FI.fold HOKJ.out HX0.out (l:=E.take q) fun z hz=>List.mem_of_mem_take hz
           obtain⟨d,hd⟩: ∃d,d=(E.take q).foldl (farIn word x0) c:=⟨_,rfl⟩
           rw[<-hd] at hown hIM hst hokd hds
           obtain⟨kd,ka,kw,kb⟩:=kk
           simp only[] at e0 e1 e2 e3 hki
           obtain⟨W4,hW4⟩: ∃W4,W4=wr.alloc (.cells #[.int .i64 kd,.int .i64 ka,.string kw,.int .i64 kb] 97):=⟨_,rfl⟩
           obtain⟨kx,hkx⟩: ∃kx,kx=wr.heap.size:=⟨_,rfl⟩
           have hB4:Below wr.heap.size wr W4:=by rw[hW4];exact(Below.refl _ _).alloc (Nat.le_refl _) _
           have hkb:W4.heap[kx]? =some (.cells #[.int .i64 kd,.int .i64 ka,.string kw,.int .i64 kb] 97 (0,0)):=by rw[hW4,hkx];exact block_alloc_new _ _
           have k1:W4.cell? ⟨kx,1,none⟩=some (.int .i64 ka):=block_cell hkb 1
           have k2:W4.cell? ⟨kx,2,none⟩=some (.string kw):=block_cell hkb 2
           have k3:W4.cell? ⟨kx,3,none⟩=some (.int .i64 kb):=block_cell hkb 3
           have hkl:kx<W4.heap.size:=lt_of_block hkb
           have hIM4:=hIM.below hB4
           have hown4:=ownsRow_below hown hB4
           have hf4:Fr (· =mb) V W4:=hf.trans (Fr.new hB4)
           have hvs:V.heap.size<=W4.heap.size:=hf4.size
           have hd1:d.1.length<=4001:=by have:=hokd.size;omega
           have hd2:d.2.length<=4001:=by
            have g1:=farFold_grow word x0 (E.take q) c
            have g2:=farLine_grow E word (line.take j) (far,[])
            rw[<-hd] at g1
            rw[<-HC0.out] at g2
            simp only[List.length_nil,Nat.add_zero] at g2
            omega
           have q0:(0:Int)<=(q:Int):=by omega
           have q1:(q:Int)<(E.length:Int):=by omega
           have hlk:=hIM4.look_ok intVT Tryz.underlying171 0 (zeroIntW W4) hki.1
           obtain⟨va,hva⟩: ∃va,va=(d.1.lookup ka).getD 0:=⟨_,rfl⟩
           rw[<-hva] at hlk
           have hmw:=hIM4.lt
           have hf0:=hf.size
           have HW4:=Lib.hid hW4
           have HKX:=Lib.hid hkx
           have HST:=Lib.hid hst
           have HIM4:=Lib.hid hIM4
           have HO4:=Lib.hid hown4
           have HF4:=Lib.hid hf4
           have no: ¬(kb=x0/\(d.1.lookup ka).isNone=true/\wordIs word ⟨kd,ka,kw,kb⟩=true)->(E.take (q+1)).foldl (farIn word x0) c=d:=fun hn=>by rw[HST.out];exact if_neg hn
           have yes:kb=x0->d.1.lookup ka=none->wordIs word ⟨kd,ka,kw,kb⟩=true->(E.take (q+1)).foldl (farIn word x0) c=(d.1++ [(ka,(d.1.lookup x0).getD 0+1)],d.2++ [ka]):=fun h1 h2 h3=>by rw[HST.out];exact if_pos ⟨h1,by rw[h2];rfl,h3⟩
           have NO:=Lib.hid no
           have YES:=Lib.hid yes
           have HKI:=Lib.hid hki
           have HOKD:=Lib.hid hokd
           have HDS:=Lib.hid hds
           clear no yes hki hst hd hW4 hkx hB4 hkb hIM4 hown4 hf4 hown hIM hf hva hokd hds hBX hk
           by_cases ha:kb=x0
           · have haz:(kb==x0)=true:=by simpa using ha
             have HA:=Lib.hid ha
             clear ha
             cases hl:d.1.lookup ka with
             | some v=>
               rw[hl] at hlk
               simp only[Option.isSome_some] at hlk
               have HN:=Lib.hid (NO.out (by rw[hl];simp))
               clear hl
               go_wp2_with (rw[<-HW4.out, <-HKX.out])
               exact⟨⟨q+1,by omega,by go_num,by rw[HN.out];exact HO4.out,by rw[HN.out];exact HIM4.out,HF4.out⟩,by simp[intOf];omega⟩
             | none=>
               rw[hl] at hlk
               simp only[Option.isSome_none] at hlk
               have HL:=Lib.hid hl
               have hdx:=HIM4.out.look intVT Tryz.underlying171 0 (zeroIntW W4) HX0I.out
               obtain⟨dx,hdd⟩:=Option.isSome_iff_exists.1 HDS.out
               have hdr:=HOKD.out.rng _ (lookup_mem hdd)
               rw[hdd,Option.getD_some] at hdx
               simp only[] at hdr
               have hdr0:=hdr.1
               have hdr1:dx<=4001:=by omega
               have HDD:=Lib.hid hdd
               clear hl hdr hdd
               have no3:wordIs word ⟨kd,ka,kw,kb⟩=false->(E.take (q+1)).foldl (farIn word x0) c=d:=fun h=>NO.out (fun e=>by rw[e.2.2] at h;cases h)
               have yes3:wordIs word ⟨kd,ka,kw,kb⟩=true->(E.take (q+1)).foldl (farIn word x0) c=(d.1++ [(ka,dx+1)],d.2++ [ka]):=fun h=>by rw[YES.out HA.out HL.out h,HDD.out];rfl
               obtain⟨D,hownD,hD⟩:=HIM4.out.own
               have HPUT:=Lib.hid fun(w' :World) (ho:w'.ownsMap Tryz.prog 3 intR mb (d.1.length+1) (D.put (kI ka) (intD (dx+1))))=>IM.put HIM4.out.rng hD HKI.out.1 HL.out ho
               have HOWD:=Lib.hid hownD
               have hmk:kx≠mb:=by have:=HKX.out;have:=hf0;omega
               have NO3:=Lib.hid no3
               have YES3:=Lib.hid yes3
               clear no3 yes3 hownD hD
               by_cases h0:word.size=0
               · have hw0:=empty_true h0
                 have HN:=Lib.hid (YES3.out (by unfold wordIs;simp[h0]))
                 clear h0
                 go_wp2_with (first
                  | (rw[<-HW4.out, <-HKX.out])
                  | (at_mapUpdate;refine wpList_mapUpdate_own _ rfl _ _ _ 171 rfl 3 3 intLaw Tryz.underlying171 intR mb d.1.length D rfl HOWD.out (by unfold maxLen;omega) _ _ _ rfl rfl (keyOf_int_mk Tryz.underlying3 (wfI HKI.out.1)) (intD (dx+1)) [] (intVT.put (dx+1)) ?_;intro w7 hown7 hg7;have HIM7:=Lib.hid (HPUT.out w7 hown7);have hf7:Fr (· =mb) W4 w7:=Fr.ofGrown hg7;have k7:=hf7.cell k1 hmk;have hkl7:=Nat.lt_of_lt_of_le hkl hf7.size;have HF7:=Lib.hid hf7;have HO7:=Lib.hid (ownsRow_frame HO4.out hf7 (fun g hg e=>by omega));have hs7:=hf7.size;clear hown7 hg7 hf7)
                  | (at_builtin;refine appInt rfl _ _ rfl V.heap.size _ d.2 rfl (HO7.out.alloc _) w7.heap.size ka rfl (by simp) (by omega) (by simp;omega) w7 ((Below.refl _ _).alloc (by omega) _) ?_;intro v8 w8 hown8 hB8 hs8 hg8))
                 exact⟨⟨q+1,by omega,by go_num,by rw[HN.out];exact hown8,by rw[HN.out,List.length_append];exact HIM7.out.frame (Fr.ofBelow hB8) (by omega),(HF4.out.trans HF7.out).next (Fr.ofBelow hB8) (fun k hk e=>by omega)⟩,by simp[intOf];omega⟩
               · have hw0:=empty_false h0
                 by_cases hkw:kw=word
                 · have hw1:(kw.toList==word.toList)=true:=by rw[hkw];simp
                   have HN:=Lib.hid (YES3.out (by unfold wordIs;simp[hkw]))
                   clear h0 hkw
                   go_wp2_with (first
                    | (rw[<-HW4.out, <-HKX.out])
                    | (at_mapUpdate;refine wpList_mapUpdate_own _ rfl _ _ _ 171 rfl 3 3 intLaw Tryz.underlying171 intR mb d.1.length D rfl HOWD.out (by unfold maxLen;omega) _ _ _ rfl rfl (keyOf_int_mk Tryz.underlying3 (wfI HKI.out.1)) (intD (dx+1)) [] (intVT.put (dx+1)) ?_;intro w7 hown7 hg7;have HIM7:=Lib.hid (HPUT.out w7 hown7);have hf7:Fr (· =mb) W4 w7:=Fr.ofGrown hg7;have k7:=hf7.cell k1 hmk;have hkl7:=Nat.lt_of_lt_of_le hkl hf7.size;have HF7:=Lib.hid hf7;have HO7:=Lib.hid (ownsRow_frame HO4.out hf7 (fun g hg e=>by omega));have hs7:=hf7.size;clear hown7 hg7 hf7)
                    | (at_builtin;refine appInt rfl _ _ rfl V.heap.size _ d.2 rfl (HO7.out.alloc _) w7.heap.size ka rfl (by simp) (by omega) (by simp;omega) w7 ((Below.refl _ _).alloc (by omega) _) ?_;intro v8 w8 hown8 hB8 hs8 hg8))
                   exact⟨⟨q+1,by omega,by go_num,by rw[HN.out];exact hown8,by rw[HN.out,List.length_append];exact HIM7.out.frame (Fr.ofBelow hB8) (by omega),(HF4.out.trans HF7.out).next (Fr.ofBelow hB8) (fun k hk e=>by omega)⟩,by simp[intOf];omega⟩
                 · have hw1:(kw.toList==word.toList)=false:=by
                    have: ¬kw.toList=word.toList:=fun e=>hkw (bytes_ext (by rw[<-ByteArray.toList_eq, <-ByteArray.toList_eq];exact e))
                    simpa using this
                   have HN:=Lib.hid (NO3.out (by unfold wordIs;simp[h0,hkw]))
                   clear h0 hkw
                   go_wp2_with (rw[<-HW4.out, <-HKX.out])
                   exact⟨⟨q+1,by omega,by go_num,by rw[HN.out];exact HO4.out,by rw[HN.out];exact HIM4.out,HF4.out⟩,by simp[intOf];omega⟩
           · have haz:(kb==x0)=false:=by simpa using ha
             have HN:=Lib.hid (NO.out (fun h=>ha h.1))
             generalize (d.1.lookup ka).isSome=bs at*
             clear ha
             go_wp2_with (rw[<-HW4.out, <-HKX.out])
             exact⟨⟨q+1,by omega,by go_num,by rw[HN.out];exact HO4.out,by rw[HN.out];exact HIM4.out,HF4.out⟩,by simp[intOf];omega⟩
         · obtain rfl:q=E.length:=by omega
           rw[List.take_of_length_le (Nat.le_refl _)] at hown hIM
           rw[<-HNEXT.out] at hown hIM
           have HOWN3:=Lib.hid hown
           have HIM3:=Lib.hid hIM
           have HF3:=Lib.hid hf
           clear hown hIM hf
           go_wp2_with fail
           exact⟨⟨j+1,by omega,by go_num,HOWN3.out,HIM3.out,HF3.out⟩,by simp[intOf];omega⟩
      · obtain rfl:j=line.length:=by omega
        rw[List.take_of_length_le (Nat.le_refl _)] at hown hIM
        have hgrow:=farLine_grow E word line (far,[])
        have hokn:FI E word y (line.foldl (farTo E word) (far,[])):=FI.line HOK.out.fresh fun z hz=>HOK.out.mor z hz
        have hsn:=hokn.size
        have e1:line.foldl (farTo E word) (far,[])=farS E word y (k+1):=HS1.out.symm
        rw[e1] at hown hIM hgrow hsn
        simp only[List.length_nil,Nat.add_zero] at hgrow
        obtain⟨am,cm,hvm,hinm⟩:=ownsRow_intsIn hown
        have hnm: ∀b,am=some ⟨b,0,none⟩->b≠mb:=fun b e=>by subst e;subst hvm;have:=(hown.lt b rfl).1;omega
        subst hvm
        have HIM3:=Lib.hid hIM
        have HIN3:=Lib.hid hinm
        have HNM:=Lib.hid hnm
        have HB5:=Lib.hid (HB1.out.trans (hf.below (fun k _ e=>by have:=HMB.out;omega) HB1.out.size))
        clear hown hIM hf hinm hnm e1 hokn
        go_wp2_with fail
        go_roundg (2*(E.length+1-(farS E word y (k+1)).1.length)+(if (farS E word y (k+1)).2= [] then 0 else 1))
        case measure=>
         split
         · omega
         · rename_i hne
           have:=List.length_pos_iff.2 hne
           omega
        case rel=>exact⟨k+1,am,cm,Nat.le_refl _,rfl,HIN3.out,HNM.out,HIM3.out,HB5.out⟩
 case rest=>
  obtain⟨n,hF⟩:=hcut
  have hok:=farS_ok E word y n
  obtain⟨hfin,hIM,hB⟩:=hF
  have HFIN:=Lib.hid hfin
  obtain⟨far,line,hst⟩: ∃a b,farS E word y n=(a,b):=⟨_,_,rfl⟩
  have hfe:(farS E word y n).1=far:=by rw[hst]
  have hok' :FI E word y (far,line):=by rw[<-hst];exact hok
  rw[hfe] at hIM
  have HFE:=Lib.hid hfe
  have HOK:=Lib.hid hok'
  generalize wc=W9 at*
  have hlk:=hIM.look_ok intVT Tryz.underlying171 0 (zeroIntW W9) HX.out
  have hfl:far.length<=E.length+1:=hok'.size
  have hml:=hIM.lt
  have HIM9:=Lib.hid hIM
  have HB9:=Lib.hid hB
  clear HIM HLI HB3 hok hfin hIM hB hst hfe hok'
  cases hl:far.lookup x with
  | none=>
    rw[hl] at hlk
    simp only[Option.isSome_none,Option.getD_none] at hlk
    have HL:=Lib.hid hl
    clear hl
    go_wp2_with fail
    go_ret2
    refine⟨n,HFIN.out,HB9.out,?_⟩
    rw[HFE.out]
    unfold wayP
    rw[HL.out]
    unfold errV
    rfl
  | some d=>
    rw[hl] at hlk
    simp only[Option.isSome_some,Option.getD_some] at hlk
    have HL:=Lib.hid hl
    have hdr:=HOK.out.rng _ (lookup_mem hl)
    simp only[] at hdr
    have hd0:=hdr.1
    have hd1:d<=4001:=by omega
    clear hl hdr
    obtain⟨W,hW⟩: ∃W,W=wayL E word far y d.toNat x:=⟨_,rfl⟩
    have hcons:=wayL_cons E word far y d.toNat x
    rw[<-hW] at hcons
    have HW:=Lib.hid hW
    have HCONS:=Lib.hid hcons
    have hzs:w.heap.size<=W9.heap.size:=HB9.out.size
    clear hW hcons
    go_wp2_with fail
    go_loopw [25,26] (fun vo vx X=> ∃(O:List Int) (z e:Int),vx= .int .i64 z/\far.lookup z=some e/\O.length+e.toNat=d.toNat+1/\W=O++(wayL E word far y e.toNat z).tail/\X.ownsRow W9.heap.size 3 1 vo O.length (O.map (Value.int .i64))/\Below W9.heap.size W9 X) (fun _ vx _=>((far.lookup (intOf vx)).getD 0).toNat)
    case atStart=>exact⟨[x],x,d,rfl,HL.out,by simp;omega,by rw[<-HW.out];exact HCONS.out,World.ownsRow_lit W9 #[.int .i64 x] 1 (Nat.le_refl _) (by decide) rfl,(Below.refl _ _).alloc (Nat.le_refl _) _⟩
    case round=>
     obtain⟨O,z,e,rfl,hz,hO,hWO,hrow,hBX⟩:=hrel
     have hBw:Below w.heap.size w wr:=HB9.out.trans (hBX.mono hzs)
     have hIMX:IM intR intD wr mb far.length far:=HIM9.out.below hBX
     by_cases hzy:z=y
     · subst hzy
       have hWe:W=O:=by rw[hWO,way_end HOK.out hz];simp
       have HWE:=Lib.hid hWe
       have HROW:=Lib.hid hrow
       have HBW:=Lib.hid hBw
       clear hz hO hWO hrow hBX hBw hIMX hWe hlk
       go_wp2_with fail
       go_ret2
       refine⟨n,HFIN.out,HBW.out,?_⟩
       rw[HFE.out]
       unfold wayP
       rw[HL.out]
       refine⟨_,rfl,?_⟩
       rw[<-HW.out,HWE.out]
       exact ownsRow_mono HROW.out hzs
     · obtain⟨he,hb1,hb2,hb3⟩:=way_step HOK.out HE0.out hz hzy
       have hzi:i64 z:=HIM9.out.rng _ (lookup_mem hz)
       have her:=HOK.out.rng _ (lookup_mem hz)
       simp only[] at her
       have he4:e<=4001:=by omega
       have hne:(z !=y)=true:=by simpa using hzy
       have hCN:=Lib.hid (next_any z word wr (HG.out.below hBw))
       have hl2:=Lib.hid fun(X:World) (hX:Below wr.heap.size wr X)=>(hIMX.below hX).look intVT Tryz.underlying171 0 (zeroIntW X) hzi
       have hbp:bestP E word far z=(nextP E z word).foldl (bestIn far e) (-1):=by unfold bestP;rw[hz];rfl
       obtain⟨best,hbest⟩: ∃b,b=bestP E word far z:=⟨_,rfl⟩
       rw[<-hbest] at hb1 hb2 hb3 hbp
       have hO4:O.length<=4001:=by omega
       have HZ:=Lib.hid hz
       have HZY:=Lib.hid hzy
       have HB1' :=Lib.hid hb1
       have HB3' :=Lib.hid hb3
       have HBP:=Lib.hid hbp
       have HWO:=Lib.hid hWO
       have HROW:=Lib.hid hrow
       have HBX:=Lib.hid hBX
       have HIMX:=Lib.hid hIMX
       clear hzy hb1 hb3 hbp hWO hrow hBX hBw hIMX hlk hz hzi her hbest
       go_wp2_with (go_at_call 191;(with_reducible refine hCN.out.mono ?_);rintro ex x1 ⟨vn,rfl,own1,b1⟩;obtain⟨an,cn,hvn,hin1⟩:=ownsRow_intsIn own1;subst hvn;have HIN1:=Lib.hid hin1;have HB4:=Lib.hid b1;clear own1 hin1 b1)
       obtain⟨nx,hnx⟩: ∃nx,nx=nextP E z word:=⟨_,rfl⟩
       have hnxs: ∀v∈nx,v∈E.map (·.b):=by rw[hnx];exact next_sub
       have hnxl:nx.length<=4000:=by have:=nextP_len E z word;rw[hnx];omega
       rw[<-hnx] at HIN1 HBP
       rw[<-hnx]
       have HNXS:=Lib.hid hnxs
       have HIM1:=Lib.hid (HIMX.out.below HB4.out)
       have hl1:=hl2.out x1 HB4.out
       rw[HZ.out,Option.getD_some] at hl1
       have hx1s:=HB4.out.size
       have hw1s:=HBX.out.size
       clear hnx hnxs hCN hl2
       go_loopw [27,138] (fun vb vq X=> ∃q:Nat,q<=nx.length/\vq= .int .i64 q/\vb= .int .i64 ((nx.take q).foldl (bestIn far e) (-1))/\X=x1) (fun _ vq _=>nx.length-(intOf vq).toNat)
       case atStart=>exact⟨0,Nat.zero_le _,rfl,rfl,rfl⟩
       case round=>
        obtain⟨q,hq,rfl,rfl,hXe⟩:=hrel
        subst hXe
        by_cases hqn:q<nx.length
        · obtain⟨nbk,y1,han,hy1,hnl,dy⟩:=intsIn_get HIN1.out hqn
          have hst:(nx.take (q+1)).foldl (bestIn far e) (-1)=bestIn far e ((nx.take q).foldl (bestIn far e) (-1)) y1:=foldl_take hy1
          obtain⟨b,hb⟩: ∃b,b=(nx.take q).foldl (bestIn far e) (-1):=⟨_,rfl⟩
          rw[<-hb] at hst ⊢
          have hy1i:i64 y1:=by
           obtain⟨k',hk',e'⟩:=List.mem_map.1 (HNXS.out y1 (List.mem_of_getElem? hy1))
           rw[<-e'];exact(HEA.out k' hk').2
          have hlk:=HIM1.out.look_ok intVT Tryz.underlying171 0 (zeroIntW wr) hy1i
          subst han
          have q0:(0:Int)<=(q:Int):=by omega
          have q1:(q:Int)<(nx.length:Int):=by omega
          have HST:=Lib.hid hst
          clear hst hb hy1 hy1i
          cases hl:far.lookup y1 with
          | none=>
            rw[hl] at hlk
            simp only[Option.isSome_none,Option.getD_none] at hlk
            have HN:=Lib.hid (HST.out.trans (show bestIn far e b y1=b by unfold bestIn;rw[hl]))
            clear hl
            go_wp2_with fail
            exact⟨⟨q+1,by omega,by go_num,by rw[HN.out],trivial⟩,by simp[intOf];omega⟩
          | some e1=>
            rw[hl] at hlk
            simp only[Option.isSome_some,Option.getD_some] at hlk
            have hbi:bestIn far e b y1=if e1=e-1/\(b<0\/y1<b) then y1 else b:=by unfold bestIn;rw[hl]
            have HBI:=Lib.hid hbi
            clear hl hbi
            by_cases c1:e1=e-1
            · have c1z:(e1==e-1)=true:=by simpa using c1
              have HC1:=Lib.hid c1
              clear c1
              by_cases c2:b<0
              · have HN:=Lib.hid (HST.out.trans (show bestIn far e b y1=y1 by rw[HBI.out,if_pos ⟨HC1.out,.inl c2⟩]))
                go_wp2_with fail
                exact⟨⟨q+1,by omega,by go_num,by rw[HN.out],trivial⟩,by simp[intOf];omega⟩
              · by_cases c3:y1<b
                · have HN:=Lib.hid (HST.out.trans (show bestIn far e b y1=y1 by rw[HBI.out,if_pos ⟨HC1.out,.inr c3⟩]))
                  go_wp2_with fail
                  exact⟨⟨q+1,by omega,by go_num,by rw[HN.out],trivial⟩,by simp[intOf];omega⟩
                · have HN:=Lib.hid (HST.out.trans (show bestIn far e b y1=b by rw[HBI.out,if_neg (fun h=>h.2.elim c2 c3)]))
                  go_wp2_with fail
                  exact⟨⟨q+1,by omega,by go_num,by rw[HN.out],trivial⟩,by simp[intOf];omega⟩
            · have c1z:(e1==e-1)=false:=by simpa using c1
              have HN:=Lib.hid (HST.out.trans (show bestIn far e b y1=b by rw[HBI.out,if_neg (fun h=>c1 h.1)]))
              clear c1
              go_wp2_with fail
              exact⟨⟨q+1,by omega,by go_num,by rw[HN.out],trivial⟩,by simp[intOf];omega⟩
        · obtain rfl:q=nx.length:=by omega
          have he' :(nx.take nx.length).foldl (bestIn far e) (-1)=best:=by rw[List.take_of_length_le (Nat.le_refl _)];exact HBP.out.symm
          rw[he']
          have HRW:=Lib.hid (ownsRow_below HROW.out HB4.out)
          have HBE:=Lib.hid (HBX.out.trans (HB4.out.mono hw1s))
          clear he' hl1
          go_wp2_with (at_builtin;refine appInt rfl _ _ rfl W9.heap.size _ O rfl (HRW.out.alloc _) wr.heap.size best rfl (by simp) (by omega) (by simp;omega) W9 (HBE.out.alloc (by omega) _) ?_;intro v8 w8 hown8 hB8 hs8 hg8)
          have hb1:=HB1'.out
          refine⟨⟨O++ [best],best,e-1,rfl,hb1,by simp;omega,?_,hown8,hB8⟩,?_⟩
          · have h1:=HWO.out
            rw[HB3'.out] at h1
            rw[h1,List.append_assoc]
            congr 1
            exact wayL_cons E word far y _ best
          · show((far.lookup best).getD 0).toNat<((far.lookup z).getD 0).toNat
            rw[hb1,HZ.out]
            simp only[Option.getD_some]
            omega
theorem said_in {hist:List (List OpP)} {k:KeyP} {n:Nat} {t:Int} (h:(saidH hist k n t).size≠0): ∃l∈hist,∃o∈l,o.key=k:=by
 have : ∀(l:List OpP) (x:ByteArray),(saidL l k t x).size≠0->(∃o∈l,o.key=k)\/x.size≠0:=fun l=>by
  induction l with
  | nil=>intro x h;exact .inr h
  | cons o l ih=>
    intro x h
    unfold saidL at h
    rw[List.foldl_cons] at h
    rcases ih _ h with ⟨o',h1,h2⟩|h1
    · exact .inl ⟨o',List.mem_cons_of_mem _ h1,h2⟩
    · split at h1
      · rename_i hk
        exact .inl ⟨o,by simp,hk.1.symm⟩
      · exact .inr h1
 unfold saidH at h
 rcases this _ _ h with ⟨o,ho,e⟩|h1
 · obtain⟨l,hl,ho⟩:=List.mem_flatten.1 ho
   exact⟨l,List.mem_of_mem_take hl,o,ho,e⟩
 · exact absurd rfl h1
open Go.RowKit Go.Deep Go.Shelf Go.Sort Go.Maps Go.WideMaps
theorem KeysIn.frame {F:Nat->Prop} {w w' :World} {ao:Option Addr} {l:List KeyP} (h:KeysIn w ao l) (hf:Fr F w w') (hn: ∀b,ao=some ⟨b,0,none⟩-> ¬F b):KeysIn w' ao l:=fun j p hp=>by
 obtain⟨b,h1,h2,h3,h4,h5⟩:=h j p hp
 have hl:=World.block_lt_of_cell? w _ h2
 have e:=hf.block b hl (hn b h1)
 exact⟨b,h1,(World.cell?_of_block (a:=⟨b,_,none⟩) e).trans h2,(World.cell?_of_block (a:=⟨b,_,none⟩) e).trans h3,(World.cell?_of_block (a:=⟨b,_,none⟩) e).trans h4,(World.cell?_of_block (a:=⟨b,_,none⟩) e).trans h5⟩
theorem word_cases (word kw:ByteArray):(word.toList.isEmpty=true/\word.size=0)\/(word.toList.isEmpty=false/\(kw.toList==word.toList)=true/\kw=word)\/(word.toList.isEmpty=false/\(kw.toList==word.toList)=false/\word.size≠0/\kw≠word):=by
 by_cases h0:word.size=0
 · exact .inl ⟨empty_true h0,h0⟩
 · by_cases h1:kw=word
   · exact .inr (.inl ⟨empty_false h0,by rw[h1];simp,h1⟩)
   · refine .inr (.inr ⟨empty_false h0,?_,h0,h1⟩)
     have: ¬kw.toList=word.toList:=fun e=>h1 (bytes_ext (by rw[<-ByteArray.toList_eq, <-ByteArray.toList_eq];exact e))
     simpa using this
def hopE (G:List (KeyP×ByteArray)) (x h:Int):Int:=if isN G x=true then (if 0<=h/\h<=1048576 then 0 else 2) else 7
def hopsR (G:List (KeyP×ByteArray)) (x:Int) (word:ByteArray) (h:Int):List Int:=if hopE G x h=0 then sortI (hopP (edgesGP G G) word x h.toNat) else []
def nodesS (G:List (KeyP×ByteArray)):List Int:=sortI (nodesK G ⟨#[]⟩)
end Go.Proofs.YtpgkjnebklknjaaGreatDoor
