/-The program's desk:pieces. -/
import Derived.Deep.RegionHeld3
import Derived.Test.YtpgkjnebklknjaaGreatDoorDkMJr
import Derived.Test.YtpgkjnebklknjaaGreatDoorDkNJr
namespace Go.Proofs.YtpgkjnebklknjaaGreatDoor
open Go.RowKit Go.Deep Go.Shelf Go.Sort Go.Maps
section
variable {w0 X:World} {dk:Nat} {s:Dsk} {G:DGh}
structure WordsOk (X:World) (ao:Option Addr) (c:Nat) (l:List ByteArray):Prop where
 tx:textsAt X ao l
 cap:l.length<=c
 len:l.length<=100000
 small: ∀x∈l,x.size<=100000
theorem key_sized {n:Nat} {l:List ByteArray} {k:KeyP} {q:List Int} (hs: ∀x∈l,x.size<=100000) (h:keyF n l=some (k,q)):KeyOk k/\k.word.size<=100000:=by
 obtain⟨x2,hm,hw,_,_,⟨h1,h2,h3⟩,_⟩:=keyF_some h
 have hx:=hs x2 hm
 have :k.word.size<=100000:=by
  rw[hw]
  unfold plainB undash
  split
  · exact Nat.zero_le _
  · rw [show(⟨x2.data.toList.toArray⟩:ByteArray)=x2 by rw[Array.toArray_toList]]
    exact hx
 exact⟨⟨h1,h2,h3,by unfold maxLen;omega⟩,this⟩
theorem must_zero {n:Int} (h:n=0) (w:World):Calls Tryz.prog 19 #[errN n] w fun e w' =>e= .returned (.tuple #[])/\w=w' :=by
 rw[h,errN_0];exact must_nil w
theorem must_no {n:Int} (h:n≠0) (w:World) (hg:ErrVar w):Calls Tryz.prog 19 #[errN n] w fun e w' =>e= .panicked (wrongP n)/\Below w.heap.size w w' :=by
 rw[errN_of h];exact must_errno n w hg
theorem dkey_at (h:DI w0 X dk s G) {ao:Option Addr} {c n:Nat} {l:List ByteArray} (hl:WordsOk X ao c l) (hn:n<=100) {z:Int} (hz:((n:Nat):Int)=z):
  Calls Tryz.prog 129 #[.slice ao l.length c,.int .i64 z] X (KeyOut (keyF n l) X):=by
 subst hz
 exact dkey_any ao c n l X hl.tx hl.small hl.cap hl.len hn h.ptX h.nvX h.evX
theorem dpast_any (w:World) (h:DBase w s G.db G.bb G.g):Calls Tryz.prog 57 #[.pointer (some ⟨G.bb,0,none⟩)] w fun e w' =>e= .returned (.pointer (some ⟨G.bb,1,none⟩))/\w=w' :=by
 obtain⟨D,left,log,ps,hb,_⟩:=h.bi
 exact bpast_any w hb
theorem DBase.below {db bb:Nat} {g:Gh} {Y:World} (h:DBase X s db bb g) (hb:Below X.heap.size X Y):DBase Y s db bb g:=h.frame (F:=fun _=>False) (Fr.new hb) (fun _ _ e=>e) (fun e=>e)
theorem dvalue_past (w:World) (h:DBase w s G.db G.bb G.g) (k:KeyP) (a t:Int) (hs:k.word.size<=100000):
  Calls Tryz.prog 118 #[.pointer (some ⟨G.bb,1,none⟩),.agg #[.int .i64 k.kind,.int .i64 k.a,.string k.word,.int .i64 k.b],.int .i64 a,.int .i64 t] w fun e w' =>e= .returned (.tuple #[.string (valR s.hist s.known k a t).1,errN (valR s.hist s.known k a t).2])/\Below w.heap.size w w' :=by
 obtain⟨n,ps,hp,hk,_⟩:=h.past
 exact pvalue_same hp hk k a t (by unfold maxLen;omega)
theorem intsIn_two {w:World} {ao:Option Addr} {a b:Int} (h:IntsIn w ao [a,b]): ∃ib,ao=some ⟨ib,0,none⟩/\w.cell? ⟨ib,0,none⟩=some (.int .i64 a)/\w.cell? ⟨ib,1,none⟩=some (.int .i64 b):=by
 obtain⟨b1,e1,h1⟩:=h 0 a rfl
 obtain⟨b2,e2,h2⟩:=h 1 b rfl
 rw[e1] at e2;cases e2
 exact⟨b1,e1,h1,h2⟩
set_option maxRecDepth 100000 in
set_option maxHeartbeats 4000000 in
theorem dvalue_any (ao:Option Addr) (c:Nat) (l:List ByteArray) (h:DI w0 X dk s G) (hl:WordsOk X ao c l):
  Calls Tryz.prog 77 #[.pointer (some ⟨dk,0,none⟩),.slice ao l.length c] X (DPost w0 X dk G (doesD s .value l)):=by
 have HK:Calls Tryz.prog 129 #[.slice ao l.length c,.int .i64 2] X (KeyOut (keyF 2 l) X):=dkey_at (n:=2) h hl (by omega) rfl
 have HI:=Lib.hid h
 have HS:=Lib.hid hl.small
 cases hk:keyF 2 l with
 | none=>
   rw[hk] at HK
   have HD:=Lib.hid (does_key_none (s:=s) (c:= .value) rfl hk)
   have HK:=Lib.hid HK
   clear h hl hk
   rw[HD.out]
   go_enter Tryz.func77,Tryz.ntmps77
   go_wp2_with (go_at_call 129;(with_reducible refine HK.out.mono ?_);rintro e w1 ⟨rfl,b1⟩)
   exact⟨rfl,DPost.same HI.out (dout_bad (by decide)) b1⟩
 | some p=>
   obtain⟨k,q⟩:=p
   rw[hk] at HK
   have hq:q.length=2:=by
    obtain⟨_,_,_,_,hq,_⟩:=keyF_some hk
    exact hq
   obtain⟨a,t,rfl⟩:=two_of hq
   obtain⟨_,hks⟩:=key_sized HS.out hk
   have HD:=Lib.hid (does_value (s:=s) hk)
   have HV:=Lib.hid fun(W:World) (hW:Below X.heap.size X W)=>dvalue_past W (h.base.below hW) k a t hks
   have HP:=Lib.hid fun(W:World) (hW:Below X.heap.size X W)=>dpast_any W (h.base.below hW)
   have HK:=Lib.hid HK
   have hc:=h.cells
   obtain⟨kk,ka,kw,kb⟩:=k
   simp only[] at HK HV
   rw[HD.out]
   generalize (valR s.hist s.known ⟨kk,ka,kw,kb⟩ a t).1=v at*
   generalize (valR s.hist s.known ⟨kk,ka,kw,kb⟩ a t).2=n at*
   clear h hl hk hq hks HD HS
   obtain⟨_,q1,_,hdl⟩:=hc
   go_enter Tryz.func77,Tryz.ntmps77
   go_wp2_with (go_at_call 129;(with_reducible refine HK.out.mono ?_);rintro e w1 ⟨⟨vv,rfl,hown⟩,b1⟩)
   obtain⟨ao2,cap2,rfl,hin⟩:=ownsRow_intsIn hown
   obtain⟨ib,rfl,i0,i1⟩:=intsIn_two hin
   have hib:=World.block_lt_of_cell? w1 _ i0
   replace q1:=below_cell b1 hdl q1
   obtain⟨W,hW⟩: ∃W,W=w1.alloc (.cells #[.int .i64 kk,.int .i64 ka,.string kw,.int .i64 kb] 97):=⟨_,rfl⟩
   obtain⟨kx,hkx⟩: ∃kx,kx=w1.heap.size:=⟨_,rfl⟩
   have b2:Below w1.heap.size w1 W:=by rw[hW];exact(Below.refl _ _).alloc (Nat.le_refl _) _
   have hkb:W.heap[kx]? =some (.cells #[.int .i64 kk,.int .i64 ka,.string kw,.int .i64 kb] 97 (0,0)):=by rw[hW,hkx];exact block_alloc_new _ _
   replace q1:=below_cell b2 (Nat.lt_of_lt_of_le hdl b1.size) q1
   replace i0:=below_cell b2 hib i0
   replace i1:=below_cell b2 hib i1
   have k0:W.cell? ⟨kx,0,none⟩=some (.int .i64 kk):=block_cell hkb 0
   have k1:W.cell? ⟨kx,1,none⟩=some (.int .i64 ka):=block_cell hkb 1
   have k2:W.cell? ⟨kx,2,none⟩=some (.string kw):=block_cell hkb 2
   have k3:W.cell? ⟨kx,3,none⟩=some (.int .i64 kb):=block_cell hkb 3
   have hB:Below X.heap.size X W:=b1.trans (b2.mono b1.size)
   have HB:=Lib.hid hB
   have HW:=Lib.hid hW
   have HKX:=Lib.hid hkx
   have p1:=fun Z:InC (Bel W)=>Z.cell q1
   have j0:=fun Z:InC (Bel W)=>Z.cell i0
   have j1:=fun Z:InC (Bel W)=>Z.cell i1
   have m0:=fun Z:InC (Bel W)=>Z.cell k0
   have m1:=fun Z:InC (Bel W)=>Z.cell k1
   have m2:=fun Z:InC (Bel W)=>Z.cell k2
   have m3:=fun Z:InC (Bel W)=>Z.cell k3
   have C1:=Lib.hid fun(Z:InC (Bel W))=>(HP.out Z.w (hB.trans (Z.ok.mono hB.size))).mono fun _ _ h=>And.intro h.1 h.2.symm
   have C2:=Lib.hid fun(Z:InC (Bel W))=>HV.out Z.w (hB.trans (Z.ok.mono hB.size))
   clear hown hin b1 b2 hkb hB hW hkx q1 i0 i1 k0 k1 k2 k3 hib hdl
   go_wp2_with (rw[<-HW.out, <-HKX.out])
   refine wp_region_in (S:=Bel W) (by kernel_rfl) (by kernel_rfl) (bel_drew (Below.refl _ W)) (fun hne=> ?_)
   repeat (go_big_quiet_step (first
    | (go_at_call 57;exact InC.call_same (C1.out _))
    | (go_at_call 118;exact InC.call (C2.out _))))
   refine wpQuiet_nil ?_
   rintro _ ⟨Z,rfl⟩
   have hZ:Below X.heap.size X Z.w:=HB.out.trans (Z.ok.mono HB.out.size)
   clear C1 C2 p1 j0 j1 m0 m1 m2 m3
   by_cases hn0:n=0
   · have HM:=Lib.hid (must_zero hn0 Z.w)
     have HN:=Lib.hid hn0
     clear hn0
     go_wp2_with (first
      | (go_at_call 19;(with_reducible refine HM.out.mono ?_);rintro e w2 ⟨rfl,rfl⟩)
      | (go_at_call 141;(with_reducible refine(ddash_any _ _).mono ?_);rintro e w2 ⟨rfl,rfl⟩))
     go_ret
     have hn0:=HN.out
     subst hn0
     exact DPost.same HI.out (dout_ok (by simp)) hZ
   · have HM:=Lib.hid (must_no hn0 Z.w (HI.out.evX.below hZ))
     have HN:=Lib.hid hn0
     clear hn0
     go_wp2_with (go_at_call 19;(with_reducible refine HM.out.mono ?_);rintro e w2 ⟨rfl,b5⟩)
     exact⟨rfl,DPost.same HI.out (dout_bad HN.out) (hZ.trans (b5.mono hZ.size))⟩
end
end Go.Proofs.YtpgkjnebklknjaaGreatDoor
namespace Go.Proofs.YtpgkjnebklknjaaGreatDoor
open Go.RowKit Go.Deep Go.Shelf Go.Sort Go.Maps
section
variable {w0 X:World} {dk:Nat} {s:Dsk} {G:DGh}
theorem dnums_at (h:DI w0 X dk s G) {ao:Option Addr} {c m:Nat} {l:List ByteArray} (hl:WordsOk X ao c l) (hm:l.length=m):
  Calls Tryz.prog 55 #[.slice ao m c] X (NumsOut (numsL l) X):=by
 subst hm
 exact dnumbers_any ao c l X hl.tx hl.small hl.len h.ptX h.nvX h.evX
theorem keysT_len (l:List KeyP) (h: ∀k∈l,KeyOk k/\k.word.size<=100000) (hn:l.length<=100000):(keysT l).length<=100000*500002:=by
 have :=join_len [44,32] 500000 (l.map keyT) (fun p hp=>by
  obtain⟨x,hx,rfl⟩:=List.mem_map.1 hp
  exact keyT_len x (h x hx).1 (h x hx).2)
 rw[List.length_map] at this
 simp only[List.length_cons,List.length_nil] at this
 have h2:l.length*(500000+(0+1+1))<=100000*(500000+(0+1+1)):=Nat.mul_le_mul_right _ hn
 exact Nat.le_trans this h2
theorem keyB_ok {k:KeyP} (h:keyB k=true):KeyOk k/\k.word.size<=100000:=⟨KeyOk.of h,by have:=(wfkey h).2;omega⟩
theorem dkeys_past (W:World) {db bb:Nat} {g:Gh} (h:DBase W s db bb g) (a t:Int):
  Calls Tryz.prog 117 #[.pointer (some ⟨bb,1,none⟩),.int .i64 a,.int .i64 t] W fun e w' => ∃(ao:Option Addr) (cap:Nat),e= .returned (.tuple #[.slice ao (ksF s.hist s.known a t).length cap,errN (keyRE s.hist s.known a t)])/\KeysIn w' ao (ksF s.hist s.known a t)/\(∀k∈ksF s.hist s.known a t,keyB k=true)/\(ksF s.hist s.known a t).length<=3600/\Below W.heap.size W w' :=by
 obtain⟨n,ps,hp,hk,hok,_⟩:=h.past
 rcases Decidable.em (keyRE s.hist s.known a t=0) with e|e
 · obtain⟨e1,e2⟩:=keyRE_0 e
   obtain⟨q1,q2,q3⟩:=askR_0 e1
   obtain⟨n,rfl⟩: ∃n:Nat,a=n:=⟨a.toNat,by omega⟩
   refine(keys_is n t bb 1 _ s.hist ps g W hp (fun l hl=>(okL_iff.1 (hok l hl)).2) e2 (by rw[hk];omega) (by omega)).mono ?_
   rintro e1 w' ⟨v,L,rfl,hp,hb,hl,hown,hbl⟩
   obtain⟨ao,cap,rfl,hat⟩:=ownsRow_keysIn hown
   have hL:L=ksF s.hist s.known (n:Int) t:=KSpec.is ⟨fun _=>hp,fun h=>absurd e h⟩
   rw[<-hL]
   exact⟨ao,cap,by rw[e];rfl,hat,hb,hl,hbl⟩
 · refine(pkeys_same hp hok hk a t).mono ?_
   rintro e1 w' ⟨ao,cap,L,rfl,hs,hin,hb⟩
   have hL:L=ksF s.hist s.known a t:=KSpec.is hs
   have h0:=hs.2 e
   rw[<-hL]
   subst h0
   exact⟨ao,cap,rfl,hin,fun k hk=>by simp at hk,by simp,hb⟩
set_option maxRecDepth 100000 in
set_option maxHeartbeats 4000000 in
theorem dkeys_any (ao:Option Addr) (c:Nat) (l:List ByteArray) (h:DI w0 X dk s G) (hl:WordsOk X ao c l):
  Calls Tryz.prog 71 #[.pointer (some ⟨dk,0,none⟩),.slice ao l.length c] X (DPost w0 X dk G (doesD s .keys l)):=by
 have HI:=Lib.hid h
 by_cases hn:l.length=2
 · have HK:=dnums_at h hl hn
   have HWO:=Lib.hid (dwords_ok ao c l.length 2 X (by rw[hn];rfl))
   rw[hn] at HWO ⊢
   cases hk:numsL l with
   | none=>
     rw[hk] at HK
     have HD:=Lib.hid (does_nums_none (s:=s) (c:= .keys) rfl hn hk)
     have HK:=Lib.hid HK
     clear h hl hk hn
     rw[HD.out]
     go_enter Tryz.func71,Tryz.ntmps71
     go_wp2_with (first
      | (go_at_call 17;(with_reducible refine HWO.out.mono ?_);rintro e w1 ⟨rfl,rfl⟩)
      | (go_at_call 55;(with_reducible refine HK.out.mono ?_);rintro e w1 ⟨rfl,b1⟩))
     exact⟨rfl,DPost.same HI.out (dout_bad (by decide)) b1⟩
   | some q=>
     rw[hk] at HK
     obtain⟨a,t,rfl⟩:=two_of (show q.length=2 by rw[numsL_len hk,hn])
     have HD:=Lib.hid (does_keys (s:=s) hn hk)
     have HV:=Lib.hid fun(W:World) (hW:Below X.heap.size X W)=>dkeys_past W (h.base.below hW) a t
     have HP:=Lib.hid fun(W:World) (hW:Below X.heap.size X W)=>dpast_any W (h.base.below hW)
     have HK:=Lib.hid HK
     have hc:=h.cells
     rw[HD.out]
     generalize ksF s.hist s.known a t=L at*
     generalize keyRE s.hist s.known a t=n at*
     clear h hl hk hn HD
     obtain⟨_,q1,_,hdl⟩:=hc
     go_enter Tryz.func71,Tryz.ntmps71
     go_wp2_with (first
      | (go_at_call 17;(with_reducible refine HWO.out.mono ?_);rintro e w1 ⟨rfl,rfl⟩)
      | (go_at_call 55;(with_reducible refine HK.out.mono ?_);rintro e w1 ⟨⟨vv,rfl,hown⟩,b1⟩))
     obtain⟨ao2,cap2,rfl,hin⟩:=ownsRow_intsIn hown
     obtain⟨ib,rfl,i0,i1⟩:=intsIn_two hin
     have hib:=World.block_lt_of_cell? w1 _ i0
     replace q1:=below_cell b1 hdl q1
     have hdl1:=Nat.lt_of_lt_of_le hdl b1.size
     have hs1:=b1.size
     have HB:=Lib.hid b1
     clear hown hin b1
     go_region_held3 (fun Z=>Z.cell? ⟨dk,1,none⟩=some (.pointer (some ⟨G.bb,0,none⟩))/\Z.cell? ⟨ib,0,none⟩=some (.int .i64 a)/\Z.cell? ⟨ib,1,none⟩=some (.int .i64 t))
      (first|exact⟨q1,i0,i1⟩|exact hS1|exact hS2)
      (first
       | (go_at_call 57;(with_reducible refine(HP.out _ HB.out.drew).mono ?_);rintro e x1 ⟨rfl,rfl⟩)
       | (go_at_call 117;(with_reducible refine(HV.out _ HB.out.drew).mono ?_);rintro e x1 ⟨ko,kc,rfl,hki,hkb,hkl,b2⟩;have hS2:=And.intro (below_cell b2 hdl1 q1) (And.intro (below_cell b2 hib i0) (below_cell b2 hib i1))))
     have hx:=HB.out.drew.trans (b2.mono hs1)
     by_cases hn0:n=0
     · have HM:=Lib.hid (must_zero hn0 x1)
       have HN:=Lib.hid hn0
       have hT:=keysT_len L (fun k hk=>keyB_ok (hkb k hk)) (by omega)
       have HT:=Lib.hid (dkeysText_any ko kc L x1 hki (fun k hk=>keyB_ok (hkb k hk)) (by omega) (HI.out.ptX.below hx))
       obtain⟨kt,hkt⟩: ∃kt,kt=(⟨(keysT L).toArray⟩:ByteArray):=⟨_,rfl⟩
       have hks: ¬9223372036854775807<5+kt.size:=by
        have:kt.size=(keysT L).length:=by rw[hkt];simp[ByteArray.size]
        omega
       rw[<-hkt] at HT
       have HE:=Lib.hid hkt
       have HX:=Lib.hid hx
       clear hn0 hkt hT hkb hki hkl hx b2
       go_wp2_with (first
        | (go_at_call 19;(with_reducible refine HM.out.mono ?_);rintro e w2 ⟨rfl,rfl⟩)
        | (go_at_call 127;(with_reducible refine HT.out.mono ?_);rintro e w2 ⟨rfl,b3⟩))
       go_ret
       have hn0:=HN.out
       subst hn0
       refine DPost.same HI.out (dout_ok ?_) (HX.out.trans (b3.mono HX.out.size))
       rw[HE.out]
       simp
     · have HM:=Lib.hid (must_no hn0 x1 (HI.out.evX.below hx))
       have HN:=Lib.hid hn0
       clear hn0
       go_wp2_with (go_at_call 19;(with_reducible refine HM.out.mono ?_);rintro e w2 ⟨rfl,b5⟩)
       exact⟨rfl,DPost.same HI.out (dout_bad HN.out) (hx.trans (b5.mono hx.size))⟩
 · have HD:=Lib.hid (does_len (s:=s) (c:= .keys) (l:=l) (fun e=>hn e.symm))
   have HWO:=Lib.hid (dwords_bad ao c l.length 2 X (by omega) h.evX)
   clear h hl hn
   rw[HD.out]
   go_enter Tryz.func71,Tryz.ntmps71
   go_wp2_with (go_at_call 17;(with_reducible refine HWO.out.mono ?_);rintro e w1 ⟨rfl,b1⟩)
   exact⟨rfl,DPost.same HI.out (dout_bad (by decide)) b1⟩
end
end Go.Proofs.YtpgkjnebklknjaaGreatDoor
namespace Go.Proofs.YtpgkjnebklknjaaGreatDoor
open Go.RowKit Go.Deep Go.Shelf Go.Sort Go.Maps
section
variable {w0 X:World} {dk:Nat} {s:Dsk} {G:DGh}
theorem nil_of_len {l:List ByteArray} (h:l.length=0):l= []:=List.length_eq_zero_iff.1 h
theorem one_words {l:List ByteArray} (h:l.length=1): ∃x,l= [x]:=by
 match l,h with
 | [x],_=>exact⟨x,rfl⟩
theorem two_words {l:List ByteArray} (h:l.length=2): ∃x y,l= [x,y]:=by
 match l,h with
 | [x,y],_=>exact⟨x,y,rfl⟩
theorem three_words {l:List ByteArray} (h:l.length=3): ∃x y z,l= [x,y,z]:=by
 match l,h with
 | [x,y,z],_=>exact⟨x,y,z,rfl⟩
theorem word_at {ao:Option Addr} {l:List ByteArray} (h:textsAt X ao l) (i:Nat) (x:ByteArray) (hi:l[i]? =some x): ∃b o,ao=some ⟨b,o,none⟩/\X.cell? ⟨b,o+i,none⟩=some (.string x):=h i x hi
set_option maxRecDepth 100000 in
theorem dhelp_any (ao:Option Addr) (c:Nat) (l:List ByteArray) (h:DI w0 X dk s G) (_hl:WordsOk X ao c l):
  Calls Tryz.prog 69 #[.pointer (some ⟨dk,0,none⟩),.slice ao l.length c] X (DPost w0 X dk G (doesD s .help l)):=by
 have HI:=Lib.hid h
 by_cases hn:l.length=0
 · have HWO:=Lib.hid (dwords_ok ao c l.length 0 X (by rw[hn];rfl))
   have HD:=Lib.hid (show doesD s .help l=(s,(0,helpT)) by rw[nil_of_len hn];rfl)
   rw[hn] at HWO ⊢
   rw[HD.out]
   clear h _hl hn
   go_enter Tryz.func69,Tryz.ntmps69
   go_wp2_with (go_at_call 17;(with_reducible refine HWO.out.mono ?_);rintro e w1 ⟨rfl,rfl⟩)
   go_ret
   exact DPost.same HI.out (dout_ok (by kernel_rfl)) (Below.refl _ _)
 · have HD:=Lib.hid (does_len (s:=s) (c:= .help) (l:=l) (fun e=>hn e.symm))
   have HWO:=Lib.hid (dwords_bad ao c l.length 0 X (by omega) h.evX)
   clear h _hl hn
   rw[HD.out]
   go_enter Tryz.func69,Tryz.ntmps69
   go_wp2_with (go_at_call 17;(with_reducible refine HWO.out.mono ?_);rintro e w1 ⟨rfl,b1⟩)
   exact⟨rfl,DPost.same HI.out (dout_bad (by decide)) b1⟩
theorem edges_ok (h:DGraph X s G): ∀k∈edgesP s.L,KeyOk k/\k.word.size<=100000:=fun k hk=>keyB_ok (h.kok k (List.mem_filter.1 hk).1)
theorem edges_len (h:DGraph X s G):(edgesP s.L).length<=3600:=Nat.le_trans (List.length_filter_le _ _) h.len
set_option maxRecDepth 100000 in
set_option maxHeartbeats 4000000 in
theorem dedges_any (ao:Option Addr) (c:Nat) (l:List ByteArray) (h:DI w0 X dk s G) (_hl:WordsOk X ao c l):
  Calls Tryz.prog 66 #[.pointer (some ⟨dk,0,none⟩),.slice ao l.length c] X (DPost w0 X dk G (doesD s .edges l)):=by
 have HI:=Lib.hid h
 by_cases hn:l.length=0
 · have HWO:=Lib.hid (dwords_ok ao c l.length 0 X (by rw[hn];rfl))
   have HD:=Lib.hid (show doesD s .edges l=(s,(0,[101,100,103,101,115,32]++keysT (edgesP s.L))) by rw[nil_of_len hn];rfl)
   rw[hn] at HWO ⊢
   rw[HD.out]
   have hok:=edges_ok h.gra
   have hel:=edges_len h.gra
   have HE:=Lib.hid (edges_any X h.gra.gat)
   generalize edgesP s.L=L at*
   have hT:=keysT_len L hok (by omega)
   obtain⟨_,_,q2,_⟩:=h.cells
   obtain⟨kt,hkt⟩: ∃kt,kt=(⟨(keysT L).toArray⟩:ByteArray):=⟨_,rfl⟩
   have hks: ¬9223372036854775807<6+kt.size:=by
    have:kt.size=(keysT L).length:=by rw[hkt];simp[ByteArray.size]
    omega
   have HKT:=Lib.hid fun(W:World) (hW:Below X.heap.size X W) (ko:Option Addr) (kc:Nat) (hki:KeysIn W ko L)=>dkeysText_any ko kc L W hki hok (by omega) (HI.out.ptX.below hW)
   rw[<-hkt] at HKT
   have HT:=Lib.hid hkt
   clear h _hl hn hok hel HD hT hkt
   go_enter Tryz.func66,Tryz.ntmps66
   go_wp2_with (first
    | (go_at_call 17;(with_reducible refine HWO.out.mono ?_);rintro e w1 ⟨rfl,rfl⟩)
    | (go_at_call 128;(with_reducible refine HE.out.mono ?_);rintro e w1 ⟨ko,kc,rfl,hki,b1⟩;have HB:=Lib.hid b1;have HK:=Lib.hid (HKT.out w1 b1 ko kc hki))
    | (go_at_call 127;(with_reducible refine HK.out.mono ?_);rintro e w2 ⟨rfl,b2⟩))
   go_ret
   refine DPost.same HI.out (dout_ok ?_) (HB.out.trans (b2.mono HB.out.size))
   rw[HT.out]
   simp
 · have HD:=Lib.hid (does_len (s:=s) (c:= .edges) (l:=l) (fun e=>hn e.symm))
   have HWO:=Lib.hid (dwords_bad ao c l.length 0 X (by omega) h.evX)
   clear h _hl hn
   rw[HD.out]
   go_enter Tryz.func66,Tryz.ntmps66
   go_wp2_with (go_at_call 17;(with_reducible refine HWO.out.mono ?_);rintro e w1 ⟨rfl,b1⟩)
   exact⟨rfl,DPost.same HI.out (dout_bad (by decide)) b1⟩
end
end Go.Proofs.YtpgkjnebklknjaaGreatDoor
namespace Go.Proofs.YtpgkjnebklknjaaGreatDoor
open Go.RowKit Go.Deep Go.Shelf Go.Sort Go.Maps
section
variable {w0 X:World} {dk:Nat} {s:Dsk} {G:DGh}
theorem dnum_at (h:DI w0 X dk s G) {x:ByteArray} (hx:x.size<=100000) (W:World) (hW:Below X.heap.size X W):
  Calls Tryz.prog 116 #[.string x] W (NumOut (numB x) W):=
 dnumber_any x W hx (h.ptX.below hW) (h.nvX.below hW) (h.evX.below hW)
theorem dprop_gr (W:World) (h:DGraph W s G) (n:Int) (word:ByteArray) (hn:i64 n) (hw:word.size<=100000):
  Calls Tryz.prog 140 #[.pointer (some ⟨G.gb,0,none⟩),.int .i64 n,.string word] W fun e w' =>e= .returned (.tuple #[.string (propP s.G n word).1,errN (propP s.G n word).2])/\W=w' :=by
 have:=gprop_any n word W h.gat h.gp hn (by unfold maxLen;omega)
 rw[<-prop_graph h.keys h.kok] at this
 exact this
theorem DGraph.below (h:DGraph X s G) {Y:World} (hb:Below X.heap.size X Y):DGraph Y s G:=h.frame (F:=fun _=>False) (Fr.new hb) (fun _ _ e=>e)
set_option maxRecDepth 100000 in
set_option maxHeartbeats 4000000 in
theorem dprop_any (ao:Option Addr) (c:Nat) (l:List ByteArray) (h:DI w0 X dk s G) (hl:WordsOk X ao c l):
  Calls Tryz.prog 76 #[.pointer (some ⟨dk,0,none⟩),.slice ao l.length c] X (DPost w0 X dk G (doesD s .prop l)):=by
 have HI:=Lib.hid h
 by_cases hn:l.length=2
 · have HWO:=Lib.hid (dwords_ok ao c l.length 2 X (by rw[hn];rfl))
   obtain⟨x,y,rfl⟩:=two_words hn
   obtain⟨wb,wo,rfl,i0⟩:=word_at hl.tx 0 x rfl
   obtain⟨b',o',e1,i1⟩:=word_at hl.tx 1 y rfl
   cases e1
   rw[Nat.add_zero] at i0
   have hys:=hl.small y (by simp)
   have HN:=Lib.hid fun(W:World) (hW:Below X.heap.size X W)=>dnum_at h (hl.small x (by simp)) W hW
   obtain⟨_,_,q2,hdl⟩:=h.cells
   have hib:=World.block_lt_of_cell? X _ i0
   rw[hn] at HWO ⊢
   have hc2:(2:Int)<=(c:Int):=by have:=hl.cap;simp at this;omega
   cases hk:numB x with
   | none=>
     rw[hk] at HN
     have HD:=Lib.hid (does_prop_none (s:=s) (y:=y) hk)
     clear h hl hk hn hys
     rw[HD.out]
     go_enter Tryz.func76,Tryz.ntmps76
     go_wp2_with (go_at_call 17;(with_reducible refine HWO.out.mono ?_);rintro e w1 ⟨rfl,rfl⟩)
     go_region_with (first|(go_at_call 116;(with_reducible refine(HN.out _ (Below.refl _ X).drew).mono ?_);rintro e x1 ⟨rfl,b1⟩;(refine(fun(_:wpAny Tryz.prog .any #[] (fun _ _ _=>True) 0 #[] ⟨#[],[]⟩ X)=>⟨rfl,DPost.same HI.out (dout_bad (by decide)) ((Below.refl _ X).drew.trans b1)⟩) ?_)))
     all_goals trivial
   | some n=>
     rw[hk] at HN
     have HD:=Lib.hid (does_prop (s:=s) (y:=y) hk)
     have hni:=numB_i64 hk
     have HP:=Lib.hid fun(W:World) (hW:Below X.heap.size X W)=>dprop_gr W (h.gra.below hW) n y hni hys
     rw[HD.out]
     generalize (propP s.G n y).1=v at*
     generalize (propP s.G n y).2=er at*
     have p1:=fun Z:InC (Bel X)=>Z.cell q2
     have j0:=fun Z:InC (Bel X)=>Z.cell i0
     have j1:=fun Z:InC (Bel X)=>Z.cell i1
     have C1:=Lib.hid fun(Z:InC (Bel X))=>(HN.out Z.w Z.ok)
     have C2:=Lib.hid fun(Z:InC (Bel X))=>(HP.out Z.w Z.ok).mono fun _ _ h=>And.intro h.1 h.2.symm
     clear h hl hk hn hys HD hni
     go_enter Tryz.func76,Tryz.ntmps76
     go_wp2_with (go_at_call 17;(with_reducible refine HWO.out.mono ?_);rintro e w1 ⟨rfl,rfl⟩)
     refine wp_region_in (S:=Bel X) (by kernel_rfl) (by kernel_rfl) (bel_drew (Below.refl _ X)) (fun hne=> ?_)
     repeat (go_big_quiet_step (first
      | (go_at_call 116;exact InC.call (C1.out _))
      | (go_at_call 140;exact InC.call_same (C2.out _))))
     refine wpQuiet_nil ?_
     rintro _ ⟨Z,rfl⟩
     have hZ:Below X.heap.size X Z.w:=Z.ok
     clear C1 C2 p1 j0 j1
     by_cases hn0:er=0
     · have HM:=Lib.hid (must_zero hn0 Z.w)
       have HN:=Lib.hid hn0
       clear hn0
       go_wp2_with (go_at_call 19;(with_reducible refine HM.out.mono ?_);rintro e w2 ⟨rfl,rfl⟩)
       go_ret
       have hn0:=HN.out
       subst hn0
       exact DPost.same HI.out (dout_ok rfl) hZ
     · have HM:=Lib.hid (must_no hn0 Z.w (HI.out.evX.below hZ))
       have HN:=Lib.hid hn0
       clear hn0
       go_wp2_with (go_at_call 19;(with_reducible refine HM.out.mono ?_);rintro e w2 ⟨rfl,b5⟩)
       exact⟨rfl,DPost.same HI.out (dout_bad HN.out) (hZ.trans (b5.mono hZ.size))⟩
 · have HD:=Lib.hid (does_len (s:=s) (c:= .prop) (l:=l) (fun e=>hn e.symm))
   have HWO:=Lib.hid (dwords_bad ao c l.length 2 X (by omega) h.evX)
   clear h hl hn
   rw[HD.out]
   go_enter Tryz.func76,Tryz.ntmps76
   go_wp2_with (go_at_call 17;(with_reducible refine HWO.out.mono ?_);rintro e w1 ⟨rfl,b1⟩)
   exact⟨rfl,DPost.same HI.out (dout_bad (by decide)) b1⟩
end
end Go.Proofs.YtpgkjnebklknjaaGreatDoor
namespace Go.Proofs.YtpgkjnebklknjaaGreatDoor
open Go.RowKit Go.Deep Go.Shelf Go.Sort Go.Maps
section
variable {w0 X:World} {dk:Nat} {s:Dsk} {G:DGh}
theorem intsIn_at {w:World} {ao:Option Addr} {l:List Int} (h:IntsIn w ao l):intsAt w ao l:=fun i x hi=>by
 obtain⟨b,e,hc⟩:=h i x hi
 exact⟨b,0,e,by rw[Nat.zero_add];exact hc⟩
theorem DGraph.nodes_ok (h:DGraph X s G) (kind:ByteArray):(∀n∈sortI (nodesN (nodesV s.gh s.ga s.gt s.L) kind),i64B n)/\(sortI (nodesN (nodesV s.gh s.ga s.gt s.L) kind)).length<=3600:=by
 refine⟨fun n hn=> ?_,?_⟩
 · have h1:=(mem_sortI _ _).2 hn
   unfold nodesN nodesV at h1
   obtain⟨p,hp,rfl⟩:=List.mem_map.1 h1
   obtain⟨k,hk,rfl⟩:=List.mem_map.1 (List.mem_filter.1 hp).1
   exact(KeyOk.of (h.kok k (List.mem_filter.1 hk).1)).a
 · have h1:(sortI (nodesN (nodesV s.gh s.ga s.gt s.L) kind)).length=(nodesN (nodesV s.gh s.ga s.gt s.L) kind).length:=by unfold sortI;simp
   rw[h1]
   unfold nodesN nodesV
   rw[List.length_map]
   refine Nat.le_trans (List.length_filter_le _ _) ?_
   rw[List.length_map]
   exact Nat.le_trans (List.length_filter_le _ _) h.len
theorem does_nodes {s:Dsk} {x:ByteArray}:doesD s .nodes [x]=(s,(0,[110,111,100,101,115,32]++wordsT (sortI (nodesN (nodesV s.gh s.ga s.gt s.L) (plainB x))))):=rfl
set_option maxRecDepth 100000 in
set_option maxHeartbeats 4000000 in
theorem dnodes_any (ao:Option Addr) (c:Nat) (l:List ByteArray) (h:DI w0 X dk s G) (hl:WordsOk X ao c l):
  Calls Tryz.prog 72 #[.pointer (some ⟨dk,0,none⟩),.slice ao l.length c] X (DPost w0 X dk G (doesD s .nodes l)):=by
 have HI:=Lib.hid h
 by_cases hn:l.length=1
 · have HWO:=Lib.hid (dwords_ok ao c l.length 1 X (by rw[hn];rfl))
   obtain⟨x,rfl⟩:=one_words hn
   obtain⟨wb,wo,rfl,i0⟩:=word_at hl.tx 0 x rfl
   rw[Nat.add_zero] at i0
   rw[hn] at HWO ⊢
   obtain⟨_,_,q2,hdl⟩:=h.cells
   have hib:=World.block_lt_of_cell? X _ i0
   have HD:=Lib.hid (does_nodes (s:=s) (x:=x))
   obtain⟨hok,hln⟩:=h.gra.nodes_ok (plainB x)
   have HG:=Lib.hid fun(W:World) (hW:Below X.heap.size X W)=>gnodes_any (plainB x) W (h.gra.below hW).gat
   rw[HD.out]
   generalize sortI (nodesN (nodesV s.gh s.ga s.gt s.L) (plainB x))=L at*
   have hT:=wordsT_len L hok
   have HJ:=Lib.hid fun(W:World) (hW:Below X.heap.size X W) (ko:Option Addr) (kc:Nat) (hki:IntsIn W ko L)=>djoin_any ko kc L W (intsIn_at hki) hok (by omega) (HI.out.ptX.below hW)
   obtain⟨kt,hkt⟩: ∃kt,kt=(⟨(wordsT L).toArray⟩:ByteArray):=⟨_,rfl⟩
   have hks: ¬9223372036854775807<6+kt.size:=by
    have:kt.size=(wordsT L).length:=by rw[hkt];simp[ByteArray.size]
    omega
   rw[<-hkt] at HJ
   have HT:=Lib.hid hkt
   clear h hl hn hok HD hkt hT hln
   go_enter Tryz.func72,Tryz.ntmps72
   go_wp2_with (go_at_call 17;(with_reducible refine HWO.out.mono ?_);rintro e w1 ⟨rfl,rfl⟩)
   go_region_held3 (fun Z=>Z.cell? ⟨dk,2,none⟩=some (.pointer (some ⟨G.gb,0,none⟩))/\Z.cell? ⟨wb,wo,none⟩=some (.string x))
    (first|exact⟨q2,i0⟩|exact hS1|exact hS2|assumption)
    (first
     | (go_at_call 133;(with_reducible refine(dplain_any _ _).mono ?_);rintro e x1 ⟨rfl,rfl⟩)
     | (go_at_call 135;(with_reducible refine(HG.out _ (Below.refl _ X).drew).mono ?_);rintro e x1 ⟨ko,kc,rfl,hki,b2⟩;have hS1:=And.intro (below_cell b2 hdl q2) (below_cell b2 hib i0);have HB:=Lib.hid ((Below.refl X.heap.size X).drew.trans b2);have HK:=Lib.hid (HJ.out x1 HB.out ko kc hki))
     | (go_at_call 134;(with_reducible refine HK.out.mono ?_);rintro e x2 ⟨rfl,b3⟩;have HB3:=Lib.hid (HB.out.trans (b3.mono HB.out.size));have hS2:=And.intro (below_cell HB3.out hdl q2) (below_cell HB3.out hib i0)))
   go_wp2_with fail
   go_ret
   refine DPost.same HI.out (dout_ok ?_) HB3.out
   rw[HT.out]
   simp
 · have HD:=Lib.hid (does_len (s:=s) (c:= .nodes) (l:=l) (fun e=>hn e.symm))
   have HWO:=Lib.hid (dwords_bad ao c l.length 1 X (by omega) h.evX)
   clear h hl hn
   rw[HD.out]
   go_enter Tryz.func72,Tryz.ntmps72
   go_wp2_with (go_at_call 17;(with_reducible refine HWO.out.mono ?_);rintro e w1 ⟨rfl,b1⟩)
   exact⟨rfl,DPost.same HI.out (dout_bad (by decide)) b1⟩
end
end Go.Proofs.YtpgkjnebklknjaaGreatDoor
namespace Go.Proofs.YtpgkjnebklknjaaGreatDoor
open Go.RowKit Go.Deep Go.Shelf Go.Sort Go.Maps
section
variable {w0 X W Y:World} {dk:Nat} {s:Dsk} {G:DGh}
theorem DPost.turn {s' :Dsk} {a:Ans} {e:Ending} {F:Nat->Prop} (h:DI w0 Y dk s' G) (ho:DOut a e) (hx:Below X.heap.size X W) (hf:Fr F W Y) (hF: ∀k,F k->G.foot dk k):DPost w0 X dk G (s',a) e Y:=
 ⟨ho,G,h,(Fr.new (F:=G.foot dk) hx).next hf (fun k _ hk=>hF k hk),fun _ hk=> .inl hk⟩
theorem DI.cutTo (h:DI w0 W dk s G) {D:List ByteArray} {left:Int} {log:List Ent} {ps:Pst} (hb:BI W G.bb G.db D s.cut left log s.down s.hist s.known ps G.g) (e1:log.length=s.used) {n:Int} (hn:i64 n) (hd:BD Y G.db D (decide (0<=n)) (imax n 0)) (hf:Fr (· =G.db) W Y):
  DI w0 Y dk { s with cut:=decide (0<=n),left:=n } G:=by
 have hg:=h.gra.frame hf (fun k hk e=>h.ng k hk (e▸ .inr (.inl rfl)))
 have h2:n<=9223372036854775807:=by unfold i64 at hn;omega
 have hlr:decide (0<=n)=true->0<=imax n 0/\imax n 0<=9223372036854775807:=fun hc=>by
  have:=of_decide_eq_true hc
  unfold imax;omega
 have hll:decide (0<=n)=true->imax n 0=n:=fun hc=>by
  have:=of_decide_eq_true hc
  unfold imax;omega
 refine⟨hf.keeps h.blk (fun e=>h.nd.1 e),?_,⟨hg.gat,hg.gp,hg.pm,hg.keys,hg.kok,hg.len,hg.lt⟩,h.nd,h.ng,h.low,h.be.trans (hf.below (fun k _ e=>e▸h.low _ (.inl (.inr (.inl rfl)))) h.be.size),h.ev,h.pt,h.nv⟩
 exact⟨D,imax n 0,log,ps,⟨hb.pl,hb.says,hd,hb.p.frame hf (fun k hk e=>hb.nf (e▸hk)),hb.k,hb.nf,hlr⟩,e1,hll⟩
set_option maxRecDepth 100000 in
set_option maxHeartbeats 4000000 in
theorem dcut_any (ao:Option Addr) (c:Nat) (l:List ByteArray) (h:DI w0 X dk s G) (hl:WordsOk X ao c l):
  Calls Tryz.prog 65 #[.pointer (some ⟨dk,0,none⟩),.slice ao l.length c] X (DPost w0 X dk G (doesD s .cut l)):=by
 have HI:=Lib.hid h
 by_cases hn:l.length=1
 · have HWO:=Lib.hid (dwords_ok ao c l.length 1 X (by rw[hn];rfl))
   obtain⟨x,rfl⟩:=one_words hn
   obtain⟨wb,wo,rfl,i0⟩:=word_at hl.tx 0 x rfl
   rw[Nat.add_zero] at i0
   rw[hn] at HWO ⊢
   have HN:=Lib.hid fun(W:World) (hW:Below X.heap.size X W)=>dnum_at h (hl.small x (by simp)) W hW
   obtain⟨q0,_,_,hdl⟩:=h.cells
   have hib:=World.block_lt_of_cell? X _ i0
   cases hk:numB x with
   | none=>
     rw[hk] at HN
     have HD:=Lib.hid (does_one_none (s:=s) (c:= .cut) rfl hk)
     clear h hl hk hn
     rw[HD.out]
     go_enter Tryz.func65,Tryz.ntmps65
     go_wp2_with (go_at_call 17;(with_reducible refine HWO.out.mono ?_);rintro e w1 ⟨rfl,rfl⟩)
     go_region_with (first|(go_at_call 116;(with_reducible refine(HN.out _ (Below.refl _ X).drew).mono ?_);rintro e x1 ⟨rfl,b1⟩;(refine(fun(_:wpAny Tryz.prog .any #[] (fun _ _ _=>True) 0 #[] ⟨#[],[]⟩ X)=>⟨rfl,DPost.same HI.out (dout_bad (by decide)) ((Below.refl _ X).drew.trans b1)⟩) ?_)))
     all_goals trivial
   | some n=>
     rw[hk] at HN
     have HD:=Lib.hid (does_cut (s:=s) hk)
     have hni:=numB_i64 hk
     obtain⟨D,left,log,ps,hb,e1,_⟩:=h.base.bi
     have HC:=Lib.hid fun(W:World) (hW:Below X.heap.size X W)=>bcut_any n hni W (hb.below hW).dk
     have HB:=Lib.hid hb
     have HE:=Lib.hid e1
     have HNI:=Lib.hid hni
     rw[HD.out]
     clear h hl hk hn hni hb e1
     go_enter Tryz.func65,Tryz.ntmps65
     go_wp2_with (go_at_call 17;(with_reducible refine HWO.out.mono ?_);rintro e w1 ⟨rfl,rfl⟩)
     go_region_with (first
      | (go_at_call 116;(with_reducible refine(HN.out _ (Below.refl _ X).drew).mono ?_);rintro e x1 ⟨rfl,b1⟩;have q0:=below_cell ((Below.refl _ X).drew.trans b1) hdl q0;have HX:Hid (Below X.heap.size X x1):=Lib.hid ((Below.refl _ X).drew.trans b1))
      | (go_at_call 126;(with_reducible refine(HC.out _ HX.out).mono ?_);rintro e x2 ⟨rfl,hd,hf⟩))
     all_goals
      go_wp2_with fail
      go_ret
      exact DPost.turn ((HI.out.below HX.out).cutTo (HB.out.below HX.out) HE.out HNI.out hd hf) (dout_ok rfl) HX.out hf (fun k e=> .inr (.inl e))
 · have HD:=Lib.hid (does_len (s:=s) (c:= .cut) (l:=l) (fun e=>hn e.symm))
   have HWO:=Lib.hid (dwords_bad ao c l.length 1 X (by omega) h.evX)
   clear h hl hn
   rw[HD.out]
   go_enter Tryz.func65,Tryz.ntmps65
   go_wp2_with (go_at_call 17;(with_reducible refine HWO.out.mono ?_);rintro e w1 ⟨rfl,b1⟩)
   exact⟨rfl,DPost.same HI.out (dout_bad (by decide)) b1⟩
end
end Go.Proofs.YtpgkjnebklknjaaGreatDoor
namespace Go.Proofs.YtpgkjnebklknjaaGreatDoor
open Go.RowKit Go.Deep Go.Shelf Go.Sort Go.Maps
section
variable {w0 X W Y:World} {dk:Nat} {s:Dsk} {G:DGh}
theorem DPost.play {s' :Dsk} {a:Ans} {e:Ending} {left l2:Int} {log log' :List Ent} (h:DI w0 W dk s G) (ho:DOut a e) (hx:Below X.heap.size X W)
  (hn:BN W G.bb G.db s.cut left log s.hist s.known G.g s'.cut l2 log' s'.down s'.hist s'.known Y) (hu:log'.length=s'.used) (hl:s'.cut=true->l2=s'.left) (hg:s'.gh=s.gh/\s'.ga=s.ga/\s'.gt=s.gt):DPost w0 X dk G (s',a) e Y:=by
 obtain⟨D',ps',g',hb,hgr⟩:=hn.bi
 have hfr:=hn.fr
 have hlow: ∀k,g'.foot G.bb k->w0.heap.size<=k:=fun k hk=>(hgr k hk).elim (fun e=>h.low k (.inl (.inr (.inr e)))) (fun e=>Nat.le_trans h.be.size e)
 have hgra:=h.gra.frame hfr (fun k hk e=>h.ng k hk (e.elim (fun e=> .inr (.inr e)) (fun e=> .inr (.inl e))))
 obtain⟨e1,e2,e3⟩:=hg
 have hL:s'.L=s.L:=by unfold Dsk.L;rw[e1,e2,e3]
 refine⟨ho,⟨G.db,G.bb,g',G.gb,G.nb,G.eo,G.pm⟩,⟨hfr.keeps h.blk (fun e=>e.elim h.nd.2 h.nd.1),⟨D',l2,log',ps',hb,hu,hl⟩,?_,⟨h.nd.1,fun e=>(hgr _ e).elim h.nd.2 (fun e2=>absurd h.dlt (by omega))⟩,fun k hk e=> ?_,fun k hk=> ?_,h.be.trans (hfr.below (fun k _ e=>e.elim (fun e=>h.low k (.inl (.inr (.inr e)))) (fun e=>e▸h.low _ (.inl (.inr (.inl rfl))))) h.be.size),h.ev,h.pt,h.nv⟩,?_,fun k hk=> ?_⟩
 · refine⟨?_,?_,hgra.pm,?_,?_,?_,hgra.lt⟩
   · rw[e1,e2,e3,hL];exact hgra.gat
   · rw[e1,e2,e3,hL];exact hgra.gp
   · rw[e1,e2,e3,hL];exact hgra.keys
   · rw[hL];exact hgra.kok
   · rw[hL];exact hgra.len
 · have hlt:=h.gra.lt k hk
   rcases e with e|e|e
   · exact h.ng k hk (.inl e)
   · exact h.ng k hk (.inr (.inl e))
   · rcases hgr k e with e|e
     · exact h.ng k hk (.inr (.inr e))
     · omega
 · rcases hk with (hk|hk|hk)|hk
   · exact h.low k (.inl (.inl hk))
   · exact h.low k (.inl (.inr (.inl hk)))
   · exact hlow k hk
   · exact h.low k (.inr hk)
 · exact(Fr.new (F:=G.foot dk) hx).next hfr (fun k _ hk=>hk.elim (fun e=> .inr (.inr e)) (fun e=> .inr (.inl e)))
 · rcases hk with (hk|hk|hk)|hk
   · exact .inl (.inl (.inl hk))
   · exact .inl (.inl (.inr (.inl hk)))
   · exact(hgr k hk).elim (fun e=> .inl (.inl (.inr (.inr e)))) (fun e=> .inr (Nat.le_trans hx.size e))
   · exact .inl (.inr hk)
theorem offB_same {cut:Bool} {left left' :Int} (h:cut=true->left=left'):offB cut left=offB cut left' :=by
 cases cut with
 | false=>rfl
 | true=>rw[h rfl]
theorem goC_same {d:Bool} {u:Nat} {cut:Bool} {left left' :Int} (h:cut=true->left=left') (b:Bool):goC d u cut left b=goC d u cut left' b:=by unfold goC;rw[offB_same h]
theorem dnC_same {d:Bool} {u:Nat} {cut:Bool} {left left' :Int} (h:cut=true->left=left') (b:Bool):dnC d u cut left b=dnC d u cut left' b:=by unfold dnC;rw[offB_same h]
theorem forBE_same {d:Bool} {u:Nat} {cut:Bool} {left left' :Int} (h:cut=true->left=left') (N:Nat) (k a:Int):forBE d u cut left N k a=forBE d u cut left' N k a:=by unfold forBE;rw[offB_same h]
theorem DPost.grow {r:Dsk×Ans} {e:Ending} {Z:World} (h:DPost w0 X dk G r e Y) (hb:Below Y.heap.size Y Z):DPost w0 X dk G r e Z:=by
 obtain⟨G',h1,h2,h3⟩:=h.di
 exact⟨h.out,G',h1.below hb,h2.next (Fr.new (F:=fun _=>False) hb) (fun _ _ e=>e.elim),h3⟩
theorem DPost.evX {r:Dsk×Ans} {e:Ending} (h:DPost w0 X dk G r e Y):ErrVar Y:=by
 obtain⟨G',h1,_⟩:=h.di;exact h1.evX
theorem dforget_base (h:DI w0 W dk s G) (n:Int):
  Calls Tryz.prog 131 #[.pointer (some ⟨G.bb,0,none⟩),.int .i64 n,.int .i64 (-1)] W fun e Y=>e= .returned (errN (forD s n).2.1)/\ErrVar Y/\ ∀e',DOut (forD s n).2 e' ->DPost w0 W dk G (forD s n) e' Y:=by
 obtain⟨D,left,log,ps,hb,e1,e2⟩:=h.base.bi
 refine(bforget_any n (-1) W hb h.ptX (by unfold i64;omega)).mono ?_
 rintro e Y ⟨l2,rfl,hn,hl⟩
 rw[goC_same e2,dnC_same e2,e1] at hn
 rw[goC_same e2,e1] at hl
 have hP: ∀e',DOut (forD s n).2 e' ->DPost w0 W dk G (forD s n) e' Y:=fun e' ho=>DPost.play (s' :=(forD s n).1) (a:=(forD s n).2) h ho (Below.refl _ _) hn (by
  show(if goC s.down s.used s.cut s.left (decide (forR s.hist.length (s.known:Int) n=0))=true then log++ [Ent.fo n.toNat] else log).length=(if goC s.down s.used s.cut s.left (decide (forR s.hist.length (s.known:Int) n=0))=true then s.used+1 else s.used)
  split<;>simp[e1]) (fun hc=>by
  rw[hl hc]
  show _=(if goC s.down s.used s.cut s.left (decide (forR s.hist.length (s.known:Int) n=0))=true then s.left-1 else s.left)
  rw[e2 hc]) ⟨rfl,rfl,rfl⟩
 refine⟨by rw[forBE_same e2,e1];rfl,?_,hP⟩
 rcases Decidable.em ((forD s n).2.1=0) with h0|h0
 · exact(hP _ (.inl ⟨h0,rfl⟩)).evX
 · exact(hP _ (.inr ⟨h0,rfl⟩)).evX
set_option maxRecDepth 100000 in
set_option maxHeartbeats 4000000 in
theorem dforget_any (ao:Option Addr) (c:Nat) (l:List ByteArray) (h:DI w0 X dk s G) (hl:WordsOk X ao c l):
  Calls Tryz.prog 68 #[.pointer (some ⟨dk,0,none⟩),.slice ao l.length c] X (DPost w0 X dk G (doesD s .forget l)):=by
 have HI:=Lib.hid h
 by_cases hn:l.length=1
 · have HWO:=Lib.hid (dwords_ok ao c l.length 1 X (by rw[hn];rfl))
   obtain⟨x,rfl⟩:=one_words hn
   obtain⟨wb,wo,rfl,i0⟩:=word_at hl.tx 0 x rfl
   rw[Nat.add_zero] at i0
   rw[hn] at HWO ⊢
   have HN:=Lib.hid fun(W:World) (hW:Below X.heap.size X W)=>dnum_at h (hl.small x (by simp)) W hW
   obtain⟨_,q1,_,hdl⟩:=h.cells
   have hib:=World.block_lt_of_cell? X _ i0
   cases hk:numB x with
   | none=>
     rw[hk] at HN
     have HD:=Lib.hid (does_one_none (s:=s) (c:= .forget) rfl hk)
     clear h hl hk hn
     rw[HD.out]
     go_enter Tryz.func68,Tryz.ntmps68
     go_wp2_with (go_at_call 17;(with_reducible refine HWO.out.mono ?_);rintro e w1 ⟨rfl,rfl⟩)
     go_region_with (first|(go_at_call 116;(with_reducible refine(HN.out _ (Below.refl _ X).drew).mono ?_);rintro e x1 ⟨rfl,b1⟩;(refine(fun(_:wpAny Tryz.prog .any #[] (fun _ _ _=>True) 0 #[] ⟨#[],[]⟩ X)=>⟨rfl,DPost.same HI.out (dout_bad (by decide)) ((Below.refl _ X).drew.trans b1)⟩) ?_)))
     all_goals trivial
   | some n=>
     rw[hk] at HN
     have HD:=Lib.hid (does_forget (s:=s) hk)
     have HC:=Lib.hid fun(W:World) (hW:Below X.heap.size X W)=>dforget_base (h.below hW) n
     have HT:=Lib.hid (show(forD s n).2.2= [102,111,114,103,101,116] from rfl)
     rw[HD.out]
     obtain⟨s',er,tx,hF⟩: ∃s' er tx,forD s n=(s',(er,tx)):=⟨_,_,_,rfl⟩
     rw[hF] at HC HT ⊢
     simp only[] at HC HT
     clear h hl hk hn hF HD
     by_cases hz:er=0
     · have HZ:=Lib.hid hz
       have HM:=Lib.hid (must_zero hz)
       clear hz
       go_enter Tryz.func68,Tryz.ntmps68
       go_wp2_with (go_at_call 17;(with_reducible refine HWO.out.mono ?_);rintro e w1 ⟨rfl,rfl⟩)
       go_region_with (first
        | (go_at_call 116;(with_reducible refine(HN.out _ (Below.refl _ X).drew).mono ?_);rintro e x1 ⟨rfl,b1⟩;have q1:=below_cell ((Below.refl _ X).drew.trans b1) hdl q1;have HX:Hid (Below X.heap.size X x1):=Lib.hid ((Below.refl _ X).drew.trans b1))
        | (go_at_call 131;(with_reducible refine(HC.out _ HX.out).mono ?_);rintro e x2 ⟨rfl,hev,hP⟩;have HP:=Lib.hid hP)
        | (go_at_call 19;(with_reducible refine(HM.out _).mono ?_);rintro e x3 ⟨rfl,rfl⟩))
       all_goals
        go_wp2_with fail
        go_ret
        exact DPost.later HX.out.size HX.out (HP.out _ (by have h1:=HZ.out;have h2:=HT.out;subst h1;subst h2;exact dout_ok rfl))
     · have HZ:=Lib.hid hz
       have HM:=Lib.hid (fun w hg=>must_no hz w hg)
       clear hz
       go_enter Tryz.func68,Tryz.ntmps68
       go_wp2_with (go_at_call 17;(with_reducible refine HWO.out.mono ?_);rintro e w1 ⟨rfl,rfl⟩)
       go_region_with (first
        | (go_at_call 116;(with_reducible refine(HN.out _ (Below.refl _ X).drew).mono ?_);rintro e x1 ⟨rfl,b1⟩;have q1:=below_cell ((Below.refl _ X).drew.trans b1) hdl q1;have HX:Hid (Below X.heap.size X x1):=Lib.hid ((Below.refl _ X).drew.trans b1))
        | (go_at_call 131;(with_reducible refine(HC.out _ HX.out).mono ?_);rintro e x2 ⟨rfl,hev,hP⟩;have HP:=Lib.hid hP)
        | (go_at_call 19;(with_reducible refine(HM.out _ hev).mono ?_);rintro e x3 ⟨rfl,b3⟩;(refine(fun(_:wpAny Tryz.prog .any #[] (fun _ _ _=>True) 0 #[] ⟨#[],[]⟩ X)=>⟨rfl,DPost.later HX.out.size HX.out (DPost.grow (HP.out _ (dout_bad HZ.out)) b3)⟩) ?_)))
       all_goals trivial
 · have HD:=Lib.hid (does_len (s:=s) (c:= .forget) (l:=l) (fun e=>hn e.symm))
   have HWO:=Lib.hid (dwords_bad ao c l.length 1 X (by omega) h.evX)
   clear h hl hn
   rw[HD.out]
   go_enter Tryz.func68,Tryz.ntmps68
   go_wp2_with (go_at_call 17;(with_reducible refine HWO.out.mono ?_);rintro e w1 ⟨rfl,b1⟩)
   exact⟨rfl,DPost.same HI.out (dout_bad (by decide)) b1⟩
end
end Go.Proofs.YtpgkjnebklknjaaGreatDoor
namespace Go.Proofs.YtpgkjnebklknjaaGreatDoor
open Go.RowKit Go.Deep Go.Shelf Go.Sort Go.Maps
section
variable {w0 X W Y:World} {dk:Nat} {s:Dsk} {G:DGh}
theorem DPost.opened {a:Ans} {e:Ending} {D:List ByteArray} {left:Int} {log:List Ent} {ps ps2:Pst} {g2:Gh} {bb:Nat} {x1 x2:World} (h:DI w0 X dk s G) (hb:BI X G.bb G.db D s.cut left log s.down s.hist s.known ps G.g) (e1:log.length=s.used)
  (hf:Fr (· =G.db) X x1) (hd:BD x1 G.db D false 0) (hp:PastIs x2 bb 1 (BR G.db log.length false) s.hist ps2 g2) (hk:ps2.gone=s.known) (hft: ∀k,g2.foot bb k->x1.heap.size<=k) (hb2:Below x1.heap.size x1 x2) {v:Value}
  (hblk:x2.heap[dk]? =some (.cells #[.pointer (some ⟨G.db,0,none⟩),v,.pointer (some ⟨G.gb,0,none⟩)] 30 (0,0))) (ho:DOut a e):
  DPost w0 X dk G ({ s with cut:=false,down:=false,left:=0 },a) e (x2.setCell ⟨dk,1,none⟩ (.pointer (some ⟨bb,0,none⟩))):=by
 obtain⟨Y,hY⟩: ∃Y,Y=x2.setCell ⟨dk,1,none⟩ (.pointer (some ⟨bb,0,none⟩)):=⟨_,rfl⟩
 have hf3:Fr (fun k=>k=dk) x2 Y:=by rw[hY];exact Fr.setCell (F:=fun k=>k=dk) (p:=⟨dk,1,none⟩) (Fr.refl _ _) (fun _=>rfl) _
 have hblk' :Y.heap[dk]? =some (.cells #[.pointer (some ⟨G.db,0,none⟩),.pointer (some ⟨bb,0,none⟩),.pointer (some ⟨G.gb,0,none⟩)] 30 (0,0)):=by
  have:=block_set hblk 1 (.pointer (some ⟨bb,0,none⟩))
  rw[hY]
  simpa using this
 rw[<-hY]
 clear hY hblk
 have hfA:Fr (fun k=>k=G.db\/k=dk) X Y:=((hf.mono (G:=fun k=>k=G.db\/k=dk) (fun k _ e=> .inl e)).next (Fr.new (F:=fun _=>False) hb2) (fun _ _ e=>e.elim)).next hf3 (fun k _ e=> .inr e)
 have hs1:=hf.size
 have hdl:=h.dlt
 have hnew: ∀k,g2.foot bb k->X.heap.size<=k:=fun k hk=>Nat.le_trans hs1 (hft k hk)
 have hgra:=h.gra.frame hfA (fun k hk e=>h.ng k hk (e.elim (fun e=> .inr (.inl e)) (fun e=> .inl e)))
 have hdk:G.db≠dk:=fun e=>h.nd.1 e.symm
 refine⟨ho,⟨G.db,bb,g2,G.gb,G.nb,G.eo,G.pm⟩,⟨hblk',⟨D,0,log,ps2,⟨hb.pl,hb.says,(hd.below hb2).frame hf3 hdk,hp.frame hf3 (fun k hk e=> ?_),hk,fun e=> ?_,fun hc=>by cases hc⟩,e1,fun hc=>by cases hc⟩,⟨hgra.gat,hgra.gp,hgra.pm,hgra.keys,hgra.kok,hgra.len,hgra.lt⟩,⟨h.nd.1,fun e=> ?_⟩,fun k hk e=> ?_,fun k hk=> ?_,h.be.trans (hfA.below (fun k _ e=>e.elim (fun e=>e▸h.low _ (.inl (.inr (.inl rfl)))) (fun e=>e▸h.low _ (.inl (.inl rfl)))) h.be.size),h.ev,h.pt,h.nv⟩,hfA.mono (fun k _ e=>e.elim (fun e=> .inr (.inl e)) (fun e=> .inl e)),fun k hk=> ?_⟩
 · have:=hnew k hk;omega
 · have h1:x1.heap.size<=G.db:=hft _ e
   have:=hd.lt;omega
 · have:=hnew _ e;omega
 · have hlt:=h.gra.lt k hk
   rcases e with e|e|e
   · exact h.ng k hk (.inl e)
   · exact h.ng k hk (.inr (.inl e))
   · have:=hnew _ e;omega
 · rcases hk with (hk|hk|hk)|hk
   · exact h.low k (.inl (.inl hk))
   · exact h.low k (.inl (.inr (.inl hk)))
   · exact Nat.le_trans h.be.size (hnew k hk)
   · exact h.low k (.inr hk)
 · rcases hk with (hk|hk|hk)|hk
   · exact .inl (.inl (.inl hk))
   · exact .inl (.inl (.inr (.inl hk)))
   · exact .inr (hnew k hk)
   · exact .inl (.inr hk)
theorem does_open {s:Dsk}:doesD s .open []=({ s with cut:=false,down:=false,left:=0 },(0,[111,112,101,110])):=rfl
set_option maxRecDepth 100000 in
set_option maxHeartbeats 4000000 in
theorem dopen_any (ao:Option Addr) (c:Nat) (l:List ByteArray) (h:DI w0 X dk s G) (_hl:WordsOk X ao c l):
  Calls Tryz.prog 74 #[.pointer (some ⟨dk,0,none⟩),.slice ao l.length c] X (DPost w0 X dk G (doesD s .open l)):=by
 have HI:=Lib.hid h
 by_cases hn:l.length=0
 · have HWO:=Lib.hid (dwords_ok ao c l.length 0 X (by rw[hn];rfl))
   have HD:=Lib.hid (show doesD s .open l=_ from(nil_of_len hn)▸does_open)
   rw[hn] at HWO ⊢
   obtain⟨q0,q1,_,hdl⟩:=h.cells
   obtain⟨D,left,log,ps,hb,e1,_⟩:=h.base.bi
   have hnd:=h.nd
   have HC:=Lib.hid (bcut_any (-1) (by unfold i64;omega) X hb.dk)
   have HO:=Lib.hid fun(W:World) (hW:BD W G.db D false 0) (hf:Fr (· =G.db) X W)=>bopen_any W hW hb.says hb.pl (h.pt.below (h.be.trans (hf.below (fun k _ e=>e▸h.low _ (.inl (.inr (.inl rfl)))) h.be.size))) (h.nv.below (h.be.trans (hf.below (fun k _ e=>e▸h.low _ (.inl (.inr (.inl rfl)))) h.be.size)))
   have HB:=Lib.hid hb
   have HE:=Lib.hid e1
   have HBK:=Lib.hid h.blk
   have HND:=Lib.hid hnd
   rw[HD.out]
   clear h _hl hn hb e1 hnd
   go_enter Tryz.func74,Tryz.ntmps74
   go_wp2_with (first
    | (go_at_call 17;(with_reducible refine HWO.out.mono ?_);rintro e w1 ⟨rfl,rfl⟩)
    | (go_at_call 126;(with_reducible refine HC.out.mono ?_);rintro e x1 ⟨rfl,hd,hf⟩;have HF:=Lib.hid hf;have hblk1:=hf.keeps HBK.out (fun e=>HND.out.1 e);have p0:=block_cell hblk1 0;have HBL1:=Lib.hid hblk1;have HD1:Hid (BD x1 G.db D false 0):=Lib.hid hd;have hdl1:=Nat.lt_of_lt_of_le hdl hf.size;have HO1:=Lib.hid (HO.out x1 HD1.out HF.out);clear hd hf hblk1)
    | (go_at_call 18;(with_reducible refine HO1.out.mono ?_);rintro e x2 ⟨bb,ps2,g2,rfl,hp,hk2,hft,b2⟩;have HP:=Lib.hid hp;have HK2:=Lib.hid hk2;have HFT:=Lib.hid hft;have HB2:=Lib.hid b2;have hblk2:=(b2.block dk hdl1).trans HBL1.out;have f1:=block_free hblk2 1;have y1:=block_cell hblk2 1;have y0:=block_cell hblk2 0;have HBL2:=Lib.hid hblk2;clear hp hk2 hft b2 hblk2)
    | (go_at_call 19;(with_reducible refine(must_nil _).mono ?_);rintro e x3 ⟨rfl,rfl⟩))
   go_ret
   exact DPost.opened HI.out HB.out HE.out HF.out HD1.out HP.out HK2.out HFT.out HB2.out HBL2.out (dout_ok rfl)
 · have HD:=Lib.hid (does_len (s:=s) (c:= .open) (l:=l) (fun e=>hn e.symm))
   have HWO:=Lib.hid (dwords_bad ao c l.length 0 X (by omega) h.evX)
   clear h _hl hn
   rw[HD.out]
   go_enter Tryz.func74,Tryz.ntmps74
   go_wp2_with (go_at_call 17;(with_reducible refine HWO.out.mono ?_);rintro e w1 ⟨rfl,b1⟩)
   exact⟨rfl,DPost.same HI.out (dout_bad (by decide)) b1⟩
end
end Go.Proofs.YtpgkjnebklknjaaGreatDoor
namespace Go.Proofs.YtpgkjnebklknjaaGreatDoor
open Go.RowKit Go.Deep Go.Shelf Go.Sort Go.Maps
section
variable {w0 X W Y:World} {dk:Nat} {s:Dsk} {G:DGh}
theorem Pth.mem {E:List KeyP} {word:ByteArray}: ∀ {n:Nat} {x y:Int},Pth E word n x y->x=y\/ ∃k∈E,k.b=y
 | 0,_,_,h=> .inl h
 | _n+1,_,_,⟨k,hk,_,_,h⟩=> .inr ((Pth.mem h).elim (fun e=>⟨k,hk,e⟩) id)
theorem edgesGP_mem {hist:List (List OpP)} {a:Nat} {t:Int} {L:List KeyP} {k:KeyP} (h:k∈edgesGP (graphV hist a t L) (graphV hist a t L)):k∈L:=by
 unfold edgesGP at h
 obtain⟨p,hp,rfl⟩:=List.mem_map.1 h
 have:=(List.mem_filter.1 hp).1
 unfold graphV at this
 obtain⟨k',hk',rfl⟩:=List.mem_map.1 this
 exact hk'
theorem DGraph.hops_ok (h:DGraph X s G) (n hh:Int) (word:ByteArray) (hn:i64 n):(∀y∈hopsR s.G n word hh,i64B y)/\(hopsR s.G n word hh).length<=3601:=by
 unfold hopsR
 split
 · have hm: ∀y∈hopP (edgesGP s.G s.G) word n hh.toNat,y∈n::s.L.map (·.b):=fun y hy=>by
    obtain⟨m,_,hp⟩:=hop_mem.1 hy
    rcases hp.mem with rfl|⟨k,hk,rfl⟩
    · exact List.mem_cons_self
    · exact List.mem_cons_of_mem _ (List.mem_map.2 ⟨k,edgesGP_mem hk,rfl⟩)
   refine⟨fun y hy=> ?_,?_⟩
   · rcases List.mem_cons.1 (hm y ((mem_sortI _ _).2 hy)) with rfl|hy
     · exact hn
     · obtain⟨k,hk,rfl⟩:=List.mem_map.1 hy
       exact(KeyOk.of (h.kok k hk)).b
   · have h1:(sortI (hopP (edgesGP s.G s.G) word n hh.toNat)).length=(hopP (edgesGP s.G s.G) word n hh.toNat).length:=by unfold sortI;simp
     rw[h1]
     have h2:=nodup_le (hop_nodup (edgesGP s.G s.G) word n hh.toNat) hm
     rw[List.length_cons,List.length_map] at h2
     have:=h.len
     omega
 · exact⟨fun y hy=>absurd hy List.not_mem_nil,Nat.zero_le _⟩
theorem dhops_gr (W:World) (h:DGraph W s G) (n hh:Int) (word:ByteArray) (hn:i64 n):
  Calls Tryz.prog 132 #[.pointer (some ⟨G.gb,0,none⟩),.int .i64 n,.string word,.int .i64 hh] W fun e w' => ∃ao cap,e= .returned (.tuple #[.slice ao (hopsR s.G n word hh).length cap,errN (hopE s.G n hh)])/\IntsIn w' ao (hopsR s.G n word hh)/\Below W.heap.size W w' :=by
 refine(ghops_doc h.keys h.kok n hh word W h.gat hn).mono ?_
 rintro e w' ⟨ao,cap,rfl,h1,h2,_⟩
 exact⟨ao,cap,rfl,h1,h2⟩
end
end Go.Proofs.YtpgkjnebklknjaaGreatDoor
namespace Go.Proofs.YtpgkjnebklknjaaGreatDoor
open Go.RowKit Go.Deep Go.Shelf Go.Sort Go.Maps
section
variable {w0 X W Y:World} {dk:Nat} {s:Dsk} {G:DGh}
theorem textsAt_two (V:World) (x z:ByteArray) (ty:TypeId):textsAt (V.alloc (.cells #[.string x,.string z] ty)) (some ⟨V.heap.size,0,none⟩) [x,z]:=fun i u hi=>by
 have hb:=block_alloc_new V (.cells #[.string x,.string z] ty)
 match i,hi with
 | 0,hi=>cases hi;exact⟨_,0,rfl,block_cell hb 0⟩
 | 1,hi=>cases hi;exact⟨_,0,rfl,block_cell hb 1⟩
 | _+2,hi=>simp at hi
theorem dnums_two (h:DI w0 X dk s G) {x z:ByteArray} (hx:x.size<=100000) (hz:z.size<=100000) (V:World) (hV:Below X.heap.size X V):
  Calls Tryz.prog 55 #[.slice (some ⟨V.heap.size,0,none⟩) 2 2] (V.alloc (.cells #[.string x,.string z] 9)).drew (NumsOut (numsL [x,z]) (V.alloc (.cells #[.string x,.string z] 9)).drew):=by
 have hA:=(hV.alloc hV.size (.cells #[.string x,.string z] 9)).drew
 exact dnumbers_any (some ⟨V.heap.size,0,none⟩) 2 [x,z] _ (textsAt_two V x z _) (fun u hu=>by
  rcases List.mem_cons.1 hu with rfl|hu
  · exact hx
  · rw[List.mem_singleton] at hu;rw[hu];exact hz) (by simp) (h.ptX.below hA) (h.nvX.below hA) (h.evX.below hA)
set_option maxRecDepth 100000 in
set_option maxHeartbeats 4000000 in
theorem dhops_any (ao:Option Addr) (c:Nat) (l:List ByteArray) (h:DI w0 X dk s G) (hl:WordsOk X ao c l):
  Calls Tryz.prog 70 #[.pointer (some ⟨dk,0,none⟩),.slice ao l.length c] X (DPost w0 X dk G (doesD s .hops l)):=by
 have HI:=Lib.hid h
 by_cases hn:l.length=3
 · have HWO:=Lib.hid (dwords_ok ao c l.length 3 X (by rw[hn];rfl))
   obtain⟨x,y,z,rfl⟩:=three_words hn
   obtain⟨wb,wo,rfl,i0⟩:=word_at hl.tx 0 x rfl
   obtain⟨b',o',e1,i1⟩:=word_at hl.tx 1 y rfl
   cases e1
   obtain⟨b',o',e1,i2⟩:=word_at hl.tx 2 z rfl
   cases e1
   rw[Nat.add_zero] at i0
   have hc2:(3:Int)<=(c:Int):=by have:=hl.cap;simp at this;omega
   rw[hn] at HWO ⊢
   obtain⟨_,_,q2,hdl⟩:=h.cells
   have hib:=World.block_lt_of_cell? X _ i0
   have HN:=Lib.hid fun(V:World) (hV:Below X.heap.size X V)=>dnums_two h (hl.small x (by simp)) (hl.small z (by simp)) V hV
   cases hk:numsL [x,z] with
   | none=>
     rw[hk] at HN
     have HD:=Lib.hid (does_hops_none (s:=s) (y:=y) hk)
     rw[HD.out]
     clear h hl hk hn
     go_enter Tryz.func70,Tryz.ntmps70
     go_wp2_with (go_at_call 17;(with_reducible refine HWO.out.mono ?_);rintro e w1 ⟨rfl,rfl⟩)
     have hA:Below X.heap.size X (X.alloc (.cells #[.string x,.string z] 9)).drew:=((Below.refl _ X).alloc (Nat.le_refl _) _).drew
     have HA:=Lib.hid hA
     clear hA
     go_region_with (first|(go_at_call 55;(with_reducible refine(HN.out _ (Below.refl _ X)).mono ?_);rintro e x1 ⟨rfl,b1⟩;(refine(fun(_:wpAny Tryz.prog .any #[] (fun _ _ _=>True) 0 #[] ⟨#[],[]⟩ X)=>⟨rfl,DPost.same HI.out (dout_bad (by decide)) (HA.out.trans (b1.mono HA.out.size))⟩) ?_)))
     all_goals trivial
   | some q=>
     obtain⟨n,hh,rfl⟩:=two_of (show q.length=2 by rw[numsL_len hk];rfl)
     have HD:=Lib.hid (does_hops (s:=s) (y:=y) hk)
     rw[HD.out]
     rw[hk] at HN
     have hni:i64 n:=numsL_i64 hk n (by simp)
     have HG:=Lib.hid fun(W:World) (hW:Below X.heap.size X W)=>dhops_gr W (h.gra.below hW) n hh (plainB y) hni
     have HOK:=Lib.hid (h.gra.hops_ok n hh (plainB y) hni)
     generalize hopsR s.G n (plainB y) hh=L at*
     generalize hopE s.G n hh=er at*
     clear hni
     clear h hl hk hn HD
     go_enter Tryz.func70,Tryz.ntmps70
     go_wp2_with (go_at_call 17;(with_reducible refine HWO.out.mono ?_);rintro e w1 ⟨rfl,rfl⟩)
     have hA:Below X.heap.size X (X.alloc (.cells #[.string x,.string z] 9)).drew:=((Below.refl _ X).alloc (Nat.le_refl _) _).drew
     have HA:=Lib.hid hA
     clear hA
     go_region_held3 (fun Z=>Z.cell? ⟨dk,2,none⟩=some (.pointer (some ⟨G.gb,0,none⟩))/\Z.cell? ⟨wb,wo,none⟩=some (.string x)/\Z.cell? ⟨wb,wo+1,none⟩=some (.string y)/\Z.cell? ⟨wb,wo+2,none⟩=some (.string z))
      (first|exact⟨q2,i0,i1,i2⟩|exact hS1|exact⟨below_cell HA.out hdl q2,below_cell HA.out hib i0,below_cell HA.out hib i1,below_cell HA.out hib i2⟩)
      (first|(go_at_call 55;(with_reducible refine(HN.out _ (Below.refl _ X)).mono ?_);rintro e x1 ⟨⟨vv,rfl,hown⟩,b1⟩;have HX:Hid (Below X.heap.size X x1):=Lib.hid (HA.out.trans (b1.mono HA.out.size));have hS1:=And.intro (below_cell HX.out hdl q2) (And.intro (below_cell HX.out hib i0) (And.intro (below_cell HX.out hib i1) (below_cell HX.out hib i2)))))
     obtain⟨ao2,cap2,rfl,hin⟩:=ownsRow_intsIn hown
     obtain⟨ib,rfl,j0,j1⟩:=intsIn_two hin
     obtain⟨r2,_,r1,_⟩:=hS1
     have hjb:=World.block_lt_of_cell? x1 _ j0
     have hdl1:=Nat.lt_of_lt_of_le hdl HX.out.size
     have hib1:=Nat.lt_of_lt_of_le hib HX.out.size
     clear hown hin b1 HWO HN
     go_wp2_with fail
     go_region_held3 (fun Z=>Z.cell? ⟨dk,2,none⟩=some (.pointer (some ⟨G.gb,0,none⟩))/\Z.cell? ⟨wb,wo+1,none⟩=some (.string y)/\Z.cell? ⟨ib,0,none⟩=some (.int .i64 n)/\Z.cell? ⟨ib,1,none⟩=some (.int .i64 hh))
      (first|exact⟨r2,r1,j0,j1⟩|exact hS2|assumption)
      (first
       | (go_at_call 133;(with_reducible refine(dplain_any _ _).mono ?_);rintro e x2 ⟨rfl,rfl⟩)
       | (go_at_call 132;(with_reducible refine(HG.out _ HX.out.drew).mono ?_);rintro e x2 ⟨ko,kc,rfl,hki,b2⟩;have hS2:=And.intro (below_cell b2 hdl1 r2) (And.intro (below_cell b2 hib1 r1) (And.intro (below_cell b2 hjb j0) (below_cell b2 hjb j1)))))
     have hx:Below X.heap.size X x2:=HX.out.drew.trans (b2.mono HX.out.size)
     by_cases hn0:er=0
     · have HM:=Lib.hid (must_zero hn0 x2)
       have HZ:=Lib.hid hn0
       have HT:=Lib.hid (djoin_any ko kc L x2 (intsIn_at hki) HOK.out.1 (by have:=HOK.out.2;omega) (HI.out.ptX.below hx))
       obtain⟨kt,hkt⟩: ∃kt,kt=(⟨(wordsT L).toArray⟩:ByteArray):=⟨_,rfl⟩
       have hks: ¬9223372036854775807<5+kt.size:=by
        have h1:kt.size=(wordsT L).length:=by rw[hkt];simp[ByteArray.size]
        have h2:=wordsT_len L HOK.out.1
        have h3:=HOK.out.2
        omega
       rw[<-hkt] at HT
       have HE:=Lib.hid hkt
       have HX2:=Lib.hid hx
       clear hn0 hkt hki hx b2
       go_wp2_with (first
        | (go_at_call 19;(with_reducible refine HM.out.mono ?_);rintro e w2 ⟨rfl,rfl⟩)
        | (go_at_call 134;(with_reducible refine HT.out.mono ?_);rintro e w2 ⟨rfl,b3⟩))
       go_ret
       have hn0:=HZ.out
       subst hn0
       refine DPost.same HI.out (dout_ok ?_) (HX2.out.trans (b3.mono HX2.out.size))
       rw[HE.out]
       simp
     · have HM:=Lib.hid (must_no hn0 x2 (HI.out.evX.below hx))
       have HZ:=Lib.hid hn0
       clear hn0
       go_wp2_with (go_at_call 19;(with_reducible refine HM.out.mono ?_);rintro e w2 ⟨rfl,b5⟩)
       exact⟨rfl,DPost.same HI.out (dout_bad HZ.out) (hx.trans (b5.mono hx.size))⟩
 · have HD:=Lib.hid (does_len (s:=s) (c:= .hops) (l:=l) (fun e=>hn e.symm))
   have HWO:=Lib.hid (dwords_bad ao c l.length 3 X (by omega) h.evX)
   clear h hl hn
   rw[HD.out]
   go_enter Tryz.func70,Tryz.ntmps70
   go_wp2_with (go_at_call 17;(with_reducible refine HWO.out.mono ?_);rintro e w1 ⟨rfl,b1⟩)
   exact⟨rfl,DPost.same HI.out (dout_bad (by decide)) b1⟩
end
end Go.Proofs.YtpgkjnebklknjaaGreatDoor
namespace Go.Proofs.YtpgkjnebklknjaaGreatDoor
open Go.RowKit Go.Deep Go.Shelf Go.Sort Go.Maps
section
variable {w0 X W Y:World} {dk:Nat} {s:Dsk} {G:DGh}
theorem comBE_same {d:Bool} {u:Nat} {cut:Bool} {left left' :Int} (h:cut=true->left=left') (l:List OpP):comBE d u cut left l=comBE d u cut left' l:=by unfold comBE;rw[offB_same h]
theorem dcommit_base (h:DI w0 W dk s G) (ao:Option Addr) (c:Nat) (l:List OpP) (hl:opsAt W ao l) (hm:l.length<=maxLen) (hs: ∀o∈l,o.key.word.size<=100000/\o.value.size<=100000) (hsep:l≠ []-> ∀b f,ao=some ⟨b,f,none⟩-> ¬G.g.foot G.bb b/\b≠G.db):
  Calls Tryz.prog 124 #[.pointer (some ⟨G.bb,0,none⟩),.slice ao l.length c,.int .i64 (-1)] W fun e Y=> ∃v p,e= .returned v/\ErrIs Y v (comD s l).2.1 p/\((comD s l).2.1=0->v= .nilIface)/\ErrVar Y/\ ∀e',DOut (comD s l).2 e' ->DPost w0 W dk G (comD s l) e' Y:=by
 obtain⟨D,left,log,ps,hb,e1,e2⟩:=h.base.bi
 refine(bcommit_full ao c l (-1) W hb hl hm hs hsep h.ptX (fun Z hf=>h.pt.below (h.be.trans (hf.below (fun k _ e=>e.elim (fun e=>e▸h.low _ (.inl (.inr (.inr (.inl rfl))))) (fun e=>e▸h.low _ (.inl (.inr (.inl rfl))))) h.be.size))) (by unfold i64;omega)).mono ?_
 rintro e Y ⟨v,l2,rfl,he,hn,hll,hv⟩
 rw[goC_same e2,dnC_same e2,e1] at hn
 rw[goC_same e2,e1] at hll
 rw[comBE_same e2,e1] at he hv
 have hP: ∀e',DOut (comD s l).2 e' ->DPost w0 W dk G (comD s l) e' Y:=fun e' ho=>DPost.play (s' :=(comD s l).1) (a:=(comD s l).2) h ho (Below.refl _ _) hn (by
  show(if goC s.down s.used s.cut s.left (okL l)=true then log++ [Ent.tx l] else log).length=(if goC s.down s.used s.cut s.left (okL l)=true then s.used+1 else s.used)
  split<;>simp[e1]) (fun hc=>by
  rw[hll hc]
  show _=(if goC s.down s.used s.cut s.left (okL l)=true then s.left-1 else s.left)
  rw[e2 hc]) ⟨rfl,rfl,rfl⟩
 refine⟨v,_,rfl,he,hv,?_,hP⟩
 rcases Decidable.em ((comD s l).2.1=0) with h0|h0
 · exact(hP _ (.inl ⟨h0,rfl⟩)).evX
 · exact(hP _ (.inr ⟨h0,rfl⟩)).evX
end
end Go.Proofs.YtpgkjnebklknjaaGreatDoor
namespace Go.Proofs.YtpgkjnebklknjaaGreatDoor
open Go.RowKit Go.Deep Go.Shelf Go.Sort Go.Maps
section
variable {w0 X W Y:World} {dk:Nat} {s:Dsk} {G:DGh}
theorem dpieces_past (W:World) {db bb:Nat} {g:Gh} (h:DBase W s db bb g) (k:KeyP) (a:Int) (hs:k.word.size<=100000):
  Calls Tryz.prog 139 #[.pointer (some ⟨bb,1,none⟩),.agg #[.int .i64 k.kind,.int .i64 k.a,.string k.word,.int .i64 k.b],.int .i64 a] W fun e w' => ∃(ao:Option Addr) (cap:Nat),e= .returned (.tuple #[.slice ao (pcsF s.hist s.known k a).length cap,errN (pieRE s.hist s.known k a)])/\PcsAt w' ao (pcsF s.hist s.known k a)/\(∀p∈pcsF s.hist s.known k a,pcB p=true)/\(pcsF s.hist s.known k a).length<=3600/\Below W.heap.size W w' :=by
 obtain⟨n,ps,hp,hk,hok,_⟩:=h.past
 rcases Decidable.em (pieRE s.hist s.known k a=0) with e|e
 · obtain⟨e1,e2⟩:=pieRE_0 e
   obtain⟨q1,q2,q3⟩:=askR_0 e1
   obtain⟨n,rfl⟩: ∃n:Nat,a=n:=⟨a.toNat,by omega⟩
   refine(pieces_is k n bb 1 _ s.hist ps g W hp e2 (by rw[hk];omega) (by omega)).mono ?_
   rintro e1 w' ⟨v,L,rfl,hp,hb,hl,hown,hbl⟩
   obtain⟨ao,cap,rfl,hat⟩:=ownsRow_pcs hown
   have hL:L=pcsF s.hist s.known k (n:Int):=PSpec.is ⟨fun _=>hp,fun h=>absurd e h⟩
   rw[<-hL]
   exact⟨ao,cap,by rw[e];rfl,hat,hb,hl,hbl⟩
 · refine(ppieces_same hp hk k a (by unfold maxLen;omega)).mono ?_
   rintro e1 w' ⟨ao,cap,L,rfl,hs,hin,hb⟩
   have hL:L=pcsF s.hist s.known k a:=PSpec.is hs
   have h0:=hs.2 e
   rw[<-hL]
   subst h0
   exact⟨ao,cap,rfl,hin,fun k hk=>by simp at hk,by simp,hb⟩
end
end Go.Proofs.YtpgkjnebklknjaaGreatDoor
namespace Go.Proofs.YtpgkjnebklknjaaGreatDoor
open Go.RowKit Go.Deep Go.Shelf Go.Sort Go.Maps
def pcsTB (l:List Pc):List ByteArray:=l.map fun p=>⟨(pcT p).toArray⟩
theorem pcsTB_data (l:List Pc):(pcsTB l).map (·.data.toList)=l.map pcT:=by simp[pcsTB]
theorem pcsTB_length (l:List Pc):(pcsTB l).length=l.length:=by simp[pcsTB]
theorem pcsTB_snoc (l:List Pc) (k:Nat) (x:Pc) (h:l[k]? =some x):pcsTB (l.take (k+1))=pcsTB (l.take k)++ [⟨(pcT x).toArray⟩]:=by
 rw[List.take_add_one,h];simp[pcsTB]
theorem pcB_sized {p:Pc} (h:pcB p=true):i64B p.fr/\i64B p.to/\p.val.size<=12:=by
 unfold pcB rightB wordB at h
 simp only[Bool.and_eq_true,decide_eq_true_eq] at h
 unfold i64B
 omega
theorem pcT_len {p:Pc} (h:pcB p=true):(pcT p).length<=100:=by
 obtain⟨h1,h2,h3⟩:=pcB_sized h
 have:=wordsT_len [p.fr,p.to] (by simp[h1,h2])
 unfold pcT
 simp only[List.length_append,List.length_cons,List.length_nil,size_toList] at this ⊢
 omega
theorem pcsAt_get {w:World} {ao:Option Addr} {l:List Pc} (h:PcsAt w ao l) {i:Nat} (hi:i<l.length): ∃b k,ao=some ⟨b,0,none⟩/\Hid (l[i]? =some k)/\b<w.heap.size/\w.cell? ⟨b,i*3,none⟩=some (.int .i64 k.fr)/\w.cell? ⟨b,i*3+1,none⟩=some (.int .i64 k.to)/\w.cell? ⟨b,i*3+2,none⟩=some (.string k.val):=by
 obtain⟨k,hk⟩: ∃k,l[i]? =some k:=⟨_,List.getElem?_eq_getElem hi⟩
 obtain⟨b,e,c0,c1,c2⟩:=h i k hk
 exact⟨b,k,e,Lib.hid hk,World.block_lt_of_cell? w _ c0,c0,c1,c2⟩
theorem pcsT_len (l:List Pc) (h: ∀p∈l,pcB p=true):(pcsT l).length<=l.length*102:=by
 have :=join_len [44,32] 100 (l.map pcT) (fun p hp=>by
  obtain⟨x,hx,rfl⟩:=List.mem_map.1 hp
  exact pcT_len (h x hx))
 rw[List.length_map] at this
 simpa [pcsT] using this
theorem stepTextG {W:World} {ops:Array Oper} {o:Oper} {a:Act} {K:Act->World->Prop} {Q:Exit->Act->World->Prop} {E:Prop} (hgd:o.guard=none) (s x:Operand)
  (ho:o.op= .call { callee:= .builtin .append,args:= #[s,x],argTypes:= #[45,45] }) (base:Nat) (v:Value) (l:List ByteArray) (hs:a.eval s=v) (hown:W.ownsRow base 9 1 v l.length (l.map Value.string))
  (b:Nat) (p:ByteArray) (hx:a.eval x= .slice (some ⟨b,0,none⟩) 1 1) (hc0:W.cell? ⟨b,0,none⟩=some (.string p))
  (hbytes:(l.length+1)*16<=140737488355328) (hbase:base<=W.heap.size) (w0:World) (hB:Below base w0 W)
  (h: ∀v' w',w'.ownsRow base 9 1 v' (l++ [p]).length ((l++ [p]).map Value.string)->Below base w0 w' ->W.heap.size<=w'.heap.size->W.grownBy w' v.ownBlock->K (a.put o.dst v') w'):if Region.wanted o (yielded ops a.tmps)=true then Oper.wp Tryz.prog o a W K Q else E:=by
 have hw:Region.wanted o (yielded ops a.tmps)=true:=by simp[Region.wanted,hgd]
 rw[if_pos hw]
 obtain⟨i0,hi,hz0,hz1,hz2⟩:=info_parts infoStr
 refine wp_append_own _ s x 45 ho base 9 i0 _ 1 _ Tryz.underlying45 hi hz0 hz1 hz2 rfl (by decide) v l.length (l.map Value.string) hs hown ⟨b,0,none⟩ 1 1 [.string p] hx rfl (fun j u hu=> ?_) (fun u hu=> ?_) (by unfold maxLen;omega) hbytes hbase ?_
 · have: ∀k,(⟨b,0,none⟩:Addr).add k=⟨b,k,none⟩:=fun k=>by unfold Addr.add;split<;>simp_all
   rw[this]
   match j,hu with
   | 0,hu=>simp at hu;subst hu;exact hc0
 · simp at hu;subst hu;rfl
 · intro v' w' h2 h3 _
   refine h v' w' ?_ (hB.grown h3 hbase fun q hq=>(hown.lt q hq).1) h3.size h3
   rw[List.map_append,List.length_append];exact h2
section
variable {w0 X W Y:World} {dk:Nat} {s:Dsk} {G:DGh}
set_option maxRecDepth 100000 in
set_option maxHeartbeats 8000000 in
theorem dpieces_any (ao:Option Addr) (c:Nat) (l:List ByteArray) (h:DI w0 X dk s G) (hl:WordsOk X ao c l):
  Calls Tryz.prog 75 #[.pointer (some ⟨dk,0,none⟩),.slice ao l.length c] X (DPost w0 X dk G (doesD s .pieces l)):=by
 have HK:Calls Tryz.prog 129 #[.slice ao l.length c,.int .i64 1] X (KeyOut (keyF 1 l) X):=dkey_at (n:=1) h hl (by omega) rfl
 have HI:=Lib.hid h
 have HS:=Lib.hid hl.small
 cases hk:keyF 1 l with
 | none=>
   rw[hk] at HK
   have HD:=Lib.hid (does_key_none (s:=s) (c:= .pieces) rfl hk)
   have HK:=Lib.hid HK
   clear h hl hk
   rw[HD.out]
   go_enter Tryz.func75,Tryz.ntmps75
   go_wp2_with (go_at_call 129;(with_reducible refine HK.out.mono ?_);rintro e w1 ⟨rfl,b1⟩)
   exact⟨rfl,DPost.same HI.out (dout_bad (by decide)) b1⟩
 | some p=>
   obtain⟨k,q⟩:=p
   rw[hk] at HK
   have hq:q.length=1:=by
    obtain⟨_,_,_,_,hq,_⟩:=keyF_some hk
    exact hq
   obtain⟨a,rfl⟩:=one_of hq
   obtain⟨_,hks⟩:=key_sized HS.out hk
   have HD:=Lib.hid (does_pieces (s:=s) hk)
   have HV:=Lib.hid fun(W:World) (hW:Below X.heap.size X W)=>dpieces_past W (h.base.below hW) k a hks
   have HP:=Lib.hid fun(W:World) (hW:Below X.heap.size X W)=>dpast_any W (h.base.below hW)
   have HK:=Lib.hid HK
   have hc:=h.cells
   obtain⟨kk,ka,kw,kb⟩:=k
   simp only[] at HK HV
   rw[HD.out]
   generalize pcsF s.hist s.known ⟨kk,ka,kw,kb⟩ a=L at*
   generalize pieRE s.hist s.known ⟨kk,ka,kw,kb⟩ a=n at*
   clear h hl hk hq hks HD HS
   obtain⟨_,q1,_,hdl⟩:=hc
   go_enter Tryz.func75,Tryz.ntmps75
   go_wp2_with (go_at_call 129;(with_reducible refine HK.out.mono ?_);rintro e w1 ⟨⟨vv,rfl,hown⟩,b1⟩)
   obtain⟨ao2,cap2,rfl,hin⟩:=ownsRow_intsIn hown
   obtain⟨ib,e1,i0⟩:=hin 0 a rfl
   subst e1
   have hib:=World.block_lt_of_cell? w1 _ i0
   replace q1:=below_cell b1 hdl q1
   obtain⟨W,hW⟩: ∃W,W=w1.alloc (.cells #[.int .i64 kk,.int .i64 ka,.string kw,.int .i64 kb] 97):=⟨_,rfl⟩
   obtain⟨kx,hkx⟩: ∃kx,kx=w1.heap.size:=⟨_,rfl⟩
   have b2:Below w1.heap.size w1 W:=by rw[hW];exact(Below.refl _ _).alloc (Nat.le_refl _) _
   have hkb:W.heap[kx]? =some (.cells #[.int .i64 kk,.int .i64 ka,.string kw,.int .i64 kb] 97 (0,0)):=by rw[hW,hkx];exact block_alloc_new _ _
   have hdl2:dk<W.heap.size:=Nat.lt_of_lt_of_le hdl (Nat.le_trans b1.size b2.size)
   have hib2:=Nat.lt_of_lt_of_le hib b2.size
   have hkl:kx<W.heap.size:=lt_of_block hkb
   replace q1:=below_cell b2 (Nat.lt_of_lt_of_le hdl b1.size) q1
   replace i0:=below_cell b2 hib i0
   have k0:W.cell? ⟨kx,0,none⟩=some (.int .i64 kk):=block_cell hkb 0
   have k1:W.cell? ⟨kx,1,none⟩=some (.int .i64 ka):=block_cell hkb 1
   have k2:W.cell? ⟨kx,2,none⟩=some (.string kw):=block_cell hkb 2
   have k3:W.cell? ⟨kx,3,none⟩=some (.int .i64 kb):=block_cell hkb 3
   have hB:Below X.heap.size X W:=b1.trans (b2.mono b1.size)
   have hs1:=hB.size
   have HB:=Lib.hid hB
   have HW:=Lib.hid hW
   have HKX:=Lib.hid hkx
   clear hown hin b1 b2 hkb hB hW hkx hib
   go_wp2_with (rw[<-HW.out, <-HKX.out])
   go_region_held3 (fun Z=>Z.cell? ⟨dk,1,none⟩=some (.pointer (some ⟨G.bb,0,none⟩))/\Z.cell? ⟨ib,0,none⟩=some (.int .i64 a)/\Z.cell? ⟨kx,0,none⟩=some (.int .i64 kk)/\Z.cell? ⟨kx,1,none⟩=some (.int .i64 ka)/\Z.cell? ⟨kx,2,none⟩=some (.string kw)/\Z.cell? ⟨kx,3,none⟩=some (.int .i64 kb))
    (first|exact⟨q1,i0,k0,k1,k2,k3⟩|exact hS1|exact hS2)
    (first
     | (go_at_call 57;(with_reducible refine(HP.out _ HB.out.drew).mono ?_);rintro e x1 ⟨rfl,rfl⟩)
     | (go_at_call 139;(with_reducible refine(HV.out _ HB.out.drew).mono ?_);rintro e x1 ⟨ko,kc,rfl,hki,hkb,hkl',b2⟩;have hS2:=And.intro (below_cell b2 hdl2 q1) (And.intro (below_cell b2 hib2 i0) (And.intro (below_cell b2 hkl k0) (And.intro (below_cell b2 hkl k1) (And.intro (below_cell b2 hkl k2) (below_cell b2 hkl k3)))))))
   have hx:Below X.heap.size X x1:=HB.out.drew.trans (b2.mono hs1)
   by_cases hn0:n=0
   · have HM:=Lib.hid (must_zero hn0 x1)
     have HN:=Lib.hid hn0
     have HX:=Lib.hid hx
     have HKI:=Lib.hid hki
     have HKB:=Lib.hid hkb
     clear hn0 hki hkb hx b2 hS2 q1 i0 k0 k1 k2 k3
     go_wp2_with (go_at_call 19;(with_reducible refine HM.out.mono ?_);rintro e w2 ⟨rfl,rfl⟩)
     go_loopw [9,34] (fun v i wr=> ∃k:Nat,k<=L.length/\i= .int .i64 k/\wr.ownsRow x1.heap.size 9 1 v (pcsTB (L.take k)).length ((pcsTB (L.take k)).map Value.string)/\Below x1.heap.size x1 wr) (fun _ i _=>L.length-(intOf i).toNat)
     case atStart=>exact⟨0,by omega,rfl,World.ownsRow_nil _ _ _ _,Below.refl _ _⟩
     case round=>
      obtain⟨k,hk,rfl,hown,hB⟩:=hrel
      by_cases hlt:k<L.length
      · obtain⟨b,⟨pf,pt,pv⟩,rfl,g1,hbw,d0,d1,d2⟩:=pcsAt_get HKI.out hlt
        simp only[] at d0 d1 d2
        replace d0:=below_cell hB hbw d0
        replace d1:=below_cell hB hbw d1
        replace d2:=below_cell hB hbw d2
        have hpb:=HKB.out _ (List.mem_of_getElem? g1.out)
        obtain⟨hf64,ht64,hvs⟩:=pcB_sized hpb
        simp only[] at hf64 ht64 hvs
        have hsn:=Lib.hid (pcsTB_snoc L k _ g1.out)
        have hle:(pcsTB (L.take k)).length<=k:=by rw[pcsTB_length];exact List.length_take_le _ _
        obtain⟨W4,hW4⟩: ∃W4,W4=wr.alloc (.cells #[.int .i64 pf,.int .i64 pt,.string pv] 109):=⟨_,rfl⟩
        obtain⟨px,hpx⟩: ∃px,px=wr.heap.size:=⟨_,rfl⟩
        have b4:Below wr.heap.size wr W4:=by rw[hW4];exact(Below.refl _ _).alloc (Nat.le_refl _) _
        have hpbk:W4.heap[px]? =some (.cells #[.int .i64 pf,.int .i64 pt,.string pv] 109 (0,0)):=by rw[hW4,hpx];exact block_alloc_new _ _
        have p0:W4.cell? ⟨px,0,none⟩=some (.int .i64 pf):=block_cell hpbk 0
        have p1:W4.cell? ⟨px,1,none⟩=some (.int .i64 pt):=block_cell hpbk 1
        have p2:W4.cell? ⟨px,2,none⟩=some (.string pv):=block_cell hpbk 2
        have hpl:px<W4.heap.size:=lt_of_block hpbk
        have hpr:wr.heap.size<=px:=by rw[hpx];exact Nat.le_refl _
        have HB4:=Lib.hid (hB.trans (b4.mono hB.size))
        have HO4:=Lib.hid (ownsRow_below hown b4)
        have HPV:=Lib.hid (fun(q:Nat) hq=>Nat.ne_of_lt (Nat.lt_of_lt_of_le (hown.lt q hq).2 hpr))
        have h4:x1.heap.size<=W4.heap.size:=Nat.le_trans hB.size b4.size
        have hA:Below W4.heap.size W4 (W4.alloc (.cells #[.int .i64 pf,.int .i64 pt] 3)).drew:=((Below.refl _ W4).alloc (Nat.le_refl _) _).drew
        have HJ:Hid (Calls Tryz.prog 134 #[.slice (some ⟨W4.heap.size,0,none⟩) 2 2] (W4.alloc (.cells #[.int .i64 pf,.int .i64 pt] 3)).drew fun e w' =>e= .returned (.string ⟨(wordsT [pf,pt]).toArray⟩)/\Below (W4.alloc (.cells #[.int .i64 pf,.int .i64 pt] 3)).drew.heap.size (W4.alloc (.cells #[.int .i64 pf,.int .i64 pt] 3)).drew w'):=Lib.hid (djoin_any (some ⟨W4.heap.size,0,none⟩) 2 [pf,pt] (W4.alloc (.cells #[.int .i64 pf,.int .i64 pt] 3)).drew ((show intsAt (W4.alloc (.cells #[.int .i64 pf,.int .i64 pt] 3)) (some ⟨W4.heap.size,0,none⟩) [pf,pt] from intsAt_new W4 [pf,pt] (by simp)).below ((Below.refl _ _).drew)) (by simp[hf64,ht64]) (by simp) (HI.out.ptX.below (HX.out.trans ((HB4.out.trans (hA.mono h4)).mono HX.out.size))))
        have hjl:=wordsT_len [pf,pt] (by simp[hf64,ht64])
        simp only[List.length_cons,List.length_nil] at hjl
        obtain⟨jt,hjt⟩: ∃jt,jt=(⟨(wordsT [pf,pt]).toArray⟩:ByteArray):=⟨_,rfl⟩
        have hjs:jt.size<=44:=by rw[hjt];simpa [ByteArray.size] using hjl
        rw[<-hjt] at HJ
        obtain⟨kt,hkt⟩: ∃kt,kt=jt++(⟨#[32]⟩:ByteArray)++pv:=⟨_,rfl⟩
        have hke:kt=⟨(pcT ⟨pf,pt,pv⟩).toArray⟩:=by
         rw[hkt,hjt]
         apply bytes_ext
         unfold pcT
         simp
        rw[<-hke] at hsn
        obtain⟨M,hM⟩: ∃M,M=pcsTB (L.take k):=⟨_,rfl⟩
        rw[<-hM] at HO4 hle hsn
        have HA:=Lib.hid hA
        have i0:(0:Int)<=(k:Int):=by omega
        have i1:(k:Int)<(L.length:Int):=by omega
        have hg1: ¬9223372036854775807<jt.size+1:=by omega
        have hg2: ¬9223372036854775807<jt.size+1+pv.size:=by omega
        have HW4:=Lib.hid hW4
        have HPX:=Lib.hid hpx
        have HKT:=Lib.hid hkt
        clear hW4 hpx hpbk b4 hB hown hjl hke hM hkt hpb g1 hjt hA hf64 ht64 hvs hpr
        go_wp2_with (rw[<-HW4.out, <-HPX.out])
        go_region_held3 (fun Z=>Z.cell? ⟨px,0,none⟩=some (.int .i64 pf)/\Z.cell? ⟨px,1,none⟩=some (.int .i64 pt)/\Z.cell? ⟨px,2,none⟩=some (.string pv))
         (first|exact⟨p0,p1,p2⟩|exact hS5|exact hS8|exact⟨below_cell HA.out hpl p0,below_cell HA.out hpl p1,below_cell HA.out hpl p2⟩|exact⟨below_cell ((Below.refl _ _).alloc (Nat.le_refl _) _) hpl5 hS5.1,below_cell ((Below.refl _ _).alloc (Nat.le_refl _) _) hpl5 hS5.2.1,below_cell ((Below.refl _ _).alloc (Nat.le_refl _) _) hpl5 hS5.2.2⟩)
         (first
          | (go_at_call 134;(with_reducible refine HJ.out.mono ?_);rintro e w5 ⟨rfl,b5⟩;have hB5:Below W4.heap.size W4 w5:=HA.out.trans (b5.mono HA.out.size);have hpl5:=Nat.lt_of_lt_of_le hpl hB5.size;have hS5:=And.intro (below_cell hB5 hpl p0) (And.intro (below_cell hB5 hpl p1) (below_cell hB5 hpl p2));have HB5:=Lib.hid (HB4.out.trans (hB5.mono h4));have HO5:=Lib.hid (ownsRow_below HO4.out hB5);have h5:=HB5.out.size;clear b5 hB5)
          | (refine stepTextG rfl _ _ rfl x1.heap.size _ M rfl (HO5.out.alloc _) w5.heap.size (jt++(⟨#[32]⟩:ByteArray)++pv) rfl (by simp) (by omega) (by simp;omega) x1 (HB5.out.alloc h5 _) ?_;intro v8 w8 hown8 hB8 hs8 hg8;have hc8:=(fun(i:Nat) (u:Value) (h:w5.cell? ⟨px,i,none⟩=some u)=>(World.cell?_of_block (a:=⟨px,i,none⟩) (hg8.block px (by simp;omega) (fun e=>HPV.out px e.symm rfl))).trans (below_cell ((Below.refl _ _).alloc (Nat.le_refl _) _) hpl5 h));have hS8:=And.intro (hc8 _ _ hS5.1) (And.intro (hc8 _ _ hS5.2.1) (hc8 _ _ hS5.2.2))))
        all_goals
         go_wp2_with fail
         rw[<-HKT.out] at hown8
         exact⟨⟨k+1,by omega,by go_num,by rw[hsn.out];exact hown8,hB8⟩,by simp[intOf];omega⟩
      · have he:L.take k=L:=List.take_of_length_le (by omega)
        rw[he] at hown
        clear he
        obtain⟨ao',cap,rfl,ht1,hcap,_⟩:=ownsRow_texts hown
        have hpl:=pcsT_len L HKB.out
        have hJ:=join_any ao' cap (pcsTB L) ⟨#[44,32]⟩ wr ht1 hcap (by rw[pcsTB_length];omega) (by
         rw[pcsTB_data];unfold pcsT at hpl;simp only at hpl ⊢;omega)
        rw[pcsTB_data] at hJ
        obtain⟨kt,hkt⟩: ∃kt,kt=(⟨(pcsT L).toArray⟩:ByteArray):=⟨_,rfl⟩
        have hks: ¬9223372036854775807<7+kt.size:=by
         have:kt.size=(pcsT L).length:=by rw[hkt];simp[ByteArray.size]
         omega
        have hJ' :Calls Tryz.prog 31 #[.slice ao' (pcsTB L).length cap,.string ⟨#[44,32]⟩] wr fun e w' =>e= .returned (.string kt)/\Below wr.heap.size wr w' :=by rw[hkt];exact hJ
        have HJ:=Lib.hid hJ'
        have HB:=Lib.hid hB
        have HE:=Lib.hid hkt
        clear hJ hJ' hown ht1 hB hkt hpl
        go_wp2_with (go_at_call 31;(with_reducible refine HJ.out.mono ?_);rintro e w2 ⟨rfl,b3⟩)
        go_ret
        have hn0:=HN.out
        subst hn0
        refine DPost.same HI.out (dout_ok ?_) ((HX.out.trans (HB.out.mono HX.out.size)).trans (b3.mono (Nat.le_trans HX.out.size HB.out.size)))
        rw[HE.out]
        simp
   · have HM:=Lib.hid (must_no hn0 x1 (HI.out.evX.below hx))
     have HN:=Lib.hid hn0
     clear hn0
     go_wp2_with (go_at_call 19;(with_reducible refine HM.out.mono ?_);rintro e w2 ⟨rfl,b5⟩)
     exact⟨rfl,DPost.same HI.out (dout_bad HN.out) (hx.trans (b5.mono hx.size))⟩
end
end Go.Proofs.YtpgkjnebklknjaaGreatDoor
