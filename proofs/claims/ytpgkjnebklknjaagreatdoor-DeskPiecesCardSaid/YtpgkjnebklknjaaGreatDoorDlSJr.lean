/-The program's desk:a line's answer is short. -/
import Derived.Recover
import Derived.Defers
import Derived.Test.YtpgkjnebklknjaaGreatDoorDkMJr
import Derived.Test.YtpgkjnebklknjaaGreatDoorDlHJr
import Derived.Test.YtpgkjnebklknjaaGreatDoorDkDJr
import Derived.Test.YtpgkjnebklknjaaGreatDoorPwMJr
namespace Go.Proofs.YtpgkjnebklknjaaGreatDoor
open Go.RowKit Go.Deep Go.Shelf Go.Sort Go.Maps
theorem errT_eq (n:Int):(⟨#[101,114,114,111,114,32]⟩:ByteArray)++⟨(Lib.itoa n).toArray⟩=⟨(errT n).toArray⟩:=bytes_ext (by unfold errT;simp)
set_option maxRecDepth 100000 in
set_option maxHeartbeats 1000000 in
theorem line1_idle (p:Addr) (w:World):
  CallsD Tryz.prog 24 #[.pointer (some p)] .returning w fun e u' w' =>e= .returned (.tuple #[])/\u' = .returning/\w' =w:=by
 refine callsD_of_wpS Tryz.func24 rfl fun c₀ cs hu=> ?_
 apply wpS_seq
 apply wpS_region
 simp[wpOpsS,go_sem,recoverD,hu,Tryz.ntmps24,Exit.thenS]
 refine wpS_of_wp ?_
 rw[show(#[Value.pointer (some p)]++((Array.replicate 18 undef).setIfInBounds 3 Value.nilIface).setIfInBounds 0 Value.nilIface)= #[.pointer (some p),.nilIface,undef,undef,.nilIface,undef,undef,undef,undef,undef,undef,undef,undef,undef,undef,undef,undef,undef,undef] from rfl]
 go_wp2
 refine⟨rfl,.returning,?_,_,results_none rfl _ _ _,rfl,rfl,rfl⟩
 rw[<-hu]
set_option maxRecDepth 100000 in
set_option maxHeartbeats 2000000 in
theorem line1_caught (ob:Nat) (n:Int) (old:ByteArray) (older:List PanicEntry) (w:World) (hn:i64 n) (hc:w.cell? ⟨ob,0,none⟩=some (.string old)) (hz:w.frozen? ⟨ob,0,none⟩=false) (hb:ob<w.heap.size) (ht:PowTab w):
  CallsD Tryz.prog 24 #[.pointer (some ⟨ob,0,none⟩)] (.panicking ({ v:= .iface 69 (.agg #[.int .i64 n]),recovered:=false }::older)) w fun e u' w' =>
   e= .returned (.tuple #[])/\u' = .panicking ({ v:= .iface 69 (.agg #[.int .i64 n]),recovered:=true }::older)/\ ∃W,Below w.heap.size w W/\w' =W.setCell ⟨ob,0,none⟩ (.string ⟨(errT n).toArray⟩):=by
 have hta: ∀(v:Value) (xT:TypeId) (W:World),(Instr.typeAssert (.iface 69 v) xT 69 true).run Tryz.prog W= .ok (.tuple #[v,.bool true]) W:=fun v xT W=>by kernel_rfl
 obtain⟨W1,hW1⟩: ∃W1,W1=w.alloc (.cells #[.int .i64 n] 69):=⟨_,rfl⟩
 obtain⟨x,hx⟩: ∃x,x=w.heap.size:=⟨_,rfl⟩
 have b1:Below w.heap.size w W1:=by rw[hW1];exact(Below.refl _ _).alloc (Nat.le_refl _) _
 have x0:W1.cell? ⟨x,0,none⟩=some (.int .i64 n):=by rw[hW1,hx];simp
 have hc1:=below_cell b1 hb hc
 have hz1:W1.frozen? ⟨ob,0,none⟩=false:=by rw[hW1,World.frozen?_of_block (w:=w) (a:=⟨ob,0,none⟩) (Below.heap_alloc _ _ _ hb)];exact hz
 have hi:=itoa_any n hn W1 (ht.below b1)
 have hcat: ¬9223372036854775807<6+(Lib.itoa n).length:=by have:=Lib.itoa_length_le n hn.1 hn.2;omega
 have HI:=Lib.hid hi
 have HW:=Lib.hid hW1
 have HX:=Lib.hid hx
 have HB:=Lib.hid b1
 have hb1:=Nat.lt_of_lt_of_le hb b1.size
 clear hi hW1 hx b1 ht hn
 refine callsD_of_wpS Tryz.func24 rfl fun c₀ cs hu=> ?_
 apply wpS_seq
 apply wpS_region
 simp[wpOpsS,go_sem,recoverD,hu,Tryz.ntmps24,Exit.thenS]
 refine wpS_of_wp ?_
 rw[show(#[Value.pointer (some ⟨ob,0,none⟩)]++((Array.replicate 18 undef).setIfInBounds 3 (Value.iface 69 (.agg #[.int .i64 n]))).setIfInBounds 0 (Value.iface 69 (.agg #[.int .i64 n])))= #[.pointer (some ⟨ob,0,none⟩),.iface 69 (.agg #[.int .i64 n]),undef,undef,.iface 69 (.agg #[.int .i64 n]),undef,undef,undef,undef,undef,undef,undef,undef,undef,undef,undef,undef,undef,undef] from rfl]
 go_wp2_with (first
  | (rw[<-HW.out, <-HX.out])
  | (go_at_call 25;(with_reducible refine HI.out.mono ?_);rintro e W2 ⟨rfl,b2⟩;have c2:=below_cell b2 hb1 hc1;have z2:W2.frozen? ⟨ob,0,none⟩=false:=(World.frozen?_of_block (b2.block ob hb1)).trans hz1))
 exact⟨rfl,_,rfl,_,results_none rfl _ _ _,rfl,rfl,W2,HB.out.trans (b2.mono HB.out.size),by rw[errT_eq]⟩
theorem saidL_val (k:KeyP) (t:Int): ∀(l:List OpP) (x:ByteArray),(∃o∈l,o.value=saidL l k t x)\/saidL l k t x=x
 | [],x=> .inr rfl
 | o ::l,x=>by
   have e:saidL (o::l) k t x=saidL l k t (if k=o.key/\o.fr<=t/\t<o.to then o.value else x):=rfl
   rw[e]
   by_cases hc:k=o.key/\o.fr<=t/\t<o.to
   · rw [if_pos hc]
     rcases saidL_val k t l o.value with ⟨o',h1,h2⟩|h
     · exact .inl ⟨o',List.mem_cons_of_mem _ h1,h2⟩
     · exact .inl ⟨o,by simp,h.symm⟩
   · rw [if_neg hc]
     rcases saidL_val k t l x with ⟨o',h1,h2⟩|h
     · exact .inl ⟨o',List.mem_cons_of_mem _ h1,h2⟩
     · exact .inr h
theorem said_val {hist:List (List OpP)} (hok: ∀l∈hist,okL l=true) {k:KeyP} {n:Nat} {t:Int} (h:(saidH hist k n t).size≠0):saidH hist k n t∈hist.flatten.map (·.value)/\(saidH hist k n t).size<=12:=by
 rcases saidL_val k t (hist.take n).flatten ⟨#[]⟩ with ⟨o,h1,h2⟩|h1
 · have h2:o.value=saidH hist k n t:=h2
   obtain⟨l,hl,ho⟩:=List.mem_flatten.1 h1
   have hl:=List.mem_of_mem_take hl
   refine⟨List.mem_map.2 ⟨o,List.mem_flatten.2 ⟨l,hl,ho⟩,h2⟩,?_⟩
   rw[<-h2]
   rcases op_value (List.all_eq_true.1 (okL_iff.1 (hok l hl)).2 o ho) with h3|h3
   · omega
   · unfold wordB at h3;simp at h3;omega
 · have h1:saidH hist k n t=⟨#[]⟩:=h1
   rw[h1] at h
   exact absurd rfl h
theorem ever_small {hist:List (List OpP)} (hok: ∀l∈hist,okL l=true) (hlen:hist.length<=150) {k:KeyP} {n m:Nat} {f t:Int} {L:List ByteArray} (h:EversIs hist k n m f t L):L.length<=1200/\ ∀x∈L,x.size<=12:=by
 have hx: ∀x∈L,x∈hist.flatten.map (·.value)/\x.size<=12:=fun x hx=>by
  obtain⟨h0,i,_,_,y,_,_,rfl⟩:=(h.2 x).1 hx
  exact said_val hok h0
 have hn:L.Nodup:=h.1.imp fun {a b} hab e=>by
  subst e
  unfold bLess at hab
  rw[bless_irrefl] at hab
  cases hab
 have h1:=nodup_le hn fun x h=>(hx x h).1
 have h2:=flat_len hok
 rw[List.length_map] at h1
 exact⟨by omega,fun x h=>(hx x h).2⟩
theorem evs_len (L:List ByteArray) (h1:L.length<=1200) (h2: ∀x∈L,x.size<=12):(Lib.join (L.map (·.data.toList)) [32]).length<=20000:=by
 have :=join_len [32] 12 (L.map (·.data.toList)) (fun p hp=>by
  obtain⟨x,hx,rfl⟩:=List.mem_map.1 hp
  rw[size_toList]
  exact h2 x hx)
 rw[List.length_map] at this
 simp only[List.length_cons,List.length_nil] at this
 omega
section
variable {w0 X W Y:World} {dk:Nat} {s:Dsk} {G:DGh}
theorem dever_past (W:World) {db bb:Nat} {g:Gh} (h:DBase W s db bb g) (k:KeyP) (a b f t:Int) (hs:k.word.size<=100000):
  Calls Tryz.prog 130 #[.pointer (some ⟨bb,1,none⟩),.agg #[.int .i64 k.kind,.int .i64 k.a,.string k.word,.int .i64 k.b],.int .i64 a,.int .i64 b,.agg #[.int .i64 f,.int .i64 t]] W fun e w' => ∃(ao:Option Addr) (cap:Nat),e= .returned (.tuple #[.slice ao (evsF s.hist s.known k a b f t).length cap,errN (everRE s.hist s.known k a b f t)])/\textsAt w' ao (evsF s.hist s.known k a b f t)/\(evsF s.hist s.known k a b f t).length<=cap/\(evsF s.hist s.known k a b f t).length<=1200/\(∀x∈evsF s.hist s.known k a b f t,x.size<=12)/\Below W.heap.size W w' :=by
 obtain⟨n0,ps,hp,hk,hok,hlen,_⟩:=h.past
 rcases Decidable.em (everRE s.hist s.known k a b f t=0) with e|e
 · obtain⟨e1,e2,e3,e4,e5⟩:=everRE_0 e
   obtain⟨q1,q2,q3⟩:=askR_0 e1
   obtain⟨r1,r2,r3⟩:=askR_0 e2
   obtain⟨n,rfl⟩: ∃n:Nat,a=n:=⟨a.toNat,by omega⟩
   obtain⟨m,rfl⟩: ∃m:Nat,b=m:=⟨b.toNat,by omega⟩
   refine(ever_is k n m f t bb 1 _ s.hist ps g W hp e4 e5 (by rw[hk];omega) (by omega) (by omega)).mono ?_
   rintro e1 w' ⟨v,L,rfl,hp,hown,hbl⟩
   obtain⟨ao,cap,rfl,hat,hcap,_⟩:=ownsRow_texts hown
   have hL:L=evsF s.hist s.known k (n:Int) (m:Int) f t:=ESpec.is ⟨fun _=>hp,fun h=>absurd e h⟩
   obtain⟨h1,h2⟩:=ever_small hok hlen hp
   rw[<-hL]
   exact⟨ao,cap,by rw[e];rfl,hat,hcap,h1,h2,hbl⟩
 · refine(pever_same hp hk k a b f t (by unfold maxLen;omega)).mono ?_
   rintro e1 w' ⟨ao,cap,L,rfl,hs,hin,hb⟩
   have hL:L=evsF s.hist s.known k a b f t:=ESpec.is hs
   have h0:=hs.2 e
   rw[<-hL]
   subst h0
   exact⟨ao,cap,rfl,fun i x hx=>by simp at hx,by simp,by simp,fun x hx=>by simp at hx,hb⟩
set_option maxRecDepth 100000 in
set_option maxHeartbeats 8000000 in
theorem dever_any (ao:Option Addr) (c:Nat) (l:List ByteArray) (h:DI w0 X dk s G) (hl:WordsOk X ao c l):
  Calls Tryz.prog 67 #[.pointer (some ⟨dk,0,none⟩),.slice ao l.length c] X (DPost w0 X dk G (doesD s .ever l)):=by
 have HK:Calls Tryz.prog 129 #[.slice ao l.length c,.int .i64 4] X (KeyOut (keyF 4 l) X):=dkey_at (n:=4) h hl (by omega) rfl
 have HI:=Lib.hid h
 have HS:=Lib.hid hl.small
 cases hk:keyF 4 l with
 | none=>
   rw[hk] at HK
   have HD:=Lib.hid (does_key_none (s:=s) (c:= .ever) rfl hk)
   have HK:=Lib.hid HK
   clear h hl hk
   rw[HD.out]
   go_enter Tryz.func67,Tryz.ntmps67
   go_wp2_with (go_at_call 129;(with_reducible refine HK.out.mono ?_);rintro e w1 ⟨rfl,b1⟩)
   exact⟨rfl,DPost.same HI.out (dout_bad (by decide)) b1⟩
 | some p=>
   obtain⟨k,q⟩:=p
   rw[hk] at HK
   have hq:q.length=4:=by
    obtain⟨_,_,_,_,hq,_⟩:=keyF_some hk
    exact hq
   obtain⟨a,a2,f,t,rfl⟩:=fourI_of hq
   obtain⟨_,hks⟩:=key_sized HS.out hk
   have HD:=Lib.hid (does_ever (s:=s) hk)
   have HV:=Lib.hid fun(W:World) (hW:Below X.heap.size X W)=>dever_past W (h.base.below hW) k a a2 f t hks
   have HP:=Lib.hid fun(W:World) (hW:Below X.heap.size X W)=>dpast_any W (h.base.below hW)
   have HK:=Lib.hid HK
   have hc:=h.cells
   obtain⟨kk,ka,kw,kb⟩:=k
   simp only[] at HK HV
   rw[HD.out]
   generalize evsF s.hist s.known ⟨kk,ka,kw,kb⟩ a a2 f t=L at*
   generalize everRE s.hist s.known ⟨kk,ka,kw,kb⟩ a a2 f t=n at*
   clear h hl hk hq hks HD HS
   obtain⟨_,q1,_,hdl⟩:=hc
   go_enter Tryz.func67,Tryz.ntmps67
   go_wp2_with (go_at_call 129;(with_reducible refine HK.out.mono ?_);rintro e w1 ⟨⟨vv,rfl,hown⟩,b1⟩)
   obtain⟨ao2,cap2,rfl,hin⟩:=ownsRow_intsIn hown
   obtain⟨ib,e1,i0⟩:=hin 0 a rfl
   subst e1
   obtain⟨b',e1,i1⟩:=hin 1 a2 rfl
   cases e1
   obtain⟨b',e1,i2⟩:=hin 2 f rfl
   cases e1
   obtain⟨b',e1,i3⟩:=hin 3 t rfl
   cases e1
   have hib:=World.block_lt_of_cell? w1 _ i0
   replace q1:=below_cell b1 hdl q1
   obtain⟨W,hW⟩: ∃W,W=w1.alloc (.cells #[.int .i64 kk,.int .i64 ka,.string kw,.int .i64 kb] 97):=⟨_,rfl⟩
   obtain⟨kx,hkx⟩: ∃kx,kx=w1.heap.size:=⟨_,rfl⟩
   have b2:Below w1.heap.size w1 W:=by rw[hW];exact(Below.refl _ _).alloc (Nat.le_refl _) _
   have hkb:W.heap[kx]? =some (.cells #[.int .i64 kk,.int .i64 ka,.string kw,.int .i64 kb] 97 (0,0)):=by rw[hW,hkx];exact block_alloc_new _ _
   have hdl2:dk<W.heap.size:=Nat.lt_of_lt_of_le hdl (Nat.le_trans b1.size b2.size)
   have hib2:=Nat.lt_of_lt_of_le hib b2.size
   have hkl:kx<W.heap.size:=lt_of_block hkb
   replace q1:=below_cell b2 (Nat.lt_of_lt_of_le hdl b1.size) q1
   replace i0:=below_cell b2 hib i0
   replace i1:=below_cell b2 hib i1
   replace i2:=below_cell b2 hib i2
   replace i3:=below_cell b2 hib i3
   have k0:W.cell? ⟨kx,0,none⟩=some (.int .i64 kk):=block_cell hkb 0
   have k1:W.cell? ⟨kx,1,none⟩=some (.int .i64 ka):=block_cell hkb 1
   have k2:W.cell? ⟨kx,2,none⟩=some (.string kw):=block_cell hkb 2
   have k3:W.cell? ⟨kx,3,none⟩=some (.int .i64 kb):=block_cell hkb 3
   have hB:Below X.heap.size X W:=b1.trans (b2.mono b1.size)
   have hs1:=hB.size
   have HB:=Lib.hid hB
   have HW:=Lib.hid hW
   have HKX:=Lib.hid hkx
   clear hown hin b1 b2 hkb hB hW hkx hib
   go_wp2_with (rw[<-HW.out, <-HKX.out])
   go_region_held3 (fun Z=>Z.cell? ⟨dk,1,none⟩=some (.pointer (some ⟨G.bb,0,none⟩))/\Z.cell? ⟨ib,0,none⟩=some (.int .i64 a)/\Z.cell? ⟨ib,1,none⟩=some (.int .i64 a2)/\Z.cell? ⟨ib,2,none⟩=some (.int .i64 f)/\Z.cell? ⟨ib,3,none⟩=some (.int .i64 t)/\Z.cell? ⟨kx,0,none⟩=some (.int .i64 kk)/\Z.cell? ⟨kx,1,none⟩=some (.int .i64 ka)/\Z.cell? ⟨kx,2,none⟩=some (.string kw)/\Z.cell? ⟨kx,3,none⟩=some (.int .i64 kb))
    (first|exact⟨q1,i0,i1,i2,i3,k0,k1,k2,k3⟩|exact hS1|exact hS2)
    (first
     | (go_at_call 57;(with_reducible refine(HP.out _ HB.out.drew).mono ?_);rintro e x1 ⟨rfl,rfl⟩)
     | (go_at_call 130;(with_reducible refine(HV.out _ HB.out.drew).mono ?_);rintro e x1 ⟨ko,kc,rfl,hki,hkc,hkl',hkz,b2⟩;have hS2:=And.intro (below_cell b2 hdl2 q1) (And.intro (below_cell b2 hib2 i0) (And.intro (below_cell b2 hib2 i1) (And.intro (below_cell b2 hib2 i2) (And.intro (below_cell b2 hib2 i3) (And.intro (below_cell b2 hkl k0) (And.intro (below_cell b2 hkl k1) (And.intro (below_cell b2 hkl k2) (below_cell b2 hkl k3))))))))))
   have hx:Below X.heap.size X x1:=HB.out.drew.trans (b2.mono hs1)
   by_cases hn0:n=0
   · have HM:=Lib.hid (must_zero hn0 x1)
     have HN:=Lib.hid hn0
     have hjl:=evs_len L hkl' hkz
     have hJ:=join_any ko kc L ⟨#[32]⟩ x1 hki hkc (by omega) (by simp only at hjl ⊢;omega)
     obtain⟨kt,hkt⟩: ∃kt,kt=(⟨(Lib.join (L.map (·.data.toList)) [32]).toArray⟩:ByteArray):=⟨_,rfl⟩
     have hks: ¬9223372036854775807<5+kt.size:=by
      have:kt.size=(Lib.join (L.map (·.data.toList)) [32]).length:=by rw[hkt];simp[ByteArray.size]
      omega
     have hJ' :Calls Tryz.prog 31 #[.slice ko L.length kc,.string ⟨#[32]⟩] x1 fun e w' =>e= .returned (.string kt)/\Below x1.heap.size x1 w' :=by rw[hkt];exact hJ
     have HJ:=Lib.hid hJ'
     have HE:=Lib.hid hkt
     have HX:=Lib.hid hx
     clear hn0 hki hkc hkl' hkz hx b2 hS2 q1 i0 i1 i2 i3 k0 k1 k2 k3 hJ hJ' hkt hjl
     go_wp2_with (first
      | (go_at_call 19;(with_reducible refine HM.out.mono ?_);rintro e w2 ⟨rfl,rfl⟩)
      | (go_at_call 31;(with_reducible refine HJ.out.mono ?_);rintro e w2 ⟨rfl,b3⟩))
     go_ret
     have hn0:=HN.out
     subst hn0
     refine DPost.same HI.out (dout_ok ?_) (HX.out.trans (b3.mono HX.out.size))
     rw[HE.out]
     simp
   · have HM:=Lib.hid (must_no hn0 x1 (HI.out.evX.below hx))
     have HN:=Lib.hid hn0
     clear hn0
     go_wp2_with (go_at_call 19;(with_reducible refine HM.out.mono ?_);rintro e w2 ⟨rfl,b5⟩)
     exact⟨rfl,DPost.same HI.out (dout_bad HN.out) (hx.trans (b5.mono hx.size))⟩
end
end Go.Proofs.YtpgkjnebklknjaaGreatDoor
namespace Go.Proofs.YtpgkjnebklknjaaGreatDoor
open Go.RowKit Go.Deep Go.Shelf Go.Sort Go.Maps
section
variable {w0 X W Y:World} {dk:Nat} {s:Dsk} {G:DGh}
theorem dway_gr (W:World) (h:DGraph W s G) (x y:Int) (word:ByteArray) (hx:i64 x) (hy:i64 y):
  Calls Tryz.prog 142 #[.pointer (some ⟨G.gb,0,none⟩),.int .i64 x,.int .i64 y,.string word] W fun e w' => ∃ao cap,e= .returned (.tuple #[.slice ao (wayF s.gh s.ga s.gt s.L x y word).2.length cap,errN (wayF s.gh s.ga s.gt s.L x y word).1])/\IntsIn w' ao (wayF s.gh s.ga s.gt s.L x y word).2/\Below W.heap.size W w' :=by
 refine(way_prog h.keys h.kok x y word hx hy W G.gb G.nb G.eo h.gat).mono ?_
 rintro e w' ⟨ao,cap,rfl,h1,_,h2⟩
 exact⟨ao,cap,rfl,h1,h2⟩
theorem DGraph.way_ok (h:DGraph X s G) (x y:Int) (word:ByteArray) (hx:i64 x) (_hy:i64 y):(∀z∈(wayF s.gh s.ga s.gt s.L x y word).2,i64B z)/\(wayF s.gh s.ga s.gt s.L x y word).2.length<=3601:=by
 obtain⟨h1,h2⟩:=way_small h.kok x y word hx
 have:=h.len
 exact⟨h1,by omega⟩
set_option maxRecDepth 100000 in
set_option maxHeartbeats 4000000 in
theorem dway_any (ao:Option Addr) (c:Nat) (l:List ByteArray) (h:DI w0 X dk s G) (hl:WordsOk X ao c l):
  Calls Tryz.prog 78 #[.pointer (some ⟨dk,0,none⟩),.slice ao l.length c] X (DPost w0 X dk G (doesD s .way l)):=by
 have HI:=Lib.hid h
 by_cases hn:l.length=3
 · have HWO:=Lib.hid (dwords_ok ao c l.length 3 X (by rw[hn];rfl))
   obtain⟨x,y,z,rfl⟩:=three_words hn
   obtain⟨wb,wo,rfl,i0⟩:=word_at hl.tx 0 x rfl
   obtain⟨b',o',e1,i1⟩:=word_at hl.tx 1 y rfl
   cases e1
   obtain⟨b',o',e1,i2⟩:=word_at hl.tx 2 z rfl
   cases e1
   rw[Nat.add_zero] at i0
   have hc2:(3:Int)<=(c:Int):=by have:=hl.cap;simp at this;omega
   rw[hn] at HWO ⊢
   obtain⟨_,_,q2,hdl⟩:=h.cells
   have hib:=World.block_lt_of_cell? X _ i0
   have HN:=Lib.hid fun(V:World) (hV:Below X.heap.size X V)=>dnums_two h (hl.small x (by simp)) (hl.small y (by simp)) V hV
   cases hk:numsL [x,y] with
   | none=>
     rw[hk] at HN
     have HD:=Lib.hid (does_way_none (s:=s) (z:=z) hk)
     rw[HD.out]
     clear h hl hk hn
     go_enter Tryz.func78,Tryz.ntmps78
     go_wp2_with (go_at_call 17;(with_reducible refine HWO.out.mono ?_);rintro e w1 ⟨rfl,rfl⟩)
     have hA:Below X.heap.size X (X.alloc (.cells #[.string x,.string y] 9)).drew:=((Below.refl _ X).alloc (Nat.le_refl _) _).drew
     have HA:=Lib.hid hA
     clear hA
     go_region_with (first|(go_at_call 55;(with_reducible refine(HN.out _ (Below.refl _ X)).mono ?_);rintro e x1 ⟨rfl,b1⟩;(refine(fun(_:wpAny Tryz.prog .any #[] (fun _ _ _=>True) 0 #[] ⟨#[],[]⟩ X)=>⟨rfl,DPost.same HI.out (dout_bad (by decide)) (HA.out.trans (b1.mono HA.out.size))⟩) ?_)))
     all_goals trivial
   | some q=>
     obtain⟨n,hh,rfl⟩:=two_of (show q.length=2 by rw[numsL_len hk];rfl)
     have HD:=Lib.hid (does_way (s:=s) (z:=z) hk)
     rw[HD.out]
     rw[hk] at HN
     have hni:i64 n:=numsL_i64 hk n (by simp)
     have hhi:i64 hh:=numsL_i64 hk hh (by simp)
     have HG:=Lib.hid fun(W:World) (hW:Below X.heap.size X W)=>dway_gr W (h.gra.below hW) n hh (plainB z) hni hhi
     have HOK:=Lib.hid (h.gra.way_ok n hh (plainB z) hni hhi)
     obtain⟨er,L,hF⟩: ∃er L,wayF s.gh s.ga s.gt s.L n hh (plainB z)=(er,L):=⟨_,_,rfl⟩
     rw[hF] at HG HOK ⊢
     simp only[] at HG HOK
     clear hni hhi hF
     clear h hl hk hn HD
     go_enter Tryz.func78,Tryz.ntmps78
     go_wp2_with (go_at_call 17;(with_reducible refine HWO.out.mono ?_);rintro e w1 ⟨rfl,rfl⟩)
     have hA:Below X.heap.size X (X.alloc (.cells #[.string x,.string y] 9)).drew:=((Below.refl _ X).alloc (Nat.le_refl _) _).drew
     have HA:=Lib.hid hA
     clear hA
     go_region_held3 (fun Z=>Z.cell? ⟨dk,2,none⟩=some (.pointer (some ⟨G.gb,0,none⟩))/\Z.cell? ⟨wb,wo,none⟩=some (.string x)/\Z.cell? ⟨wb,wo+1,none⟩=some (.string y)/\Z.cell? ⟨wb,wo+2,none⟩=some (.string z))
      (first|exact⟨q2,i0,i1,i2⟩|exact hS1|exact⟨below_cell HA.out hdl q2,below_cell HA.out hib i0,below_cell HA.out hib i1,below_cell HA.out hib i2⟩)
      (first|(go_at_call 55;(with_reducible refine(HN.out _ (Below.refl _ X)).mono ?_);rintro e x1 ⟨⟨vv,rfl,hown⟩,b1⟩;have HX:Hid (Below X.heap.size X x1):=Lib.hid (HA.out.trans (b1.mono HA.out.size));have hS1:=And.intro (below_cell HX.out hdl q2) (And.intro (below_cell HX.out hib i0) (And.intro (below_cell HX.out hib i1) (below_cell HX.out hib i2)))))
     obtain⟨ao2,cap2,rfl,hin⟩:=ownsRow_intsIn hown
     obtain⟨ib,rfl,j0,j1⟩:=intsIn_two hin
     obtain⟨r2,_,_,r1⟩:=hS1
     have hjb:=World.block_lt_of_cell? x1 _ j0
     have hdl1:=Nat.lt_of_lt_of_le hdl HX.out.size
     have hib1:=Nat.lt_of_lt_of_le hib HX.out.size
     clear hown hin b1 HWO HN
     go_wp2_with fail
     go_region_held3 (fun Z=>Z.cell? ⟨dk,2,none⟩=some (.pointer (some ⟨G.gb,0,none⟩))/\Z.cell? ⟨wb,wo+2,none⟩=some (.string z)/\Z.cell? ⟨ib,0,none⟩=some (.int .i64 n)/\Z.cell? ⟨ib,1,none⟩=some (.int .i64 hh))
      (first|exact⟨r2,r1,j0,j1⟩|exact hS2|assumption)
      (first
       | (go_at_call 133;(with_reducible refine(dplain_any _ _).mono ?_);rintro e x2 ⟨rfl,rfl⟩)
       | (go_at_call 142;(with_reducible refine(HG.out _ HX.out.drew).mono ?_);rintro e x2 ⟨ko,kc,rfl,hki,b2⟩;have hS2:=And.intro (below_cell b2 hdl1 r2) (And.intro (below_cell b2 hib1 r1) (And.intro (below_cell b2 hjb j0) (below_cell b2 hjb j1)))))
     have hx:Below X.heap.size X x2:=HX.out.drew.trans (b2.mono HX.out.size)
     by_cases hn0:er=0
     · have HM:=Lib.hid (must_zero hn0 x2)
       have HZ:=Lib.hid hn0
       have HT:=Lib.hid (djoin_any ko kc L x2 (intsIn_at hki) HOK.out.1 (by have:=HOK.out.2;omega) (HI.out.ptX.below hx))
       obtain⟨kt,hkt⟩: ∃kt,kt=(⟨(wordsT L).toArray⟩:ByteArray):=⟨_,rfl⟩
       have hks: ¬9223372036854775807<4+kt.size:=by
        have h1:kt.size=(wordsT L).length:=by rw[hkt];simp[ByteArray.size]
        have h2:=wordsT_len L HOK.out.1
        have h3:=HOK.out.2
        omega
       rw[<-hkt] at HT
       have HE:=Lib.hid hkt
       have HX2:=Lib.hid hx
       clear hn0 hkt hki hx b2
       go_wp2_with (first
        | (go_at_call 19;(with_reducible refine HM.out.mono ?_);rintro e w2 ⟨rfl,rfl⟩)
        | (go_at_call 134;(with_reducible refine HT.out.mono ?_);rintro e w2 ⟨rfl,b3⟩))
       go_ret
       have hn0:=HZ.out
       subst hn0
       refine DPost.same HI.out (dout_ok ?_) (HX2.out.trans (b3.mono HX2.out.size))
       rw[HE.out]
       simp
     · have HM:=Lib.hid (must_no hn0 x2 (HI.out.evX.below hx))
       have HZ:=Lib.hid hn0
       clear hn0
       go_wp2_with (go_at_call 19;(with_reducible refine HM.out.mono ?_);rintro e w2 ⟨rfl,b5⟩)
       exact⟨rfl,DPost.same HI.out (dout_bad HZ.out) (hx.trans (b5.mono hx.size))⟩
 · have HD:=Lib.hid (does_len (s:=s) (c:= .way) (l:=l) (fun e=>hn e.symm))
   have HWO:=Lib.hid (dwords_bad ao c l.length 3 X (by omega) h.evX)
   clear h hl hn
   rw[HD.out]
   go_enter Tryz.func78,Tryz.ntmps78
   go_wp2_with (go_at_call 17;(with_reducible refine HWO.out.mono ?_);rintro e w1 ⟨rfl,b1⟩)
   exact⟨rfl,DPost.same HI.out (dout_bad (by decide)) b1⟩
end
end Go.Proofs.YtpgkjnebklknjaaGreatDoor
namespace Go.Proofs.YtpgkjnebklknjaaGreatDoor
open Go.RowKit Go.Deep Go.Shelf Go.Sort Go.Maps
theorem formatB (b:Bool):Lib.formatBool b=boolT b:=by cases b<;>decide+kernel
theorem does_now {s:Dsk}:doesD s .now []=(s,(0,wordsT [s.hist.length,s.known,s.used]++32::boolT s.down)):=rfl
section
variable {w0 X W Y:World} {dk:Nat} {s:Dsk} {G:DGh}
theorem dnow_past (W:World) {db bb:Nat} {g:Gh} (h:DBase W s db bb g):Calls Tryz.prog 125 #[.pointer (some ⟨bb,1,none⟩)] W fun e w' =>e= .returned (.int .i64 (s.hist.length:Nat))/\W=w' :=by
 obtain⟨n,ps,hp,_⟩:=h.past
 rw[<-hp.now]
 exact pnow_any bb 1 _ ps g W hp.at'
theorem dknown_past (W:World) {db bb:Nat} {g:Gh} (h:DBase W s db bb g):Calls Tryz.prog 136 #[.pointer (some ⟨bb,1,none⟩)] W fun e w' =>e= .returned (.int .i64 (s.known:Nat))/\W=w' :=by
 obtain⟨n,ps,hp,hk,_⟩:=h.past
 rw[<-hk]
 exact pknown_any bb 1 _ ps g W hp.at'
theorem dused_base (W:World) {db bb:Nat} {g:Gh} (h:DBase W s db bb g):Calls Tryz.prog 137 #[.pointer (some ⟨bb,0,none⟩)] W fun e w' =>e= .returned (.int .i64 (s.used:Nat))/\W=w' :=by
 obtain⟨D,left,log,ps,hb,e1,_⟩:=h.bi
 rw[<-e1]
 exact bused_any W hb
theorem ddown_base (W:World) {db bb:Nat} {g:Gh} (h:DBase W s db bb g):Calls Tryz.prog 138 #[.pointer (some ⟨bb,0,none⟩)] W fun e w' =>e= .returned (.bool s.down)/\W=w' :=by
 obtain⟨D,left,log,ps,hb,_⟩:=h.bi
 exact bdown_any W hb
theorem DBase.sizes {db bb:Nat} {g:Gh} (h:DBase X s db bb g):s.hist.length<=150/\s.known<=150/\s.used<=150:=by
 obtain⟨D,left,log,ps,hb,e1,_⟩:=h.bi
 have h1:=playE_len hb.pl
 have h2:=hb.says.ll
 simp only[] at h1
 omega
def nwφ (dk bb:Nat) (n1 n2 n3:Int) (dn:Bool):Nat->World->Value->Prop:=fun i V v=>match i with
 | 0=>v= .pointer (some ⟨dk,0,none⟩)
 | 1=>v= .pointer (some ⟨dk,0,none⟩)
 | 2=>v= .pointer (some ⟨dk,1,none⟩)
 | 3=>v= .pointer (some ⟨bb,0,none⟩)
 | 4=>v= .pointer (some ⟨bb,1,none⟩)
 | 5=>v= .int .i64 n1
 | 6=>v= .pointer (some ⟨dk,0,none⟩)
 | 7=>v= .pointer (some ⟨dk,0,none⟩)
 | 8=>v= .pointer (some ⟨dk,1,none⟩)
 | 9=>v= .pointer (some ⟨bb,0,none⟩)
 | 10=>v= .pointer (some ⟨bb,1,none⟩)
 | 11=>v= .int .i64 n2
 | 12=>v= .pointer (some ⟨dk,0,none⟩)
 | 13=>v= .pointer (some ⟨dk,0,none⟩)
 | 14=>v= .pointer (some ⟨dk,1,none⟩)
 | 15=>v= .pointer (some ⟨bb,0,none⟩)
 | 16=>v= .int .i64 n3
 | 17=> ∃g,v= .slice (some ⟨g,0,none⟩) 3 3/\intsAt V (some ⟨g,0,none⟩) [n1,n2,n3]
 | 18=>v= .string ⟨(wordsT [n1,n2,n3]).toArray⟩
 | 19=>v= .string (⟨(wordsT [n1,n2,n3]).toArray⟩++⟨#[32]⟩)
 | 20=>v= .pointer (some ⟨dk,0,none⟩)
 | 21=>v= .pointer (some ⟨dk,0,none⟩)
 | 22=>v= .pointer (some ⟨dk,1,none⟩)
 | 23=>v= .pointer (some ⟨bb,0,none⟩)
 | 24=>v= .bool dn
 | 25=>v= .string ⟨(Lib.formatBool dn).toArray⟩
 | 26=>v= .string (⟨(wordsT [n1,n2,n3]).toArray⟩++⟨#[32]⟩++⟨(Lib.formatBool dn).toArray⟩)
 | _=>True
theorem nwφ_0 (dk bb:Nat) (n1 n2 n3:Int) (dn:Bool) (V:World) (v:Value) (h:nwφ dk bb n1 n2 n3 dn 0 V v):v= .pointer (some ⟨dk,0,none⟩):=h
theorem nwφ_1 (dk bb:Nat) (n1 n2 n3:Int) (dn:Bool) (V:World) (v:Value) (h:nwφ dk bb n1 n2 n3 dn 1 V v):v= .pointer (some ⟨dk,0,none⟩):=h
theorem nwφ_2 (dk bb:Nat) (n1 n2 n3:Int) (dn:Bool) (V:World) (v:Value) (h:nwφ dk bb n1 n2 n3 dn 2 V v):v= .pointer (some ⟨dk,1,none⟩):=h
theorem nwφ_3 (dk bb:Nat) (n1 n2 n3:Int) (dn:Bool) (V:World) (v:Value) (h:nwφ dk bb n1 n2 n3 dn 3 V v):v= .pointer (some ⟨bb,0,none⟩):=h
theorem nwφ_4 (dk bb:Nat) (n1 n2 n3:Int) (dn:Bool) (V:World) (v:Value) (h:nwφ dk bb n1 n2 n3 dn 4 V v):v= .pointer (some ⟨bb,1,none⟩):=h
theorem nwφ_5 (dk bb:Nat) (n1 n2 n3:Int) (dn:Bool) (V:World) (v:Value) (h:nwφ dk bb n1 n2 n3 dn 5 V v):v= .int .i64 n1:=h
theorem nwφ_6 (dk bb:Nat) (n1 n2 n3:Int) (dn:Bool) (V:World) (v:Value) (h:nwφ dk bb n1 n2 n3 dn 6 V v):v= .pointer (some ⟨dk,0,none⟩):=h
theorem nwφ_7 (dk bb:Nat) (n1 n2 n3:Int) (dn:Bool) (V:World) (v:Value) (h:nwφ dk bb n1 n2 n3 dn 7 V v):v= .pointer (some ⟨dk,0,none⟩):=h
theorem nwφ_8 (dk bb:Nat) (n1 n2 n3:Int) (dn:Bool) (V:World) (v:Value) (h:nwφ dk bb n1 n2 n3 dn 8 V v):v= .pointer (some ⟨dk,1,none⟩):=h
theorem nwφ_9 (dk bb:Nat) (n1 n2 n3:Int) (dn:Bool) (V:World) (v:Value) (h:nwφ dk bb n1 n2 n3 dn 9 V v):v= .pointer (some ⟨bb,0,none⟩):=h
theorem nwφ_10 (dk bb:Nat) (n1 n2 n3:Int) (dn:Bool) (V:World) (v:Value) (h:nwφ dk bb n1 n2 n3 dn 10 V v):v= .pointer (some ⟨bb,1,none⟩):=h
theorem nwφ_11 (dk bb:Nat) (n1 n2 n3:Int) (dn:Bool) (V:World) (v:Value) (h:nwφ dk bb n1 n2 n3 dn 11 V v):v= .int .i64 n2:=h
theorem nwφ_12 (dk bb:Nat) (n1 n2 n3:Int) (dn:Bool) (V:World) (v:Value) (h:nwφ dk bb n1 n2 n3 dn 12 V v):v= .pointer (some ⟨dk,0,none⟩):=h
theorem nwφ_13 (dk bb:Nat) (n1 n2 n3:Int) (dn:Bool) (V:World) (v:Value) (h:nwφ dk bb n1 n2 n3 dn 13 V v):v= .pointer (some ⟨dk,0,none⟩):=h
theorem nwφ_14 (dk bb:Nat) (n1 n2 n3:Int) (dn:Bool) (V:World) (v:Value) (h:nwφ dk bb n1 n2 n3 dn 14 V v):v= .pointer (some ⟨dk,1,none⟩):=h
theorem nwφ_15 (dk bb:Nat) (n1 n2 n3:Int) (dn:Bool) (V:World) (v:Value) (h:nwφ dk bb n1 n2 n3 dn 15 V v):v= .pointer (some ⟨bb,0,none⟩):=h
theorem nwφ_16 (dk bb:Nat) (n1 n2 n3:Int) (dn:Bool) (V:World) (v:Value) (h:nwφ dk bb n1 n2 n3 dn 16 V v):v= .int .i64 n3:=h
theorem nwφ_17 (dk bb:Nat) (n1 n2 n3:Int) (dn:Bool) (V:World) (v:Value) (h:nwφ dk bb n1 n2 n3 dn 17 V v): ∃g,v= .slice (some ⟨g,0,none⟩) 3 3/\intsAt V (some ⟨g,0,none⟩) [n1,n2,n3]:=h
theorem nwφ_18 (dk bb:Nat) (n1 n2 n3:Int) (dn:Bool) (V:World) (v:Value) (h:nwφ dk bb n1 n2 n3 dn 18 V v):v= .string ⟨(wordsT [n1,n2,n3]).toArray⟩:=h
theorem nwφ_19 (dk bb:Nat) (n1 n2 n3:Int) (dn:Bool) (V:World) (v:Value) (h:nwφ dk bb n1 n2 n3 dn 19 V v):v= .string (⟨(wordsT [n1,n2,n3]).toArray⟩++⟨#[32]⟩):=h
theorem nwφ_20 (dk bb:Nat) (n1 n2 n3:Int) (dn:Bool) (V:World) (v:Value) (h:nwφ dk bb n1 n2 n3 dn 20 V v):v= .pointer (some ⟨dk,0,none⟩):=h
theorem nwφ_21 (dk bb:Nat) (n1 n2 n3:Int) (dn:Bool) (V:World) (v:Value) (h:nwφ dk bb n1 n2 n3 dn 21 V v):v= .pointer (some ⟨dk,0,none⟩):=h
theorem nwφ_22 (dk bb:Nat) (n1 n2 n3:Int) (dn:Bool) (V:World) (v:Value) (h:nwφ dk bb n1 n2 n3 dn 22 V v):v= .pointer (some ⟨dk,1,none⟩):=h
theorem nwφ_23 (dk bb:Nat) (n1 n2 n3:Int) (dn:Bool) (V:World) (v:Value) (h:nwφ dk bb n1 n2 n3 dn 23 V v):v= .pointer (some ⟨bb,0,none⟩):=h
theorem nwφ_24 (dk bb:Nat) (n1 n2 n3:Int) (dn:Bool) (V:World) (v:Value) (h:nwφ dk bb n1 n2 n3 dn 24 V v):v= .bool dn:=h
theorem nwφ_25 (dk bb:Nat) (n1 n2 n3:Int) (dn:Bool) (V:World) (v:Value) (h:nwφ dk bb n1 n2 n3 dn 25 V v):v= .string ⟨(Lib.formatBool dn).toArray⟩:=h
theorem nwφ_26 (dk bb:Nat) (n1 n2 n3:Int) (dn:Bool) (V:World) (v:Value) (h:nwφ dk bb n1 n2 n3 dn 26 V v):v= .string (⟨(wordsT [n1,n2,n3]).toArray⟩++⟨#[32]⟩++⟨(Lib.formatBool dn).toArray⟩):=h
theorem nwφ_mono (dk bb:Nat) (n1 n2 n3:Int) (dn:Bool) (i:Nat) (V V' :World) (v:Value) (hb:Below V.heap.size V V') (h:nwφ dk bb n1 n2 n3 dn i V v):nwφ dk bb n1 n2 n3 dn i V' v:=
 match i,h with
 | 0,h=>h
 | 1,h=>h
 | 2,h=>h
 | 3,h=>h
 | 4,h=>h
 | 5,h=>h
 | 6,h=>h
 | 7,h=>h
 | 8,h=>h
 | 9,h=>h
 | 10,h=>h
 | 11,h=>h
 | 12,h=>h
 | 13,h=>h
 | 14,h=>h
 | 15,h=>h
 | 16,h=>h
 | 17,h=>let ⟨g,e,hg⟩:=h;⟨g,e,hg.below hb⟩
 | 18,h=>h
 | 19,h=>h
 | 20,h=>h
 | 21,h=>h
 | 22,h=>h
 | 23,h=>h
 | 24,h=>h
 | 25,h=>h
 | 26,h=>h
 | _+27,_=>trivial
theorem nwφ_list {X:List Value} (h:X.length=27): ∃x0 x1 x2 x3 x4 x5 x6 x7 x8 x9 x10 x11 x12 x13 x14 x15 x16 x17 x18 x19 x20 x21 x22 x23 x24 x25 x26,X= [x0,x1,x2,x3,x4,x5,x6,x7,x8,x9,x10,x11,x12,x13,x14,x15,x16,x17,x18,x19,x20,x21,x22,x23,x24,x25,x26]:=
 match X,h with| [x0,x1,x2,x3,x4,x5,x6,x7,x8,x9,x10,x11,x12,x13,x14,x15,x16,x17,x18,x19,x20,x21,x22,x23,x24,x25,x26],_=>⟨x0,x1,x2,x3,x4,x5,x6,x7,x8,x9,x10,x11,x12,x13,x14,x15,x16,x17,x18,x19,x20,x21,x22,x23,x24,x25,x26,rfl⟩
set_option maxRecDepth 100000 in
set_option maxHeartbeats 8000000 in
theorem dnow_any (ao:Option Addr) (c:Nat) (l:List ByteArray) (h:DI w0 X dk s G) (_hl:WordsOk X ao c l):
  Calls Tryz.prog 73 #[.pointer (some ⟨dk,0,none⟩),.slice ao l.length c] X (DPost w0 X dk G (doesD s .now l)):=by
 have HI:=Lib.hid h
 by_cases hn:l.length=0
 · have HWO:=Lib.hid (dwords_ok ao c l.length 0 X (by rw[hn];rfl))
   have HD:=Lib.hid (show doesD s .now l=_ from(nil_of_len hn)▸does_now)
   rw[hn] at HWO ⊢
   obtain⟨_,q1,_,hdl⟩:=h.cells
   have HP:=Lib.hid fun(V:World) (hV:Below X.heap.size X V)=>dpast_any V (h.base.below hV)
   have HNow:=Lib.hid fun(V:World) (hV:Below X.heap.size X V)=>dnow_past V (h.base.below hV)
   have HKn:=Lib.hid fun(V:World) (hV:Below X.heap.size X V)=>dknown_past V (h.base.below hV)
   have HUs:=Lib.hid fun(V:World) (hV:Below X.heap.size X V)=>dused_base V (h.base.below hV)
   have HDo:=Lib.hid fun(V:World) (hV:Below X.heap.size X V)=>ddown_base V (h.base.below hV)
   have HT:=Lib.hid h.ptX
   obtain⟨z1,z2,z3⟩:=h.base.sizes
   rw[HD.out]
   obtain⟨n1,hn1⟩: ∃n1:Int,n1=((s.hist.length:Nat):Int):=⟨_,rfl⟩
   obtain⟨n2,hn2⟩: ∃n2:Int,n2=((s.known:Nat):Int):=⟨_,rfl⟩
   obtain⟨n3,hn3⟩: ∃n3:Int,n3=((s.used:Nat):Int):=⟨_,rfl⟩
   obtain⟨dn,hdn⟩: ∃dn,dn=s.down:=⟨_,rfl⟩
   have hw3: ∀x∈ [n1,n2,n3],i64B x:=fun x hx=>by
    simp only[List.mem_cons,List.not_mem_nil,or_false] at hx
    unfold i64B
    rcases hx with rfl|rfl|rfl<;>omega
   have hwl:=wordsT_len [n1,n2,n3] hw3
   have hfl:(Lib.formatBool dn).length<=5:=by rw[formatB];cases dn<;>decide
   simp only[List.length_cons,List.length_nil] at hwl
   rw[<-hn1] at HNow ⊢
   rw[<-hn2] at HKn ⊢
   rw[<-hn3] at HUs ⊢
   rw[<-hdn] at HDo ⊢
   have HW3:=Lib.hid hw3
   generalize G.bb=bb at*
   clear h _hl hn HD hn1 hn2 hn3 hdn hw3 z1 z2 z3
   go_enter Tryz.func73,Tryz.ntmps73
   go_wp2_with (go_at_call 17;(with_reducible refine HWO.out.mono ?_);rintro e w1 ⟨rfl,rfl⟩)
   refine wp_region_dag_at 7 27 _ (fun V=>Below X.heap.size X V) (fun V V' =>Below V.heap.size V V') (nwφ dk bb n1 n2 n3 dn) rfl (by kernel_rfl) (by kernel_rfl) ?_ rfl (Below.refl _ _).drew ?_ ?_
   · exact fun i V V' v _ _ hb h=>nwφ_mono _ _ _ _ _ _ i V V' v hb h
   · simp only[List.take_succ_cons,List.take_zero,DagSteps,and_true]
     refine⟨?_,?_,?_,?_,?_,?_,?_,?_,?_,?_,?_,?_,?_,?_,?_,?_,?_,?_,?_,?_,?_,?_,?_,?_,?_,?_,?_⟩
     · intro A V K hC hP hd hK
       have p0:A.tmps[0]?.getD undef= .pointer (some ⟨dk,0,none⟩):=evalT (hP 0 (of_decide_eq_true rfl))
       clear hP hd
       unfold Oper.wp
       go_simp
       exact hK _ _ hC (Below.refl _ _) rfl
     · intro A V K hC hP hd hK
       have e0:A.tmps[7]?.getD undef= .pointer (some ⟨dk,0,none⟩):=evalT (nwφ_0 _ _ _ _ _ _ _ _ (hd 0 (by kernel_rfl)))
       clear hP hd
       unfold Oper.wp
       go_simp
       exact hK _ _ hC (Below.refl _ _) rfl
     · intro A V K hC hP hd hK
       have e1:A.tmps[8]?.getD undef= .pointer (some ⟨dk,0,none⟩):=evalT (nwφ_1 _ _ _ _ _ _ _ _ (hd 1 (by kernel_rfl)))
       clear hP hd
       unfold Oper.wp
       go_simp
       exact hK _ _ hC (Below.refl _ _) rfl
     · intro A V K hC hP hd hK
       have e2:A.tmps[9]?.getD undef= .pointer (some ⟨dk,1,none⟩):=evalT (nwφ_2 _ _ _ _ _ _ _ _ (hd 2 (by kernel_rfl)))
       have d1:=below_cell hC hdl q1
       clear hP hd
       unfold Oper.wp
       go_simp
       exact hK _ _ hC (Below.refl _ _) rfl
     · intro A V K hC hP hd hK
       have e3:A.tmps[10]?.getD undef= .pointer (some ⟨bb,0,none⟩):=evalT (nwφ_3 _ _ _ _ _ _ _ _ (hd 3 (by kernel_rfl)))
       clear hP hd
       unfold Oper.wp
       go_simp
       refine(HP.out V hC).mono ?_
       rintro e w1 ⟨rfl,rfl⟩
       exact hK _ _ hC (Below.refl _ _) rfl
     · intro A V K hC hP hd hK
       have e4:A.tmps[11]?.getD undef= .pointer (some ⟨bb,1,none⟩):=evalT (nwφ_4 _ _ _ _ _ _ _ _ (hd 4 (by kernel_rfl)))
       clear hP hd
       unfold Oper.wp
       go_simp
       refine(HNow.out V hC).mono ?_
       rintro e w1 ⟨rfl,rfl⟩
       exact hK _ _ hC (Below.refl _ _) rfl
     · intro A V K hC hP hd hK
       have p0:A.tmps[0]?.getD undef= .pointer (some ⟨dk,0,none⟩):=evalT (hP 0 (of_decide_eq_true rfl))
       clear hP hd
       unfold Oper.wp
       go_simp
       exact hK _ _ hC (Below.refl _ _) rfl
     · intro A V K hC hP hd hK
       have e6:A.tmps[13]?.getD undef= .pointer (some ⟨dk,0,none⟩):=evalT (nwφ_6 _ _ _ _ _ _ _ _ (hd 6 (by kernel_rfl)))
       clear hP hd
       unfold Oper.wp
       go_simp
       exact hK _ _ hC (Below.refl _ _) rfl
     · intro A V K hC hP hd hK
       have e7:A.tmps[14]?.getD undef= .pointer (some ⟨dk,0,none⟩):=evalT (nwφ_7 _ _ _ _ _ _ _ _ (hd 7 (by kernel_rfl)))
       clear hP hd
       unfold Oper.wp
       go_simp
       exact hK _ _ hC (Below.refl _ _) rfl
     · intro A V K hC hP hd hK
       have e8:A.tmps[15]?.getD undef= .pointer (some ⟨dk,1,none⟩):=evalT (nwφ_8 _ _ _ _ _ _ _ _ (hd 8 (by kernel_rfl)))
       have d1:=below_cell hC hdl q1
       clear hP hd
       unfold Oper.wp
       go_simp
       exact hK _ _ hC (Below.refl _ _) rfl
     · intro A V K hC hP hd hK
       have e9:A.tmps[16]?.getD undef= .pointer (some ⟨bb,0,none⟩):=evalT (nwφ_9 _ _ _ _ _ _ _ _ (hd 9 (by kernel_rfl)))
       clear hP hd
       unfold Oper.wp
       go_simp
       refine(HP.out V hC).mono ?_
       rintro e w1 ⟨rfl,rfl⟩
       exact hK _ _ hC (Below.refl _ _) rfl
     · intro A V K hC hP hd hK
       have e10:A.tmps[17]?.getD undef= .pointer (some ⟨bb,1,none⟩):=evalT (nwφ_10 _ _ _ _ _ _ _ _ (hd 10 (by kernel_rfl)))
       clear hP hd
       unfold Oper.wp
       go_simp
       refine(HKn.out V hC).mono ?_
       rintro e w1 ⟨rfl,rfl⟩
       exact hK _ _ hC (Below.refl _ _) rfl
     · intro A V K hC hP hd hK
       have p0:A.tmps[0]?.getD undef= .pointer (some ⟨dk,0,none⟩):=evalT (hP 0 (of_decide_eq_true rfl))
       clear hP hd
       unfold Oper.wp
       go_simp
       exact hK _ _ hC (Below.refl _ _) rfl
     · intro A V K hC hP hd hK
       have e12:A.tmps[19]?.getD undef= .pointer (some ⟨dk,0,none⟩):=evalT (nwφ_12 _ _ _ _ _ _ _ _ (hd 12 (by kernel_rfl)))
       clear hP hd
       unfold Oper.wp
       go_simp
       exact hK _ _ hC (Below.refl _ _) rfl
     · intro A V K hC hP hd hK
       have e13:A.tmps[20]?.getD undef= .pointer (some ⟨dk,0,none⟩):=evalT (nwφ_13 _ _ _ _ _ _ _ _ (hd 13 (by kernel_rfl)))
       clear hP hd
       unfold Oper.wp
       go_simp
       exact hK _ _ hC (Below.refl _ _) rfl
     · intro A V K hC hP hd hK
       have e14:A.tmps[21]?.getD undef= .pointer (some ⟨dk,1,none⟩):=evalT (nwφ_14 _ _ _ _ _ _ _ _ (hd 14 (by kernel_rfl)))
       have d1:=below_cell hC hdl q1
       clear hP hd
       unfold Oper.wp
       go_simp
       exact hK _ _ hC (Below.refl _ _) rfl
     · intro A V K hC hP hd hK
       have e15:A.tmps[22]?.getD undef= .pointer (some ⟨bb,0,none⟩):=evalT (nwφ_15 _ _ _ _ _ _ _ _ (hd 15 (by kernel_rfl)))
       clear hP hd
       unfold Oper.wp
       go_simp
       refine(HUs.out V hC).mono ?_
       rintro e w1 ⟨rfl,rfl⟩
       exact hK _ _ hC (Below.refl _ _) rfl
     · intro A V K hC hP hd hK
       have e5:A.tmps[12]?.getD undef= .int .i64 n1:=evalT (nwφ_5 _ _ _ _ _ _ _ _ (hd 5 (by kernel_rfl)))
       have e11:A.tmps[18]?.getD undef= .int .i64 n2:=evalT (nwφ_11 _ _ _ _ _ _ _ _ (hd 11 (by kernel_rfl)))
       have e16:A.tmps[23]?.getD undef= .int .i64 n3:=evalT (nwφ_16 _ _ _ _ _ _ _ _ (hd 16 (by kernel_rfl)))
       clear hP hd
       unfold Oper.wp
       go_simp
       exact hK _ _ (hC.alloc hC.size _) ((Below.refl _ _).alloc (Nat.le_refl _) _) ⟨_,rfl,intsAt_new _ [n1,n2,n3] (by simp)⟩
     · intro A V K hC hP hd hK
       have h17:=hd 17 (by kernel_rfl)
       have h17:=nwφ_17 _ _ _ _ _ _ _ _ h17
       obtain⟨g,eg,hg⟩:=h17
       have e17:=evalT (t:=24) eg
       clear hP hd
       unfold Oper.wp
       go_simp
       refine(djoin_any _ 3 [n1,n2,n3] V hg HW3.out (by simp) (HT.out.below hC)).mono ?_
       rintro e w1 ⟨rfl,h1⟩
       exact hK _ _ (below_trans hC hC.size h1) h1 rfl
     · intro A V K hC hP hd hK
       have e18:A.tmps[25]?.getD undef= .string ⟨(wordsT [n1,n2,n3]).toArray⟩:=evalT (nwφ_18 _ _ _ _ _ _ _ _ (hd 18 (by kernel_rfl)))
       clear hP hd
       unfold Oper.wp
       go_simp
       rw[if_neg (by omega)]
       exact hK _ _ hC (Below.refl _ _) rfl
     · intro A V K hC hP hd hK
       have p0:A.tmps[0]?.getD undef= .pointer (some ⟨dk,0,none⟩):=evalT (hP 0 (of_decide_eq_true rfl))
       clear hP hd
       unfold Oper.wp
       go_simp
       exact hK _ _ hC (Below.refl _ _) rfl
     · intro A V K hC hP hd hK
       have e20:A.tmps[27]?.getD undef= .pointer (some ⟨dk,0,none⟩):=evalT (nwφ_20 _ _ _ _ _ _ _ _ (hd 20 (by kernel_rfl)))
       clear hP hd
       unfold Oper.wp
       go_simp
       exact hK _ _ hC (Below.refl _ _) rfl
     · intro A V K hC hP hd hK
       have e21:A.tmps[28]?.getD undef= .pointer (some ⟨dk,0,none⟩):=evalT (nwφ_21 _ _ _ _ _ _ _ _ (hd 21 (by kernel_rfl)))
       clear hP hd
       unfold Oper.wp
       go_simp
       exact hK _ _ hC (Below.refl _ _) rfl
     · intro A V K hC hP hd hK
       have e22:A.tmps[29]?.getD undef= .pointer (some ⟨dk,1,none⟩):=evalT (nwφ_22 _ _ _ _ _ _ _ _ (hd 22 (by kernel_rfl)))
       have d1:=below_cell hC hdl q1
       clear hP hd
       unfold Oper.wp
       go_simp
       exact hK _ _ hC (Below.refl _ _) rfl
     · intro A V K hC hP hd hK
       have e23:A.tmps[30]?.getD undef= .pointer (some ⟨bb,0,none⟩):=evalT (nwφ_23 _ _ _ _ _ _ _ _ (hd 23 (by kernel_rfl)))
       clear hP hd
       unfold Oper.wp
       go_simp
       refine(HDo.out V hC).mono ?_
       rintro e w1 ⟨rfl,rfl⟩
       exact hK _ _ hC (Below.refl _ _) rfl
     · intro A V K hC hP hd hK
       have e24:A.tmps[31]?.getD undef= .bool dn:=evalT (nwφ_24 _ _ _ _ _ _ _ _ (hd 24 (by kernel_rfl)))
       clear hP hd
       unfold Oper.wp
       go_simp
       refine(Tryz.strconv_FormatBool dn V).mono ?_
       rintro e w1 ⟨rfl,rfl⟩
       exact hK _ _ hC (Below.refl _ _) rfl
     · intro A V K hC hP hd hK
       have e19:A.tmps[26]?.getD undef= .string (⟨(wordsT [n1,n2,n3]).toArray⟩++⟨#[32]⟩):=evalT (nwφ_19 _ _ _ _ _ _ _ _ (hd 19 (by kernel_rfl)))
       have e25:A.tmps[32]?.getD undef= .string ⟨(Lib.formatBool dn).toArray⟩:=evalT (nwφ_25 _ _ _ _ _ _ _ _ (hd 25 (by kernel_rfl)))
       clear hP hd
       unfold Oper.wp
       go_simp
       rw[if_neg (by omega)]
       exact hK _ _ hC (Below.refl _ _) rfl
   · intro X' w1 hX hC hφ
     obtain⟨x0,x1,x2,x3,x4,x5,x6,x7,x8,x9,x10,x11,x12,x13,x14,x15,x16,x17,x18,x19,x20,x21,x22,x23,x24,x25,x26,rfl⟩:=nwφ_list hX
     have e26:=nwφ_26 _ _ _ _ _ _ _ _ (hφ 26 (of_decide_eq_true rfl))
     have e:x26= .string (⟨(wordsT [n1,n2,n3]).toArray⟩++⟨#[32]⟩++⟨(Lib.formatBool dn).toArray⟩):=e26
     rw[e]
     clear e e26 hφ hX
     unfold Oper.wp
     go_simp
     rename_i hK
     refine hK _ _ ?_
     go_wp2
     go_ret
     exact DPost.same HI.out (dout_ok (by rw[formatB];simp)) hC
 · have HD:=Lib.hid (does_len (s:=s) (c:= .now) (l:=l) (fun e=>hn e.symm))
   have HWO:=Lib.hid (dwords_bad ao c l.length 0 X (by omega) h.evX)
   clear h _hl hn
   rw[HD.out]
   go_enter Tryz.func73,Tryz.ntmps73
   go_wp2_with (go_at_call 17;(with_reducible refine HWO.out.mono ?_);rintro e w1 ⟨rfl,b1⟩)
   exact⟨rfl,DPost.same HI.out (dout_bad (by decide)) b1⟩
end
end Go.Proofs.YtpgkjnebklknjaaGreatDoor
namespace Go.Proofs.YtpgkjnebklknjaaGreatDoor
open Go.RowKit Go.Deep Go.Shelf Go.Sort Go.Maps
section
variable {w0 X W Y:World} {dk:Nat} {s:Dsk} {G:DGh}
theorem commitD_none {l:List ByteArray} (h:readF (Lib.join (l.map (·.data.toList)) [32])=none):commitD s l=(s,(3,[])):=by unfold commitD;rw[h]
theorem commitD_some {l:List ByteArray} {L:List OpP} (h:readF (Lib.join (l.map (·.data.toList)) [32])=some L):commitD s l=comD s L:=by unfold commitD;rw[h]
theorem fread_none {jt:ByteArray} (w:World) (hs:jt.size<=100000) (ht:PowTab w) (hv:NumVars w) (hr:readF jt.data.toList=none):
  Calls Tryz.prog 113 #[.string jt] w fun e w' =>e= .returned (.tuple #[.slice none 0 0,.iface 56 (.int .i64 3)])/\Below w.heap.size w w' :=by
 refine(fread_full jt w hs ht hv).mono ?_
 rintro e w' ⟨⟨L,ao,cap,_,e1,_⟩|⟨rfl,_⟩,hb⟩
 · rw[hr] at e1;cases e1
 · exact⟨rfl,hb⟩
theorem fread_some {jt:ByteArray} {L:List OpP} (w:World) (hs:jt.size<=100000) (ht:PowTab w) (hv:NumVars w) (hr:readF jt.data.toList=some L):
  Calls Tryz.prog 113 #[.string jt] w fun e w' => ∃ao cap,e= .returned (.tuple #[.slice ao L.length cap,.nilIface])/\opsAt w' ao L/\(∀b f,ao=some ⟨b,f,none⟩->w.heap.size<=b)/\Below w.heap.size w w' :=by
 refine(fread_full jt w hs ht hv).mono ?_
 rintro e w' ⟨⟨L',ao,cap,rfl,e1,h1,h2⟩|⟨_,e1⟩,hb⟩
 · rw [hr] at e1;cases e1
   exact⟨ao,cap,rfl,h1,h2,hb⟩
 · rw[hr] at e1;cases e1
theorem readF_ok {t:List UInt8} {L:List OpP} (h:readF t=some L):okL L=true:=by
 obtain⟨h1,h2,_⟩:=(okT_iff _ _).1 ((readF_iff _ _).1 h)
 exact okL_iff.2 ⟨h1,h2⟩
theorem errIs_ne {w:World} {v:Value} {n p:Int} (h:ErrIs w v n p) (hn:n≠0):v≠ .nilIface:=by
 rcases h with ⟨_,h0,_⟩|⟨rfl,_⟩|⟨b,rfl,_⟩
 · exact absurd h0 hn
 · exact fun e=>by cases e
 · exact fun e=>by cases e
theorem dcommit_new (h:DI w0 X dk s G) {V:World} (hV:Below X.heap.size X V) (ao:Option Addr) (c:Nat) {L:List OpP} (hok:okL L=true) (ho:opsAt V ao L) (hn: ∀b f,ao=some ⟨b,f,none⟩->X.heap.size<=b):
  Calls Tryz.prog 124 #[.pointer (some ⟨G.bb,0,none⟩),.slice ao L.length c,.int .i64 (-1)] V fun e Y=> ∃v p,e= .returned v/\ErrIs Y v (comD s L).2.1 p/\((comD s L).2.1=0->v= .nilIface)/\ErrVar Y/\ ∀e',DOut (comD s L).2 e' ->DPost w0 V dk G (comD s L) e' Y:=by
 obtain⟨D,left,log,ps,hb,_⟩:=h.base.bi
 have hl8:=(okL_iff.1 hok).1.2
 refine dcommit_base (h.below hV) ao c L ho (by unfold maxLen;omega) (okL_small hok) (fun _ b f e=>⟨fun hk=> ?_,fun e2=> ?_⟩)
 · have h1:=hn b f e
   have h2:=hb.p.at'.lt b hk
   omega
 · have h1:=hn b f e
   have h2:=hb.dk.lt
   omega
set_option maxRecDepth 100000 in
set_option maxHeartbeats 4000000 in
theorem dcommit_any (ao:Option Addr) (c:Nat) (l:List ByteArray) (h:DI w0 X dk s G) (hl:WordsOk X ao c l) (hj:(Lib.join (l.map (·.data.toList)) [32]).length<=100000):
  Calls Tryz.prog 64 #[.pointer (some ⟨dk,0,none⟩),.slice ao l.length c] X (DPost w0 X dk G (commitD s l)):=by
 have HI:=Lib.hid h
 have hl100:=hl.len
 have hJ:=join_any ao c l ⟨#[32]⟩ X hl.tx hl.cap (by omega) (by simp only;omega)
 obtain⟨jt,hjt⟩: ∃jt,jt=(⟨(Lib.join (l.map (·.data.toList)) [32]).toArray⟩:ByteArray):=⟨_,rfl⟩
 have hjs:jt.size<=100000:=by rw[hjt];simpa [ByteArray.size] using hj
 have hjd:jt.data.toList=Lib.join (l.map (·.data.toList)) [32]:=by rw[hjt]
 have HJ:Hid (Calls Tryz.prog 31 #[.slice ao l.length c,.string ⟨#[32]⟩] X fun e w' =>e= .returned (.string jt)/\Below X.heap.size X w'):=Lib.hid (by rw[hjt];exact hJ)
 clear hJ
 cases hr:readF (Lib.join (l.map (·.data.toList)) [32]) with
 | none=>
   have HD:=Lib.hid (commitD_none (s:=s) hr)
   have HF:=Lib.hid fun(V:World) (hV:Below X.heap.size X V)=>fread_none V hjs (h.ptX.below hV) (h.nvX.below hV) (by rw[hjd];exact hr)
   rw[HD.out]
   clear h hl hj hr hjt hjs hjd hl100
   go_enter Tryz.func64,Tryz.ntmps64
   go_wp2_with (first
    | (go_at_call 31;(with_reducible refine HJ.out.mono ?_);rintro e w1 ⟨rfl,b1⟩)
    | (go_at_call 113;(with_reducible refine(HF.out _ b1).mono ?_);rintro e w2 ⟨rfl,b2⟩;have HX:Hid (Below X.heap.size X w2):=Lib.hid (b1.trans (b2.mono b1.size)))
    | (go_at_call 19;(with_reducible refine(must_errno 3 _ (HI.out.evX.below HX.out)).mono ?_);rintro e w3 ⟨rfl,b3⟩))
   exact⟨rfl,DPost.same HI.out (dout_bad (by decide)) (HX.out.trans (b3.mono HX.out.size))⟩
 | some L=>
   have hok:=readF_ok hr
   have HD:=Lib.hid (commitD_some (s:=s) hr)
   have HF:=Lib.hid fun(V:World) (hV:Below X.heap.size X V)=>fread_some V hjs (h.ptX.below hV) (h.nvX.below hV) (show readF jt.data.toList=some L by rw[hjd];exact hr)
   have HC:=Lib.hid fun(V:World) (hV:Below X.heap.size X V) (ao:Option Addr) (c:Nat) (ho:opsAt V ao L) (hn: ∀b f,ao=some ⟨b,f,none⟩->X.heap.size<=b)=>dcommit_new h hV ao c hok ho hn
   have HT:Hid ((comD s L).2.2=Lib.itoa (((comD s L).1.hist.length:Nat):Int)):=Lib.hid rfl
   obtain⟨_,q1,_,hdl⟩:=h.cells
   rw[HD.out]
   obtain⟨s',er,tx,hF⟩: ∃s' er tx,comD s L=(s',(er,tx)):=⟨_,_,_,rfl⟩
   rw[hF] at HC HT ⊢
   simp only[] at HC HT
   clear h hl hj hr hjt hjs hjd hl100 HD hF hok
   by_cases hz:er=0
   · have HZ:=Lib.hid hz
     clear hz
     go_enter Tryz.func64,Tryz.ntmps64
     go_wp2_with (first
      | (go_at_call 31;(with_reducible refine HJ.out.mono ?_);rintro e w1 ⟨rfl,b1⟩)
      | (go_at_call 113;(with_reducible refine(HF.out _ b1).mono ?_);rintro e w2 ⟨ao2,cap2,rfl,ho,hn,b2⟩;have HX:Hid (Below X.heap.size X w2):=Lib.hid (b1.trans (b2.mono b1.size));have HO:=Lib.hid ho;have HN:Hid (∀b f,ao2=some ⟨b,f,none⟩->X.heap.size<=b):=Lib.hid (fun b f e=>Nat.le_trans b1.size (hn b f e));have q2:=below_cell HX.out hdl q1;clear ho hn b1 b2)
      | (go_at_call 124;(with_reducible refine(HC.out _ HX.out _ _ HO.out HN.out).mono ?_);rintro e Y ⟨v,p,rfl,he,hv,hev,hP⟩;obtain rfl:=hv HZ.out;obtain⟨G',hdi,_⟩:=(hP (.returned (.string ⟨tx.toArray⟩)) (.inl ⟨HZ.out,rfl⟩)).di;replace hdi:DI w0 Y dk s' G' :=hdi;obtain⟨_,y1,_,hdlY⟩:=hdi.cells;have hsz:=hdi.base.sizes;have CP:=Lib.hid (dpast_any Y hdi.base);have CN:=Lib.hid (dnow_past Y hdi.base);have CI:=Lib.hid (itoa_any ((s'.hist.length:Nat):Int) (by unfold i64B;omega) Y hdi.ptX);have HP:=Lib.hid hP;clear hP hdi hv he hev hsz)
      | (go_at_call 19;(with_reducible refine(must_nil _).mono ?_);rintro e x3 ⟨rfl,rfl⟩)
      | (go_at_call 57;(with_reducible refine CP.out.mono ?_);rintro e x3 ⟨rfl,rfl⟩)
      | (go_at_call 125;(with_reducible refine CN.out.mono ?_);rintro e x3 ⟨rfl,rfl⟩)
      | (go_at_call 25;(with_reducible refine CI.out.mono ?_);rintro e x4 ⟨rfl,b4⟩))
     go_ret
     exact DPost.later HX.out.size HX.out (DPost.grow (HP.out _ (.inl ⟨HZ.out,by rw[HT.out];rfl⟩)) b4)
   · have HZ:=Lib.hid hz
     clear hz
     go_enter Tryz.func64,Tryz.ntmps64
     go_wp2_with (first
      | (go_at_call 31;(with_reducible refine HJ.out.mono ?_);rintro e w1 ⟨rfl,b1⟩)
      | (go_at_call 113;(with_reducible refine(HF.out _ b1).mono ?_);rintro e w2 ⟨ao2,cap2,rfl,ho,hn,b2⟩;have HX:Hid (Below X.heap.size X w2):=Lib.hid (b1.trans (b2.mono b1.size));have HO:=Lib.hid ho;have HN:Hid (∀b f,ao2=some ⟨b,f,none⟩->X.heap.size<=b):=Lib.hid (fun b f e=>Nat.le_trans b1.size (hn b f e));have q2:=below_cell HX.out hdl q1;clear ho hn b1 b2)
      | (go_at_call 124;(with_reducible refine(HC.out _ HX.out _ _ HO.out HN.out).mono ?_);rintro e Y ⟨v,p,rfl,he,hv,hev,hP⟩;have CB:=Lib.hid (must_bad v er p Y hev he (errIs_ne he HZ.out));have HP:=Lib.hid hP;clear hP hv he hev)
      | (go_at_call 19;(with_reducible refine(must_nil _).mono ?_);rintro e x3 ⟨rfl,rfl⟩)
      | (go_at_call 19;(with_reducible refine CB.out.mono ?_);rintro e x3 ⟨rfl,b3⟩))
     exact⟨rfl,DPost.later HX.out.size HX.out (DPost.grow (HP.out _ (dout_bad HZ.out)) b3)⟩
end
end Go.Proofs.YtpgkjnebklknjaaGreatDoor
namespace Go.Proofs.YtpgkjnebklknjaaGreatDoor
open Go.RowKit Go.Deep Go.Shelf Go.Sort Go.Maps
structure DQ (w0 X:World) (dk:Nat) (s:Dsk) (G:DGh) (v:Value):Prop where
 blk:X.heap[dk]? =some (.cells #[.pointer (some ⟨G.db,0,none⟩),.pointer (some ⟨G.bb,0,none⟩),v] 30 (0,0))
 base:DBase X s G.db G.bb G.g
 nd:dk≠G.db/\ ¬G.g.foot G.bb dk
 low: ∀k,G.foot dk k->w0.heap.size<=k
 be:Below w0.heap.size w0 X
 ev:ErrVar w0
 pt:PowTab w0
 nv:NumVars w0
section
variable {w0 X W Y:World} {dk:Nat} {s:Dsk} {G:DGh} {v:Value}
theorem DI.toQ (h:DI w0 X dk s G):DQ w0 X dk s G (.pointer (some ⟨G.gb,0,none⟩)):=⟨h.blk,h.base,h.nd,fun k hk=>h.low k (.inl hk),h.be,h.ev,h.pt,h.nv⟩
theorem DQ.flt (h:DQ w0 X dk s G v): ∀k,G.foot dk k->k<X.heap.size:=by
 obtain⟨D,left,log,ps,hb,_⟩:=h.base.bi
 rintro k (rfl|rfl|hk)
 · exact lt_of_block h.blk
 · exact hb.dk.lt
 · exact hb.p.at'.lt k hk
theorem DQ.evX (h:DQ w0 X dk s G v):ErrVar X:=h.ev.below h.be
theorem DQ.ptX (h:DQ w0 X dk s G v):PowTab X:=h.pt.below h.be
theorem DQ.nvX (h:DQ w0 X dk s G v):NumVars X:=h.nv.below h.be
theorem get_lt {X:World} {b:Nat} {o:Obj} (h:X.heap[b]? =some o):b<X.heap.size:=(Array.getElem?_eq_some_iff.1 h).1
theorem DQ.look (h:DQ w0 X dk s G v) {a:Nat} {t:Int} {L:List KeyP} {gb nb:Nat} {eo:Option Addr} (hb:Below X.heap.size X W) (hK:KeysIs s.hist a t L) (hkb: ∀k∈L,keyB k=true) (hl:L.length<=3600)
  (hG:GAt W gb nb eo (nodesV s.hist a t L) (edgesP L)) (hP:GP W gb (propsV s.hist a t L)) (hN:NewG X gb nb eo W):
  ∃pm,DI w0 (W.setCell ⟨dk,2,none⟩ (.pointer (some ⟨gb,0,none⟩))) dk { s with gh:=s.hist,ga:=a,gt:=t } ⟨G.db,G.bb,G.g,gb,nb,eo,pm⟩/\(∀k,DGh.gr ⟨G.db,G.bb,G.g,gb,nb,eo,pm⟩ k->X.heap.size<=k)/\Fr (· =dk) X (W.setCell ⟨dk,2,none⟩ (.pointer (some ⟨gb,0,none⟩))):=by
 obtain⟨v0,v1,pm,Dm,n,hblk,hown,hprp⟩:=hP.own
 have hpm1:=hN.p pm v0 v1 hblk
 have hpm2:pm<W.heap.size:=by obtain⟨es,ck,hh,_⟩:=hown;exact get_lt hh
 have hnb2:nb<W.heap.size:=by
  obtain⟨n',hn'⟩:=hG.nod
  obtain⟨D',⟨es,ck,hh,_⟩,_⟩:=hn'.own
  exact get_lt hh
 have hgb2:gb<W.heap.size:=lt_of_block hblk
 have hgr: ∀k,DGh.gr ⟨G.db,G.bb,G.g,gb,nb,eo,pm⟩ k->X.heap.size<=k/\k<W.heap.size:=by
  rintro k (rfl|rfl|e|rfl)
  · exact⟨hN.g,hgb2⟩
  · exact⟨hN.n,hnb2⟩
  · exact⟨hN.e k e,hN.l k e⟩
  · exact⟨hpm1,hpm2⟩
 obtain⟨Y,hY⟩: ∃Y,Y=W.setCell ⟨dk,2,none⟩ (.pointer (some ⟨gb,0,none⟩)):=⟨_,rfl⟩
 rw[<-hY]
 have hf:Fr (· =dk) W Y:=by rw[hY];exact Fr.setCell (F:=(· =dk)) (p:=⟨dk,2,none⟩) (Fr.refl _ _) (fun _=>rfl) _
 have hdl:=lt_of_block h.blk
 have hblkW:W.heap[dk]? =some (.cells #[.pointer (some ⟨G.db,0,none⟩),.pointer (some ⟨G.bb,0,none⟩),v] 30 (0,0)):=(hb.block dk hdl).trans h.blk
 have hblkY:Y.heap[dk]? =some (.cells #[.pointer (some ⟨G.db,0,none⟩),.pointer (some ⟨G.bb,0,none⟩),.pointer (some ⟨gb,0,none⟩)] 30 (0,0)):=by
  have:=block_set hblkW 2 (.pointer (some ⟨gb,0,none⟩))
  rw[hY]
  simpa using this
 have hfA:Fr (· =dk) X Y:=(Fr.new (F:=(· =dk)) hb).next hf (fun _ _ e=>e)
 have hL:keysF s.hist a t=L:=hK.is.symm
 have hgW:DGraph W { s with gh:=s.hist,ga:=a,gt:=t } ⟨G.db,G.bb,G.g,gb,nb,eo,pm⟩:=by
  refine⟨?_,?_,⟨v0,v1,hblk⟩,?_,?_,?_,fun k hk=>(hgr k hk).2⟩
  · show GAt W gb nb eo (nodesV s.hist a t (keysF s.hist a t)) (edgesP (keysF s.hist a t))
    rw[hL];exact hG
  · show GP W gb (propsV s.hist a t (keysF s.hist a t))
    rw[hL];exact hP
  · show KeysIs s.hist a t (keysF s.hist a t)
    rw[hL];exact hK
  · show ∀k∈keysF s.hist a t,keyB k=true
    rw[hL];exact hkb
  · show(keysF s.hist a t).length<=3600
    rw[hL];exact hl
 refine⟨pm,⟨hblkY,⟨(h.base.frame hfA (fun k hk e=>h.nd.2 (e▸hk)) (fun e=>h.nd.1 e.symm)).bi⟩,hgW.frame hf (fun k hk e=> ?_),h.nd,fun k hk e=> ?_,fun k hk=> ?_,h.be.trans (hfA.below (fun k _ e=>e▸h.low dk (.inl rfl)) h.be.size),h.ev,h.pt,h.nv⟩,fun k hk=>(hgr k hk).1,hfA⟩
 · have:=(hgr k hk).1
   omega
 · have h1:=(hgr k hk).1
   have h2:k<X.heap.size:=h.flt k e
   omega
 · rcases hk with hk|hk
   · exact h.low k hk
   · exact Nat.le_trans h.be.size (hgr k hk).1
structure AtPost (w0 X:World) (dk:Nat) (s:Dsk) (G:DGh) (r:Dsk×Ans) (e:Ending) (Y:World):Prop where
 out:DOut r.2 e
 ok:r.2.1=0-> ∃gb nb eo pm,DI w0 Y dk r.1 ⟨G.db,G.bb,G.g,gb,nb,eo,pm⟩/\(∀k,DGh.gr ⟨G.db,G.bb,G.g,gb,nb,eo,pm⟩ k->X.heap.size<=k)/\Fr (· =dk) X Y
 bad:r.2.1≠0->r.1=s/\Below X.heap.size X Y
theorem AtPost.no {n:Int} {t:List UInt8} {e:Ending} (ho:DOut (n,t) e) (hn:n≠0) (hb:Below X.heap.size X Y):AtPost w0 X dk s G (s,(n,t)) e Y:=⟨ho,fun h=>absurd h hn,fun _=>⟨rfl,hb⟩⟩
theorem dat_good (W:World) {db bb:Nat} {g:Gh} (h:DBase W s db bb g) (a t:Int) (he:keyRE s.hist s.known a t=0):
  Calls Tryz.prog 56 #[.pointer (some ⟨bb,1,none⟩),.int .i64 a,.int .i64 t] W fun e w' => ∃gb nb eo L,e= .returned (.tuple #[.pointer (some ⟨gb,0,none⟩),.nilIface])/\KeysIs s.hist a.toNat t L/\(∀k∈L,keyB k=true)/\L.length<=3600/\GAt w' gb nb eo (nodesV s.hist a.toNat t L) (edgesP L)/\GP w' gb (propsV s.hist a.toNat t L)/\Below W.heap.size W w' /\NewG W gb nb eo w' :=by
 obtain⟨n,ps,hp,hk,hok,hlen,_⟩:=h.past
 obtain⟨e1,e2⟩:=keyRE_0 he
 obtain⟨q1,q2,q3⟩:=askR_0 e1
 obtain⟨n,rfl⟩: ∃n:Nat,a=n:=⟨a.toNat,by omega⟩
 refine(at_full n t bb 1 _ s.hist ps g W hp (fun l hl=>(okL_iff.1 (hok l hl)).2) e2 (by rw[hk];omega) (by omega)).mono ?_
 rintro e w' ⟨gb,nb,eo,L,rfl,h1,h2,h3,h4,h5,h6⟩
 have:=keys_len hok hlen h1
 exact⟨gb,nb,eo,L,rfl,h1,h2,by omega,h3,h4,h5,h6⟩
theorem dat_not (W:World) {db bb:Nat} {g:Gh} (h:DBase W s db bb g) (a t:Int) (he:keyRE s.hist s.known a t≠0):
  Calls Tryz.prog 56 #[.pointer (some ⟨bb,1,none⟩),.int .i64 a,.int .i64 t] W fun e w' =>e= .returned (.tuple #[.pointer none,errN (keyRE s.hist s.known a t)])/\Below W.heap.size W w' :=by
 obtain⟨n,ps,hp,hk,hok,_⟩:=h.past
 rw[errN_of he]
 exact at_bad hp hok hk a t he
set_option maxRecDepth 100000 in
set_option maxHeartbeats 4000000 in
theorem dat_q (ao:Option Addr) (c:Nat) (l:List ByteArray) (h:DQ w0 X dk s G v) (hl:WordsOk X ao c l):
  Calls Tryz.prog 20 #[.pointer (some ⟨dk,0,none⟩),.slice ao l.length c] X (AtPost w0 X dk s G (doesD s .at l)):=by
 have HI:=Lib.hid h
 by_cases hn:l.length=2
 · have HK:Calls Tryz.prog 55 #[.slice ao 2 c] X (NumsOut (numsL l) X):=by
    rw[<-hn]
    exact dnumbers_any ao c l X hl.tx hl.small hl.len h.ptX h.nvX h.evX
   have HWO:=Lib.hid (dwords_ok ao c l.length 2 X (by rw[hn];rfl))
   rw[hn] at HWO ⊢
   cases hk:numsL l with
   | none=>
     rw[hk] at HK
     have HD:=Lib.hid (does_nums_none (s:=s) (c:= .at) rfl hn hk)
     have HK:=Lib.hid HK
     clear h hl hk hn
     rw[HD.out]
     go_enter Tryz.func20,Tryz.ntmps20
     go_wp2_with (first
      | (go_at_call 17;(with_reducible refine HWO.out.mono ?_);rintro e w1 ⟨rfl,rfl⟩)
      | (go_at_call 55;(with_reducible refine HK.out.mono ?_);rintro e w1 ⟨rfl,b1⟩))
     exact⟨rfl,AtPost.no (dout_bad (by decide)) (by decide) b1⟩
   | some q=>
     rw[hk] at HK
     obtain⟨a,t,rfl⟩:=two_of (show q.length=2 by rw[numsL_len hk,hn])
     have hD:=does_at (s:=s) hn hk
     have HP:=Lib.hid fun(W:World) (hW:Below X.heap.size X W)=>dpast_any W (h.base.below hW)
     have HK:=Lib.hid HK
     have q1:X.cell? ⟨dk,1,none⟩=some (.pointer (some ⟨G.bb,0,none⟩)):=block_cell h.blk 1
     have hdl:dk<X.heap.size:=lt_of_block h.blk
     by_cases he:keyRE s.hist s.known a t=0
     · rw [if_pos he] at hD
       have HD:=Lib.hid hD
       have HV:=Lib.hid fun(W:World) (hW:Below X.heap.size X W)=>dat_good W (h.base.below hW) a t he
       rw[HD.out]
       clear h hl hk hn hD HD he
       go_enter Tryz.func20,Tryz.ntmps20
       go_wp2_with (first
        | (go_at_call 17;(with_reducible refine HWO.out.mono ?_);rintro e w1 ⟨rfl,rfl⟩)
        | (go_at_call 55;(with_reducible refine HK.out.mono ?_);rintro e w1 ⟨⟨vv,rfl,hown⟩,b1⟩))
       obtain⟨ao2,cap2,rfl,hin⟩:=ownsRow_intsIn hown
       obtain⟨ib,rfl,i0,i1⟩:=intsIn_two hin
       have hib:=World.block_lt_of_cell? w1 _ i0
       replace q1:=below_cell b1 hdl q1
       have hdl1:=Nat.lt_of_lt_of_le hdl b1.size
       have hs1:=b1.size
       have HB:=Lib.hid b1
       clear hown hin b1
       go_region_held3 (fun Z=>Z.cell? ⟨dk,1,none⟩=some (.pointer (some ⟨G.bb,0,none⟩))/\Z.cell? ⟨ib,0,none⟩=some (.int .i64 a)/\Z.cell? ⟨ib,1,none⟩=some (.int .i64 t))
        (first|exact⟨q1,i0,i1⟩|exact hS1|exact hS2)
        (first
         | (go_at_call 57;(with_reducible refine(HP.out _ HB.out.drew).mono ?_);rintro e x1 ⟨rfl,rfl⟩)
         | (go_at_call 56;(with_reducible refine(HV.out _ HB.out.drew).mono ?_);rintro e x1 ⟨gb,nb,eo,L,rfl,hKI,hKB,hKL,hGA,hGP,b2,hNG⟩;have hS2:=And.intro (below_cell b2 hdl1 q1) (And.intro (below_cell b2 hib i0) (below_cell b2 hib i1))))
       have hx:Below X.heap.size X x1:=HB.out.drew.trans (b2.mono hs1)
       have hN' :NewG X gb nb eo x1:=⟨Nat.le_trans hs1 hNG.g,Nat.le_trans hs1 hNG.n,fun b e=>Nat.le_trans hs1 (hNG.e b e),fun b v0 v1 e=>Nat.le_trans hs1 (hNG.p b v0 v1 e),hNG.l⟩
       have HL:=Lib.hid (HI.out.look hx hKI hKB hKL hGA hGP hN')
       have hblk:x1.heap[dk]? =some (.cells #[.pointer (some ⟨G.db,0,none⟩),.pointer (some ⟨G.bb,0,none⟩),v] 30 (0,0)):=(hx.block dk hdl).trans HI.out.blk
       have y2:=block_cell hblk 2
       have f2:=block_free hblk 2
       have hdlx:=lt_of_block hblk
       clear hx hKI hKB hKL hGA hGP hN' hNG b2 hS2 hblk
       go_wp2_with (go_at_call 19;(with_reducible refine(must_nil _).mono ?_);rintro e x3 ⟨rfl,rfl⟩)
       go_ret
       obtain⟨pm,d1,d2,d3⟩:=HL.out
       exact⟨dout_ok rfl,fun _=>⟨gb,nb,eo,pm,d1,d2,d3⟩,fun h=>absurd rfl h⟩
     · rw [if_neg he] at hD
       have HD:=Lib.hid hD
       have HE:=Lib.hid he
       have HV:=Lib.hid fun(W:World) (hW:Below X.heap.size X W)=>dat_not W (h.base.below hW) a t he
       rw[HD.out]
       generalize keyRE s.hist s.known a t=n at*
       clear h hl hk hn hD HD he
       go_enter Tryz.func20,Tryz.ntmps20
       go_wp2_with (first
        | (go_at_call 17;(with_reducible refine HWO.out.mono ?_);rintro e w1 ⟨rfl,rfl⟩)
        | (go_at_call 55;(with_reducible refine HK.out.mono ?_);rintro e w1 ⟨⟨vv,rfl,hown⟩,b1⟩))
       obtain⟨ao2,cap2,rfl,hin⟩:=ownsRow_intsIn hown
       obtain⟨ib,rfl,i0,i1⟩:=intsIn_two hin
       have hib:=World.block_lt_of_cell? w1 _ i0
       replace q1:=below_cell b1 hdl q1
       have hdl1:=Nat.lt_of_lt_of_le hdl b1.size
       have hs1:=b1.size
       have HB:=Lib.hid b1
       clear hown hin b1
       go_region_held3 (fun Z=>Z.cell? ⟨dk,1,none⟩=some (.pointer (some ⟨G.bb,0,none⟩))/\Z.cell? ⟨ib,0,none⟩=some (.int .i64 a)/\Z.cell? ⟨ib,1,none⟩=some (.int .i64 t))
        (first|exact⟨q1,i0,i1⟩|exact hS1|exact hS2)
        (first
         | (go_at_call 57;(with_reducible refine(HP.out _ HB.out.drew).mono ?_);rintro e x1 ⟨rfl,rfl⟩)
         | (go_at_call 56;(with_reducible refine(HV.out _ HB.out.drew).mono ?_);rintro e x1 ⟨rfl,b2⟩;have hS2:=And.intro (below_cell b2 hdl1 q1) (And.intro (below_cell b2 hib i0) (below_cell b2 hib i1))))
       have hx:Below X.heap.size X x1:=HB.out.drew.trans (b2.mono hs1)
       have HM:=Lib.hid (must_no HE.out x1 (HI.out.evX.below hx))
       go_wp2_with (go_at_call 19;(with_reducible refine HM.out.mono ?_);rintro e w2 ⟨rfl,b5⟩)
       exact⟨rfl,AtPost.no (dout_bad HE.out) HE.out (hx.trans (b5.mono hx.size))⟩
 · have HD:=Lib.hid (does_len (s:=s) (c:= .at) (l:=l) (fun e=>hn e.symm))
   have HWO:=Lib.hid (dwords_bad ao c l.length 2 X (by omega) h.evX)
   clear h hl hn
   rw[HD.out]
   go_enter Tryz.func20,Tryz.ntmps20
   go_wp2_with (go_at_call 17;(with_reducible refine HWO.out.mono ?_);rintro e w1 ⟨rfl,b1⟩)
   exact⟨rfl,AtPost.no (dout_bad (by decide)) (by decide) b1⟩
theorem dat_any (ao:Option Addr) (c:Nat) (l:List ByteArray) (h:DI w0 X dk s G) (hl:WordsOk X ao c l):
  Calls Tryz.prog 20 #[.pointer (some ⟨dk,0,none⟩),.slice ao l.length c] X (DPost w0 X dk G (doesD s .at l)):=by
 refine(dat_q ao c l h.toQ hl).mono ?_
 intro e Y hA
 by_cases h0:(doesD s .at l).2.1=0
 · obtain⟨gb,nb,eo,pm,d1,d2,d3⟩:=hA.ok h0
   exact⟨hA.out,_,d1,d3.mono (fun k _ e=> .inl e),fun k hk=>hk.elim (fun e=> .inl (.inl e)) (fun e=> .inr (d2 k e))⟩
 · obtain⟨d1,d2⟩:=hA.bad h0
   have ho:=hA.out
   have e2:doesD s .at l=(s,(doesD s .at l).2):=Prod.ext d1 rfl
   rw[e2]
   exact DPost.same h ho d2
end
end Go.Proofs.YtpgkjnebklknjaaGreatDoor
namespace Go.Proofs.YtpgkjnebklknjaaGreatDoor
open Go.RowKit Go.Deep Go.Shelf Go.Sort Go.Maps
theorem disk_zeroD:Tryz.zeroCells63=(dcells (List.replicate 150 ⟨#[]⟩) false 0).toArray:=by kernel_rfl
theorem numsL_00:numsL [⟨#[48]⟩,⟨#[48]⟩]=some [0,0]:=by
 have h:numB ⟨#[48]⟩=some 0:=by decide+kernel
 show((numB ⟨#[48]⟩).bind fun n=>(numsL [⟨#[48]⟩]).map fun q=>n::q)=_
 rw[h]
 show((some 0:Option Int).bind fun n=>(((numB ⟨#[48]⟩).bind fun n=>(numsL []).map fun q=>n::q)).map fun q=>n::q)=_
 rw[h]
 rfl
theorem does_at00 {s:Dsk} (hh:s.hist= []) (hk:s.known=0):doesD s .at [⟨#[48]⟩,⟨#[48]⟩]=({ s with gh:=s.hist,ga:=0,gt:=0 },(0,[97,116])):=by
 rw[does_at (s:=s) rfl numsL_00,hh,hk]
 rw[if_pos (by decide)]
 rfl
section
variable {w0 X W Y:World} {dk:Nat} {s:Dsk} {G:DGh} {v:Value}
structure DZ (w0 X:World) (dk:Nat):Prop where
 blk: ∃u0 u1 u2,X.heap[dk]? =some (.cells #[u0,u1,u2] 30 (0,0))
 low:w0.heap.size<=dk
 be:Below w0.heap.size w0 X
 ev:ErrVar w0
 pt:PowTab w0
 nv:NumVars w0
theorem DI.toZ (h:DI w0 X dk s G):DZ w0 X dk:=⟨⟨_,_,_,h.blk⟩,h.low dk (.inl (.inl rfl)),h.be,h.ev,h.pt,h.nv⟩
theorem DZ.toQ (h:DZ w0 X dk) {Z x1 Y:World} {db bb:Nat} {ps:Pst} {g:Gh} (hZ:Z=X.alloc (.cells Tryz.zeroCells63 63)) (hdb:db=X.heap.size) (hD:BD Z db (List.replicate 150 ⟨#[]⟩) false 0)
  (hp:PastIs x1 bb 1 (BR db ([]:List Ent).length false) [] ps g) (hk:ps.gone=0) (hft: ∀k,g.foot bb k->Z.heap.size<=k) (hb1:Below Z.heap.size Z x1) {u0 u1 u2:Value} (hblk:x1.heap[dk]? =some (.cells #[u0,u1,u2] 30 (0,0)))
  (hY:Y=((x1.setCell ⟨dk,0,none⟩ (.pointer (some ⟨db,0,none⟩))).setCell ⟨dk,1,none⟩ (.pointer (some ⟨bb,0,none⟩))).setCell ⟨dk,2,none⟩ (.pointer none)):
  DQ w0 Y dk dsk0 ⟨db,bb,g,0,0,none,0⟩ (.pointer none)/\Fr (· =dk) X Y/\ ∀k,DGh.foot ⟨db,bb,g,0,0,none,0⟩ dk k->k=dk\/X.heap.size<=k:=by
 have hdl:dk<X.heap.size:=by obtain⟨_,_,_,e⟩:=h.blk;exact lt_of_block e
 have hBZ:Below X.heap.size X Z:=by rw[hZ];exact(Below.refl _ _).alloc (Nat.le_refl _) _
 have hzs:X.heap.size<Z.heap.size:=by rw[hZ];simp
 have hf3:Fr (· =dk) x1 Y:=by
  rw[hY]
  exact Fr.setCell (F:=(· =dk)) (p:=⟨dk,2,none⟩) (Fr.setCell (F:=(· =dk)) (p:=⟨dk,1,none⟩) (Fr.setCell (F:=(· =dk)) (p:=⟨dk,0,none⟩) (Fr.refl _ _) (fun _=>rfl) _) (fun _=>rfl) _) (fun _=>rfl) _
 have hblkY:Y.heap[dk]? =some (.cells #[.pointer (some ⟨db,0,none⟩),.pointer (some ⟨bb,0,none⟩),.pointer none] 30 (0,0)):=by
  have:=block_set (block_set (block_set hblk 0 (.pointer (some ⟨db,0,none⟩))) 1 (.pointer (some ⟨bb,0,none⟩))) 2 (.pointer none)
  rw[hY]
  simpa using this
 have hb:Below X.heap.size X x1:=hBZ.trans (hb1.mono hBZ.size)
 have hfA:Fr (· =dk) X Y:=(Fr.new (F:=(· =dk)) hb).next hf3 (fun _ _ e=>e)
 have hnd:dk≠db/\ ¬g.foot bb dk:=⟨by omega,fun e=>by have:=hft dk e;omega⟩
 have hndb: ¬g.foot bb db:=fun e=>by have:=hft db e;omega
 have hbi:BI x1 bb db (List.replicate 150 ⟨#[]⟩) false 0 [] false [] 0 ps g:=⟨rfl,Says.empty,hD.below hb1,hp,hk,hndb,fun e=>by cases e⟩
 have hbase:DBase x1 dsk0 db bb g:=⟨⟨_,0,[],ps,hbi,rfl,fun e=>by cases e⟩⟩
 refine⟨⟨hblkY,hbase.frame hf3 (fun k hk e=>hnd.2 (e▸hk)) (fun e=>hnd.1 e.symm),hnd,fun k hk=> ?_,h.be.trans (hfA.below (fun k _ e=>e▸h.low) h.be.size),h.ev,h.pt,h.nv⟩,hfA,fun k hk=> ?_⟩
 · rcases hk with e|e|hk
   · rw[e];exact h.low
   · have h1:k=db:=e
     have:=h.be.size
     omega
   · have h1:=hft k hk
     have h2:=h.be.size
     omega
 · rcases hk with e|e|hk
   · exact .inl e
   · have h1:k=db:=e
     exact .inr (by omega)
   · have h1:=hft k hk
     exact .inr (by omega)
structure NewPost (w0 X:World) (dk:Nat) (l:List ByteArray) (e:Ending) (Y:World):Prop where
 ok:l.length=0->e= .returned (.string ⟨#[110,101,119]⟩)/\ ∃G',DI w0 Y dk dsk0 G' /\Fr (· =dk) X Y/\ ∀k,G'.all dk k->k=dk\/X.heap.size<=k
 bad:l.length≠0->e= .panicked (wrongP 3)/\Below X.heap.size X Y
set_option maxRecDepth 100000 in
set_option maxHeartbeats 4000000 in
theorem dfresh_z (ao:Option Addr) (c:Nat) (l:List ByteArray) (h:DZ w0 X dk):
  Calls Tryz.prog 7 #[.pointer (some ⟨dk,0,none⟩),.slice ao l.length c] X (NewPost w0 X dk l):=by
 have HI:=Lib.hid h
 by_cases hn:l.length=0
 · have HWO:=Lib.hid (dwords_ok ao c l.length 0 X (by rw[hn];rfl))
   have HN:=Lib.hid hn
   rw[hn] at HWO ⊢
   obtain⟨u0,u1,u2,hblk⟩:=h.blk
   have hdl:=lt_of_block hblk
   obtain⟨Z,hZ⟩: ∃Z,Z=X.alloc (.cells Tryz.zeroCells63 63):=⟨_,rfl⟩
   obtain⟨db,hdb⟩: ∃db,db=X.heap.size:=⟨_,rfl⟩
   have hBZ:Below X.heap.size X Z:=by rw[hZ];exact(Below.refl _ _).alloc (Nat.le_refl _) _
   have hD:BD Z db (List.replicate 150 ⟨#[]⟩) false 0:=⟨by rw[hZ,hdb, <-disk_zeroD];exact block_alloc_new _ _,by simp⟩
   have hX:=h.be
   have HO:=Lib.hid (bopen_any Z hD Says.empty (log:= []) (hist:= []) (known:=0) rfl (h.pt.below (hX.trans (hBZ.mono hX.size))) (h.nv.below (hX.trans (hBZ.mono hX.size))))
   have HZ:=Lib.hid hZ
   have HDB:=Lib.hid hdb
   have HD:=Lib.hid hD
   have HBL:Hid (Z.heap[dk]? =some (.cells #[u0,u1,u2] 30 (0,0))):=Lib.hid ((hBZ.block dk hdl).trans hblk)
   have HAT:Hid (∀(V:World) (s:Dsk) (G:DGh) (v:Value) (z:Nat),z=V.heap.size->DQ w0 V dk s G v->s.hist= []->s.known=0->Calls Tryz.prog 20 #[.pointer (some ⟨dk,0,none⟩),.slice (some ⟨z,0,none⟩) 2 2] (V.alloc (.cells #[.string ⟨#[48]⟩,.string ⟨#[48]⟩] 9)) fun e Y=>e= .returned (.string ⟨#[97,116]⟩)/\ ∃gb nb eo pm,DI w0 Y dk { s with gh:=s.hist,ga:=0,gt:=0 } ⟨G.db,G.bb,G.g,gb,nb,eo,pm⟩/\(∀k,DGh.gr ⟨G.db,G.bb,G.g,gb,nb,eo,pm⟩ k->V.heap.size<=k)/\Fr (· =dk) V Y):=Lib.hid (fun V s G v z hz hq hh hk=>by
    subst hz
    have hbA:Below V.heap.size V (V.alloc (.cells #[.string ⟨#[48]⟩,.string ⟨#[48]⟩] 9)):=(Below.refl _ _).alloc (Nat.le_refl _) _
    have hqA:DQ w0 (V.alloc (.cells #[.string ⟨#[48]⟩,.string ⟨#[48]⟩] 9)) dk s G v:=⟨(hbA.block dk (lt_of_block hq.blk)).trans hq.blk,hq.base.below hbA,hq.nd,hq.low,hq.be.trans (hbA.mono hq.be.size),hq.ev,hq.pt,hq.nv⟩
    have hA:=dat_q (some ⟨V.heap.size,0,none⟩) 2 [⟨#[48]⟩,⟨#[48]⟩] hqA ⟨textsAt_two V _ _ _,by simp,by simp,fun x hx=>by
     simp only[List.mem_cons,List.not_mem_nil,or_false,or_self] at hx
     subst hx;decide⟩
    rw[does_at00 hh hk] at hA
    refine hA.mono ?_
    intro e Y hp
    obtain⟨gb,nb,eo,pm,d1,d2,d3⟩:=hp.ok rfl
    have ho:=hp.out
    rcases ho with ⟨_,rfl⟩|⟨hno,_⟩
    · exact⟨rfl,gb,nb,eo,pm,d1,fun k hk=>Nat.le_trans hbA.size (d2 k hk),(Fr.new (F:=(· =dk)) hbA).next d3 (fun _ _ e=>e)⟩
    · exact absurd rfl hno)
   clear h hn hZ hdb hD hBZ hX hblk
   go_enter Tryz.func7,Tryz.ntmps7
   go_wp2_with (first
    | (rw[<-HZ.out, <-HDB.out])
    | (go_at_call 17;(with_reducible refine HWO.out.mono ?_);rintro e w1 ⟨rfl,rfl⟩)
    | (go_at_call 18;(with_reducible refine HO.out.mono ?_);rintro e x1 ⟨bb,ps,g,rfl,hp,hk,hft,b1⟩;have HP:=Lib.hid hp;have HK:=Lib.hid hk;have HFT:=Lib.hid hft;have HB1:=Lib.hid b1;have hbl1:=(b1.block dk (lt_of_block HBL.out)).trans HBL.out;have f0:=block_free hbl1 0;have f1:=block_free hbl1 1;have f2:=block_free hbl1 2;have y0:=block_cell hbl1 0;have y1:=block_cell hbl1 1;have y2:=block_cell hbl1 2;have hdl1:=lt_of_block hbl1;have HBL1:=Lib.hid hbl1;clear hp hk hft b1 hbl1)
    | (go_at_call 19;(with_reducible refine(must_nil _).mono ?_);rintro e x3 ⟨rfl,rfl⟩))
   obtain⟨Y0,hY0⟩: ∃Y0,Y0=((x1.setCell ⟨dk,0,none⟩ (.pointer (some ⟨db,0,none⟩))).setCell ⟨dk,1,none⟩ (.pointer (some ⟨bb,0,none⟩))).setCell ⟨dk,2,none⟩ (.pointer none):=⟨_,rfl⟩
   have hz:x1.heap.size=Y0.heap.size:=by rw[hY0];simp
   have hq:=HI.out.toQ HZ.out HDB.out HD.out HP.out HK.out HFT.out HB1.out HBL1.out hY0
   rw[<-hY0]
   have HQ:=Lib.hid hq
   clear hY0 hq
   (with_reducible refine(HAT.out Y0 dsk0 _ _ _ hz HQ.out.1 rfl rfl).mono ?_)
   rintro e Y2 ⟨rfl,gb,nb,eo,pm,d1,d2,d3⟩
   have HF:Hid (NewPost w0 X dk l (.returned (.string ⟨#[110,101,119]⟩)) Y2):=Lib.hid ⟨fun _=>⟨rfl,⟨db,bb,g,gb,nb,eo,pm⟩,d1,HQ.out.2.1.next d3 (fun _ _ e=>e),fun k hk=>hk.elim (fun e=>HQ.out.2.2 k e) (fun e=> .inr (Nat.le_trans HQ.out.2.1.size (d2 k e)))⟩,fun h=>absurd HN.out h⟩
   clear d1 d2 d3
   go_wp2_with fail
   go_ret
   exact HF.out
 · have HWO:=Lib.hid (dwords_bad ao c l.length 0 X (by omega) (h.ev.below h.be))
   have HN:=Lib.hid hn
   clear h hn
   go_enter Tryz.func7,Tryz.ntmps7
   go_wp2_with (go_at_call 17;(with_reducible refine HWO.out.mono ?_);rintro e w1 ⟨rfl,b1⟩)
   exact⟨rfl,fun h=>absurd h HN.out,fun _=>⟨rfl,b1⟩⟩
end
end Go.Proofs.YtpgkjnebklknjaaGreatDoor
namespace Go.Proofs.YtpgkjnebklknjaaGreatDoor
open Go.RowKit Go.Deep Go.Shelf Go.Sort Go.Maps
theorem join_cons_le (x:List UInt8) (r:List (List UInt8)):(Lib.join (x::r) [32]).length<=x.length+1+(Lib.join r [32]).length/\(Lib.join r [32]).length<=(Lib.join (x::r) [32]).length:=by
 cases r with
 | nil =>
   simp[Lib.join,List.intercalate,List.intersperse]
 | cons y r=>
   have e:Lib.join (x::y::r) [32]=x++([32]++Lib.join (y::r) [32]):=by simp[Lib.join,List.intercalate,List.intersperse]
   rw[e]
   simp only[List.length_append,List.length_cons,List.length_nil]
   omega
theorem fgo_join: ∀(l cur:List UInt8),(Lib.join (fgo cur l) [32]).length<=cur.length+l.length
 | [], cur=>by
   unfold fgo
   split
   · simp[Lib.join,List.intercalate,List.intersperse]
   · simp[Lib.join,List.intercalate,List.intersperse]
 | b ::t,cur=>by
   unfold fgo
   split
   · split
     · have:=fgo_join t []
       simp only[List.length_nil,List.length_cons] at this ⊢
       omega
     · have h1:=fgo_join t []
       have h2:=(join_cons_le cur (fgo [] t)).1
       simp only[List.length_nil,List.length_cons] at h1 ⊢
       omega
   · have:=fgo_join t (cur++ [b])
     simp only[List.length_append,List.length_cons,List.length_nil] at this ⊢
     omega
theorem fields_data (t:List UInt8):(fieldsL t).map (·.data.toList)=fgo [] t:=by
 rw[fgo_fields]
 unfold fieldsL
 rw[List.map_map]
 exact List.map_id'' (fun _=>rfl) _
theorem fields_join (t:List UInt8):(Lib.join ((fieldsL t).map (·.data.toList)) [32]).length<=t.length:=by
 rw[fields_data]
 have:=fgo_join t []
 simpa using this
theorem cutC_cnt (c:UInt8): ∀s:List UInt8,(cutC c s).length<=s.length+1
 | []=>by simp[cutC]
 | b ::s=>by
   have ih:=cutC_cnt c s
   unfold cutC
   split
   · simp;omega
   · split
     · simp
     · rename_i p r he
       rw[he] at ih
       simp at ih ⊢;omega
theorem fields_len (t:List UInt8):(fieldsL t).length<=t.length+1:=by
 unfold fieldsL
 rw[List.length_map]
 exact Nat.le_trans (List.length_filter_le _ _) (cutC_cnt 32 t)
theorem fields_small (t:List UInt8): ∀x∈fieldsL t,x.size<=t.length:=fun x hx=>by
 unfold fieldsL at hx
 obtain⟨p,hp,rfl⟩:=List.mem_map.1 hx
 have:=cutC_len 32 t p (List.mem_filter.1 hp).1
 simpa [ByteArray.size] using this
section
variable {w0 X W Y:World} {dk:Nat} {s:Dsk} {G:DGh}
theorem name_of {name:ByteArray} {n:Nat} (h:fnOf name=some n):(name,n)∈fnTab:=by
 unfold fnOf at h
 cases hf:fnTab.find? (fun p=>decide (p.1=name)) with
 | none=>rw[hf] at h;cases h
 | some p=>
   rw[hf] at h
   have h1:=List.mem_of_find?_eq_some hf
   have h2:p.1=name:=by simpa using List.find?_some hf
   have h3:p.2=n:=by simpa using h
   rw[<-h2, <-h3]
   exact h1
theorem byte_eq {name:ByteArray} {l:List UInt8} (h:name.data.toList=l):name=⟨l.toArray⟩:=bytes_ext (by rw[h])
theorem name_none {name:ByteArray} (h:fnOf name=none) (w:List ByteArray):nameD s name w=(s,(3,[])):=by
 have hno: ∀l:List UInt8,(fnOf ⟨l.toArray⟩).isSome=true->name.data.toList≠l:=fun l hl e=>by
  rw[<-byte_eq e,h] at hl
  cases hl
 unfold nameD
 rw[if_neg (hno commitW (by decide+kernel))]
 have :cmOf name=none:=by
  unfold cmOf
  rw[if_neg (hno _ (by decide+kernel)),if_neg (hno _ (by decide+kernel)),if_neg (hno _ (by decide+kernel)),if_neg (hno _ (by decide+kernel)),if_neg (hno _ (by decide+kernel)),if_neg (hno _ (by decide+kernel)),if_neg (hno _ (by decide+kernel)),if_neg (hno _ (by decide+kernel)),if_neg (hno _ (by decide+kernel)),if_neg (hno _ (by decide+kernel)),if_neg (hno _ (by decide+kernel)),if_neg (hno _ (by decide+kernel)),if_neg (hno _ (by decide+kernel)),if_neg (hno _ (by decide+kernel)),if_neg (hno _ (by decide+kernel)),if_neg (hno _ (by decide+kernel))]
 rw[this]
theorem dfresh_any (ao:Option Addr) (c:Nat) (l:List ByteArray) (h:DI w0 X dk s G) (_hl:WordsOk X ao c l):
  Calls Tryz.prog 7 #[.pointer (some ⟨dk,0,none⟩),.slice ao l.length c] X (DPost w0 X dk G (doesD s .new l)):=by
 refine(dfresh_z ao c l h.toZ).mono ?_
 intro e Y hN
 by_cases hn:l.length=0
 · obtain⟨rfl,G',d1,d2,d3⟩:=hN.ok hn
   obtain rfl:=nil_of_len hn
   exact⟨dout_ok rfl,G',d1,d2.mono (fun k _ e=> .inl e),fun k hk=>(d3 k hk).imp (fun e=> .inl (.inl e)) id⟩
 · obtain⟨rfl,d2⟩:=hN.bad hn
   rw[does_len (s:=s) (c:= .new) (l:=l) (fun e=>hn e.symm)]
   exact DPost.same h (dout_bad (by decide)) d2
theorem dname_any (ao:Option Addr) (c:Nat) (l:List ByteArray) (h:DI w0 X dk s G) (hl:WordsOk X ao c l) (hj:(Lib.join (l.map (·.data.toList)) [32]).length<=100000) {name:ByteArray} {n:Nat} (hn:fnOf name=some n):
  Calls Tryz.prog n #[.pointer (some ⟨dk,0,none⟩),.slice ao l.length c] X (DPost w0 X dk G (nameD s name l)):=by
 have hm:=name_of hn
 clear hn
 unfold fnTab at hm
 simp only[List.mem_cons,List.not_mem_nil,or_false,Prod.mk.injEq] at hm
 rcases hm with ⟨rfl,rfl⟩|⟨rfl,rfl⟩|⟨rfl,rfl⟩|⟨rfl,rfl⟩|⟨rfl,rfl⟩|⟨rfl,rfl⟩|⟨rfl,rfl⟩|⟨rfl,rfl⟩|⟨rfl,rfl⟩|⟨rfl,rfl⟩|⟨rfl,rfl⟩|⟨rfl,rfl⟩|⟨rfl,rfl⟩|⟨rfl,rfl⟩|⟨rfl,rfl⟩|⟨rfl,rfl⟩|⟨rfl,rfl⟩
 · exact dat_any ao c l h hl
 · exact dcommit_any ao c l h hl hj
 · exact dcut_any ao c l h hl
 · exact dedges_any ao c l h hl
 · exact dever_any ao c l h hl
 · exact dforget_any ao c l h hl
 · exact dhelp_any ao c l h hl
 · exact dhops_any ao c l h hl
 · exact dkeys_any ao c l h hl
 · exact dfresh_any ao c l h hl
 · exact dnodes_any ao c l h hl
 · exact dnow_any ao c l h hl
 · exact dopen_any ao c l h hl
 · exact dpieces_any ao c l h hl
 · exact dprop_any ao c l h hl
 · exact dvalue_any ao c l h hl
 · exact dway_any ao c l h hl
end
end Go.Proofs.YtpgkjnebklknjaaGreatDoor
namespace Go.Proofs.YtpgkjnebklknjaaGreatDoor
open Go.RowKit Go.Deep Go.Shelf Go.Sort Go.Maps
section
variable {w0 X W Y:World} {dk:Nat} {s:Dsk} {G:DGh}
set_option maxRecDepth 100000 in
theorem line2_any (r:Nat) (w:World):FnGives Tryz.prog 27 #[] #[encR r] (.bool (isBl r)) w:=by
 have he:((r:Int)==32)=isBl r:=by
  unfold isBl
  rw[Bool.eq_iff_iff,beq_iff_eq,decide_eq_true_eq]
  omega
 show Calls Tryz.prog 27 #[.int .i32 r] w fun e w' =>e= .returned (.bool (isBl r))/\ ∃q,w' =w.drewN q
 rw[<-he]
 clear he
 go_enter Tryz.func27,Tryz.ntmps27
 go_wp2
 go_ret
 exact⟨rfl,0,rfl⟩
theorem own_texts {w:World} {base n A c:Nat} {l:List ByteArray} {e:TypeId} (h:w.ownsRow base e 1 (.slice (some ⟨A,0,none⟩) n c) n (l.map Value.string)):textsAt w (some ⟨A,0,none⟩) l:=by
 obtain⟨ao,cap,e1,h2,_⟩:=ownsRow_texts h
 injection e1 with e1 e2 e3
 rw[e1]
 exact h2
structure CmdPost (w0 X:World) (dk:Nat) (s' :Dsk) (G:DGh) (Y:World):Prop where
 di: ∃G',DI w0 Y dk s' G' /\Fr (G.foot dk) X Y/\ ∀k,G'.all dk k->G.all dk k\/X.heap.size<=k
def rngE (n:Int):Prop:=0<=n/\n<=20
instance (n:Int):Decidable (rngE n):=inferInstanceAs (Decidable (_/\_))
theorem rng0:rngE 0:=by decide
theorem rng1:rngE 1:=by decide
theorem rng3:rngE 3:=by decide
theorem rng4:rngE 4:=by decide
theorem rng7:rngE 7:=by decide
theorem rng8:rngE 8:=by decide
theorem rng14:rngE 14:=by decide
theorem rng_if {c:Prop} [Decidable c] {a b:Int} (ha:rngE a) (hb:rngE b):rngE (if c then a else b):=by split<;>assumption
theorem askR_rng (N:Nat) (k a:Int):rngE (askR N k a):=rng_if (by decide) (rng_if (by decide) (by decide))
theorem keyRE_rng (h:List (List OpP)) (k a t:Int):rngE (keyRE h k a t):=rng_if (askR_rng _ _ _) (rng_if (by decide) (by decide))
theorem pieRE_rng (h:List (List OpP)) (k:Int) (q:KeyP) (a:Int):rngE (pieRE h k q a):=rng_if (askR_rng _ _ _) (rng_if (by decide) (by decide))
theorem everRE_rng (h:List (List OpP)) (k:Int) (q:KeyP) (a b f t:Int):rngE (everRE h k q a b f t):=rng_if (askR_rng _ _ _) (rng_if (askR_rng _ _ _) (rng_if (by decide) (rng_if (by decide) (by decide))))
theorem lit_rng {n:Int} (h:0<=n/\n<=20):rngE n:=h
theorem valR_rng (h:List (List OpP)) (k:Int) (q:KeyP) (a t:Int):rngE (valR h k q a t).2:=by
 unfold valR
 split
 · exact askR_rng _ _ _
 · split<;>first|exact rng0|exact rng1|exact rng3|exact rng4|exact rng7|exact rng8|exact rng14
theorem hopE_rng (G:List (KeyP×ByteArray)) (x h:Int):rngE (hopE G x h):=rng_if (rng_if (by decide) (by decide)) (by decide)
theorem propP_rng (G:List (KeyP×ByteArray)) (n:Int) (w:ByteArray):rngE (propP G n w).2:=by
 unfold propP
 split
 · split<;>first|exact rng0|exact rng1|exact rng3|exact rng4|exact rng7|exact rng8|exact rng14
 · first|exact rng0|exact rng1|exact rng3|exact rng4|exact rng7|exact rng8|exact rng14
theorem roomE_rng (d:Bool) (u:Nat):rngE (roomE d u):=rng_if (by decide) (rng_if (by decide) (by decide))
theorem forBE_rng (d:Bool) (u:Nat) (c:Bool) (l:Int) (N:Nat) (k a:Int):rngE (forBE d u c l N k a):=rng_if (roomE_rng _ _) (rng_if (rng_if (by decide) (rng_if (by decide) (by decide))) (rng_if (by decide) (by decide)))
theorem comBE_rng (d:Bool) (u:Nat) (c:Bool) (l:Int) (q:List OpP):rngE (comBE d u c l q).1:=by
 unfold comBE
 split
 · exact roomE_rng _ _
 · split
   · split<;>first|exact rng0|exact rng1|exact rng3|exact rng4|exact rng7|exact rng8|exact rng14
   · unfold writeR
     split
     · split<;>first|exact rng0|exact rng1|exact rng3|exact rng4|exact rng7|exact rng8|exact rng14
     · first|exact rng0|exact rng1|exact rng3|exact rng4|exact rng7|exact rng8|exact rng14
theorem actD_rng (s:Dsk) (c:Cm) (q:List Int) (m:List ByteArray):rngE (actD s c q m).2.1:=by
 unfold actD
 split
 case _=>
  split
  · first|exact rng0|exact rng1|exact rng3|exact rng4|exact rng7|exact rng8|exact rng14
  · exact keyRE_rng _ _ _ _
 all_goals first
  | exact rng0
  | exact rng1
  | exact rng3
  | exact rng4
  | exact rng8
  | exact rng14
  | exact everRE_rng _ _ _ _ _ _ _
  | exact forBE_rng _ _ _ _ _ _ _
  | exact hopE_rng _ _ _
  | exact keyRE_rng _ _ _ _
  | exact pieRE_rng _ _ _ _
  | exact propP_rng _ _ _
  | exact valR_rng _ _ _ _ _
  | exact lit_rng (wayF_rng _ _ _ _ _ _ _)
theorem name_rng (s:Dsk) (name:ByteArray) (l:List ByteArray):rngE (nameD s name l).2.1:=by
 unfold nameD
 split
 · unfold commitD
   split
   · exact comBE_rng _ _ _ _ _
   · exact rng3
 · split
   · unfold doesD
     split
     · exact actD_rng _ _ _ _
     · exact rng3
   · exact rng3
theorem name_i64 (s:Dsk) (name:ByteArray) (l:List ByteArray):i64 (nameD s name l).2.1:=by
 obtain⟨h1,h2⟩:=name_rng s name l
 unfold i64
 omega
theorem dname_ok (h:DI w0 X dk s G) {V:World} (hV:Below X.heap.size X V) {name:ByteArray} {rest:List ByteArray} {n:Nat} (hn:fnOf name=some n) (hj:(Lib.join (rest.map (·.data.toList)) [32]).length<=100000) (hl:rest.length<=100000) (hs: ∀x∈rest,x.size<=100000) (hz:(nameD s name rest).2.1=0)
  (ao:Option Addr) (c k:Nat) (hk:k=rest.length) (ht:textsAt V ao rest) (hc:rest.length<=c):
  Calls Tryz.prog n #[.pointer (some ⟨dk,0,none⟩),.slice ao k c] V fun e Y=>e= .returned (.string ⟨(nameD s name rest).2.2.toArray⟩)/\CmdPost w0 V dk (nameD s name rest).1 G Y:=by
 subst hk
 refine(dname_any ao c rest (h.below hV) ⟨ht,hc,hl,hs⟩ hj hn).mono ?_
 rintro e Y ⟨⟨_,rfl⟩|⟨h0,_⟩,hd⟩
 · exact⟨rfl,⟨hd⟩⟩
 · exact absurd hz h0
theorem dname_no (h:DI w0 X dk s G) {V:World} (hV:Below X.heap.size X V) {name:ByteArray} {rest:List ByteArray} {n:Nat} (hn:fnOf name=some n) (hj:(Lib.join (rest.map (·.data.toList)) [32]).length<=100000) (hl:rest.length<=100000) (hs: ∀x∈rest,x.size<=100000) (hz:(nameD s name rest).2.1≠0)
  (ao:Option Addr) (c k:Nat) (hk:k=rest.length) (ht:textsAt V ao rest) (hc:rest.length<=c):
  Calls Tryz.prog n #[.pointer (some ⟨dk,0,none⟩),.slice ao k c] V fun e Y=>e= .panicked (wrongP (nameD s name rest).2.1)/\CmdPost w0 V dk (nameD s name rest).1 G Y:=by
 subst hk
 refine(dname_any ao c rest (h.below hV) ⟨ht,hc,hl,hs⟩ hj hn).mono ?_
 rintro e Y ⟨⟨h0,_⟩|⟨_,rfl⟩,hd⟩
 · exact absurd h0 hz
 · exact⟨rfl,⟨hd⟩⟩
structure LPost (w0 X:World) (dk:Nat) (G:DGh) (r:Dsk×List UInt8) (e:Ending) (Y:World):Prop where
 out:e= .returned (.string ⟨r.2.toArray⟩)
 di: ∃G',DI w0 Y dk r.1 G' /\Fr (G.foot dk) X Y/\ ∀k,G'.all dk k->G.all dk k\/X.heap.size<=k
theorem DI.alt (h:DI w0 X dk s G): ∀k,G.all dk k->k<X.heap.size:=fun k hk=>hk.elim (h.toQ.flt k) (h.gra.lt k)
theorem LPost.close {r:Dsk} {a:List UInt8} {ob:Nat} {V Z:World} {v:Value} (hs:X.heap.size<=ob/\ob<V.heap.size) (hd: ∀k,G.all dk k->k<X.heap.size) (hV: ∃G',DI w0 V dk r G' /\Fr (G.foot dk) X V/\ ∀k,G'.all dk k->G.all dk k\/(X.heap.size<=k/\k≠ob)) (hlow:w0.heap.size<=ob)
  (hZ:Z=V.setCell ⟨ob,0,none⟩ v):LPost w0 X dk G (r,a) (.returned (.string ⟨a.toArray⟩)) Z:=by
 obtain⟨G',h1,h2,h3⟩:=hV
 have hf:Fr (· =ob) V Z:=by rw[hZ];exact Fr.setCell (F:=(· =ob)) (p:=⟨ob,0,none⟩) (Fr.refl _ _) (fun _=>rfl) _
 refine⟨rfl,G',h1.frame hf (fun k hk=>by rw[hk];exact hlow) (fun k hk e=> ?_),h2.next hf (fun k hk e=> ?_),fun k hk=>(h3 k hk).imp id fun e=>e.1⟩
 · rcases h3 k hk with h|h
   · have:=hd k h;omega
   · exact h.2 e
 · omega
theorem fn_enters {name:ByteArray} {n:Nat} (hn:fnOf name=some n): ∀args w,(callFunc n args).run Tryz.prog w= .ok (.enter n args) w:=by
 have hm:=name_of hn
 clear hn
 unfold fnTab at hm
 simp only[List.mem_cons,List.not_mem_nil,or_false,Prod.mk.injEq] at hm
 rcases hm with ⟨rfl,rfl⟩|⟨rfl,rfl⟩|⟨rfl,rfl⟩|⟨rfl,rfl⟩|⟨rfl,rfl⟩|⟨rfl,rfl⟩|⟨rfl,rfl⟩|⟨rfl,rfl⟩|⟨rfl,rfl⟩|⟨rfl,rfl⟩|⟨rfl,rfl⟩|⟨rfl,rfl⟩|⟨rfl,rfl⟩|⟨rfl,rfl⟩|⟨rfl,rfl⟩|⟨rfl,rfl⟩|⟨rfl,rfl⟩
 · exact enters_of Tryz.func20 (by kernel_rfl) rfl
 · exact enters_of Tryz.func64 (by kernel_rfl) rfl
 · exact enters_of Tryz.func65 (by kernel_rfl) rfl
 · exact enters_of Tryz.func66 (by kernel_rfl) rfl
 · exact enters_of Tryz.func67 (by kernel_rfl) rfl
 · exact enters_of Tryz.func68 (by kernel_rfl) rfl
 · exact enters_of Tryz.func69 (by kernel_rfl) rfl
 · exact enters_of Tryz.func70 (by kernel_rfl) rfl
 · exact enters_of Tryz.func71 (by kernel_rfl) rfl
 · exact enters_of Tryz.func7 (by kernel_rfl) rfl
 · exact enters_of Tryz.func72 (by kernel_rfl) rfl
 · exact enters_of Tryz.func73 (by kernel_rfl) rfl
 · exact enters_of Tryz.func74 (by kernel_rfl) rfl
 · exact enters_of Tryz.func75 (by kernel_rfl) rfl
 · exact enters_of Tryz.func76 (by kernel_rfl) rfl
 · exact enters_of Tryz.func77 (by kernel_rfl) rfl
 · exact enters_of Tryz.func78 (by kernel_rfl) rfl
theorem fn_nil (w:World):(binOp .eql 31 .nilFunc .nilFunc).run Tryz.prog w= .ok (.bool true) w:=by kernel_rfl
theorem fn_some (n:Nat) (a c:Array Value) (w:World):(binOp .eql 31 (.func (.func n) a c) .nilFunc).run Tryz.prog w= .ok (.bool false) w:=by kernel_rfl
set_option maxRecDepth 100000 in
set_option maxHeartbeats 4000000 in
theorem dline_any (t:ByteArray) (h:DI w0 X dk s G) (ht:t.size<=50000):
  Calls Tryz.prog 11 #[.pointer (some ⟨dk,0,none⟩),.string t] X (LPost w0 X dk G (lineD s t.data.toList)):=by
 have hmf: ∀(fn:Fn) (first cap:Array Value) (w:World),(Instr.makeFunc fn first cap).run Tryz.prog w= .ok (.func fn first cap) w:=fun _ _ _ _=>rfl
 have hq0:=fn_nil
 have hq1:=fn_some
 have HI:=Lib.hid h
 have hdl:=h.alt
 have HDL:=Lib.hid hdl
 obtain⟨W0,hW0⟩: ∃W0,W0=X.alloc (.cells #[.string ⟨#[]⟩] 9):=⟨_,rfl⟩
 obtain⟨ob,hob⟩: ∃ob,ob=X.heap.size:=⟨_,rfl⟩
 have b0:Below X.heap.size X W0:=by rw[hW0];exact(Below.refl _ _).alloc (Nat.le_refl _) _
 have hobk:W0.heap[ob]? =some (.cells #[.string ⟨#[]⟩] 9 (0,0)):=by rw[hW0,hob];exact block_alloc_new _ _
 have hlow:w0.heap.size<=ob:=by rw[hob];exact h.be.size
 have hF:=Tryz.strings_FieldsFunc 27 #[] (enters_of Tryz.func27 (by kernel_rfl) rfl) isBl t W0 (by omega) (fun W r _=>line2_any r W)
 rw[goFields_bl] at hF
 have hfl:=fields_len t.data.toList
 have hfs:=fields_small t.data.toList
 have hfj:=fields_join t.data.toList
 have htl:t.data.toList.length=t.size:=size_toList t
 have hLN:lineD s t.data.toList=match fieldsL t.data.toList with
  | []=>(s,[111,107])
  | name::w=>((nameD s name w).1,ansT (nameD s name w).2):=rfl
 rw[hLN]
 clear hLN
 generalize fieldsL t.data.toList=l at*
 have HW:=Lib.hid hW0
 have HO:=Lib.hid hob
 have HB0:=Lib.hid b0
 have HF:=Lib.hid hF
 have HOB:=Lib.hid hobk
 have hobl:ob<W0.heap.size:=lt_of_block hobk
 have hobx:X.heap.size<=ob:=by rw[hob];exact Nat.le_refl _
 clear hW0 hob b0 hF hobk h hdl
 cases l with
 | nil =>
   clear hfl hfs hfj htl ht
   go_enter_defers Tryz.func11,Tryz.ntmps11
   go_wp2_with (first
    | (rw[<-HW.out, <-HO.out])
    | (go_at_call 26;(with_reducible refine HF.out.mono ?_);rintro e w1 ⟨A,rfl,hA,hown,b1⟩;have hbk1:=(b1.block ob hobl).trans HOB.out;have f0:=block_free hbk1 0;have y0:=block_cell hbk1 0;have hl1:=lt_of_block hbk1;have HB1:=Lib.hid b1;have HOB1:=Lib.hid hbk1;clear hA hown b1 hbk1))
   refine leaves_cons (f:=24) (args:= #[.pointer (some ⟨ob,0,none⟩)]) (by simp) (by simp[go_sem]) ?_
   refine(line1_idle ⟨ob,0,none⟩ _).mono ?_
   rintro e u' w2 ⟨rfl,rfl,rfl⟩
   have hc2:(w1.setCell ⟨ob,0,none⟩ (.string ⟨#[111,107]⟩)).cell? ⟨ob,0,none⟩=some (.string ⟨#[111,107]⟩):=World.cell?_setCell_same _ _ _ y0
   have hX:=HB0.out.trans (HB1.out.mono HB0.out.size)
   refine⟨.string ⟨#[111,107]⟩,by simp[results,Tryz.results11,go_sem,hc2],?_⟩
   exact LPost.close (a:= [111,107]) ⟨hobx,hl1⟩ HDL.out ⟨G,HI.out.below hX,Fr.new hX,fun k hk=> .inl hk⟩ hlow rfl
 | cons name rest=>
   simp only[]
   have hns:name.size<=maxLen:=by
    have:=hfs name (by simp)
    unfold maxLen
    omega
   have hrs: ∀x∈rest,x.size<=100000:=fun x hx=>by
    have:=hfs x (List.mem_cons_of_mem _ hx)
    omega
   have hrl:rest.length<=100000:=by
    rw[List.length_cons] at hfl
    omega
   have hrj:(Lib.join (rest.map (·.data.toList)) [32]).length<=100000:=by
    rw[List.map_cons] at hfj
    have:=(join_cons_le name.data.toList (rest.map (·.data.toList))).2
    omega
   obtain⟨n1,hn1⟩: ∃n1,n1=(name::rest).length:=⟨_,rfl⟩
   rw[<-hn1] at HF
   rw[List.length_cons] at hn1
   have i0:(0:Int)<(n1:Int):=by omega
   have i1:0<n1:=by omega
   have i2:((n1:Int)==0)=false:=by simp;omega
   have i3:(1:Int)<=(n1:Int):=by omega
   have i4:1<=n1:=by omega
   have HN1:=Lib.hid hn1
   clear hfl hfs hfj htl ht hn1
   cases hfn:fnOf name with
   | none=>
     have HDO:Hid (∀V:World,Calls Tryz.prog 28 #[.pointer (some ⟨dk,0,none⟩),.string name] V fun e w' =>e= .returned .nilFunc/\Below V.heap.size V w'):=Lib.hid fun V=>by
      have:=ddoes_any dk name V hns
      rw[hfn] at this
      exact this
     have hno:=name_none (s:=s) hfn rest
     rw[hno]
     have HE:=Lib.hid fun(V:World) (hV:Below X.heap.size X V)=>must_errno 3 V (HI.out.evX.below hV)
     clear hno hfn hrs hrl hrj hns
     go_enter_defers Tryz.func11,Tryz.ntmps11
     go_wp2_with (first
     | (rw[<-HW.out, <-HO.out])
     | (go_at_call 26;(with_reducible refine HF.out.mono ?_);rintro e w1 ⟨A,rfl,hA,hown,b1⟩;have htx:=own_texts hown;have hc0:=(htx 0 name rfl);obtain⟨b',o',e1,hc0⟩:=hc0;cases e1;have hAl:=World.block_lt_of_cell? w1 _ hc0;have hbk1:=(b1.block ob hobl).trans HOB.out;have f0:=block_free hbk1 0;have y0:=block_cell hbk1 0;have hl1:=lt_of_block hbk1;have HB1:Hid (Below X.heap.size X w1):=Lib.hid (HB0.out.trans (b1.mono HB0.out.size));have HOB1:=Lib.hid hbk1;have HTX:=Lib.hid htx;clear hA hown b1 hbk1 htx)
     | (go_at_call 28;(with_reducible refine(HDO.out _).mono ?_);rintro e w2 ⟨rfl,b2⟩;have hbk2:=(b2.block ob hl1).trans HOB1.out;have g0:=block_free hbk2 0;have z0:=block_cell hbk2 0;have hl2:=lt_of_block hbk2;have HB2:Hid (Below X.heap.size X w2):=Lib.hid (HB1.out.trans (b2.mono HB1.out.size));have HOB2:=Lib.hid hbk2;have HTX2:=Lib.hid (HTX.out.below b2);clear b2 hbk2)
     | (go_at_call 19;(with_reducible refine(HE.out _ HB2.out).mono ?_);rintro e w3 ⟨rfl,b3⟩;have hbk3:=(b3.block ob hl2).trans HOB2.out;have k0:=block_free hbk3 0;have x0:=block_cell hbk3 0;have hl3:=lt_of_block hbk3;have HB3:Hid (Below X.heap.size X w3):=Lib.hid (HB2.out.trans (b3.mono HB2.out.size));clear b3 hbk3))
     refine leaves_cons (f:=24) (args:= #[.pointer (some ⟨ob,0,none⟩)]) (by simp) (by simp[go_sem]) ?_
     refine(line1_caught ob 3 ⟨#[]⟩ [] w3 (by unfold i64;omega) x0 k0 hl3 (HI.out.ptX.below HB3.out)).mono ?_
     rintro e u' w9 ⟨rfl,rfl,V,hbV,rfl⟩
     have hlV:=Nat.lt_of_lt_of_le hl3 hbV.size
     have hc9:(V.setCell ⟨ob,0,none⟩ (.string ⟨(errT (3)).toArray⟩)).cell? ⟨ob,0,none⟩=some (.string ⟨(errT (3)).toArray⟩):=World.cell?_setCell_same _ _ _ (below_cell hbV hl3 x0)
     refine⟨.string ⟨(errT (3)).toArray⟩,by simp[results,Tryz.results11,go_sem,hc9],?_⟩
     exact LPost.close (a:=errT 3) ⟨hobx,hlV⟩ HDL.out ⟨G,HI.out.below (HB3.out.trans (hbV.mono HB3.out.size)),Fr.new (HB3.out.trans (hbV.mono HB3.out.size)),fun k hk=> .inl hk⟩ hlow rfl
   | some n=>
     have HDO:Hid (∀V:World,Calls Tryz.prog 28 #[.pointer (some ⟨dk,0,none⟩),.string name] V fun e w' =>e= .returned (.func (.func n) #[.pointer (some ⟨dk,0,none⟩)] #[])/\Below V.heap.size V w'):=Lib.hid fun V=>by
      have:=ddoes_any dk name V hns
      rw[hfn] at this
      exact this
     have hen:=fn_enters hfn
     have HTA:Hid (∀(V:World) (A:Nat),textsAt V (some ⟨A,0,none⟩) (name::rest)->textsAt V (some ⟨A,1,none⟩) rest):=Lib.hid fun V A h i x hi=>by
      obtain⟨b,o,e,hc⟩:=h (i+1) x hi
      cases e
      exact⟨A,1,rfl,by rw[show 1+i=0+(i+1) by omega];exact hc⟩
     have HTB:Hid (rest.length=0-> ∀(V:World) (ao:Option Addr),textsAt V ao rest):=Lib.hid fun h V ao i x hi=>by
      rw[List.length_eq_zero_iff.1 h] at hi
      cases hi
     have hni:=name_i64 s name rest
     by_cases hz:(nameD s name rest).2.1=0
     · have HC:=Lib.hid fun(V:World) (hV:Below X.heap.size X V)=>dname_ok HI.out hV hfn hrj hrl hrs hz
       have hans:ansT (nameD s name rest).2=(nameD s name rest).2.2:=by unfold ansT;rw[if_pos hz]
       rw[hans]
       clear hfn hrs hrl hrj hns hz hans hni
       generalize (nameD s name rest).2.2=tx at*
       generalize (nameD s name rest).1=s' at*
       go_enter_defers Tryz.func11,Tryz.ntmps11
       go_wp2_with (first
     | (rw[<-HW.out, <-HO.out])
     | (go_at_call 26;(with_reducible refine HF.out.mono ?_);rintro e w1 ⟨A,rfl,hA,hown,b1⟩;have htx:=own_texts hown;have hc0:=(htx 0 name rfl);obtain⟨b',o',e1,hc0⟩:=hc0;cases e1;have hAl:=World.block_lt_of_cell? w1 _ hc0;have hbk1:=(b1.block ob hobl).trans HOB.out;have f0:=block_free hbk1 0;have y0:=block_cell hbk1 0;have hl1:=lt_of_block hbk1;have HB1:Hid (Below X.heap.size X w1):=Lib.hid (HB0.out.trans (b1.mono HB0.out.size));have HOB1:=Lib.hid hbk1;have HTX:=Lib.hid htx;clear hA hown b1 hbk1 htx)
     | (go_at_call 28;(with_reducible refine(HDO.out _).mono ?_);rintro e w2 ⟨rfl,b2⟩;have hbk2:=(b2.block ob hl1).trans HOB1.out;have g0:=block_free hbk2 0;have z0:=block_cell hbk2 0;have hl2:=lt_of_block hbk2;have HB2:Hid (Below X.heap.size X w2):=Lib.hid (HB1.out.trans (b2.mono HB1.out.size));have HOB2:=Lib.hid hbk2;have HTX2:=Lib.hid (HTX.out.below b2);clear b2 hbk2)
       | (go_at_fn n;(first
         | (with_reducible refine(HC.out _ HB2.out (some ⟨A,0,none⟩) 0 0 (by have:=HN1.out;omega) (HTB.out (by have:=HN1.out;omega) _ _) (by have:=HN1.out;omega)).mono ?_)
         | (with_reducible refine(HC.out _ HB2.out (some ⟨A,1,none⟩) (n1-1) (n1-1) (by have:=HN1.out;omega) (HTA.out _ _ HTX2.out) (by have:=HN1.out;omega)).mono ?_));rintro e w3 ⟨rfl,hd⟩;obtain⟨G',hdi,hfr,hall⟩:=hd.di;have hbk3:=hfr.keeps HOB2.out (fun e=>by have:=HDL.out ob (.inl e);omega);have k0:=block_free hbk3 0;have x0:=block_cell hbk3 0;have hl3:=lt_of_block hbk3;have HD3:Hid (∃G',DI w0 w3 dk s' G' /\Fr (G.foot dk) X w3/\ ∀k,G'.all dk k->G.all dk k\/(X.heap.size<=k/\k≠ob)):=Lib.hid ⟨G',hdi,(Fr.new (F:=G.foot dk) HB2.out).next hfr (fun _ _ e=>e),fun k hk=>(hall k hk).imp id (fun e=>⟨Nat.le_trans HB2.out.size e,by omega⟩)⟩;clear hdi hfr hall hd hbk3))
       all_goals
        refine leaves_cons (f:=24) (args:= #[.pointer (some ⟨ob,0,none⟩)]) (by simp) (by simp[go_sem]) ?_
        refine(line1_idle ⟨ob,0,none⟩ _).mono ?_
        rintro e u' w9 ⟨rfl,rfl,rfl⟩
        have hc9:(w3.setCell ⟨ob,0,none⟩ (.string ⟨tx.toArray⟩)).cell? ⟨ob,0,none⟩=some (.string ⟨tx.toArray⟩):=World.cell?_setCell_same _ _ _ x0
        refine⟨.string ⟨tx.toArray⟩,by simp[results,Tryz.results11,go_sem,hc9],?_⟩
        exact LPost.close ⟨hobx,hl3⟩ HDL.out HD3.out hlow rfl
     · have HC:=Lib.hid fun(V:World) (hV:Below X.heap.size X V)=>dname_no HI.out hV hfn hrj hrl hrs hz
       have hans:ansT (nameD s name rest).2=errT (nameD s name rest).2.1:=by unfold ansT;rw[if_neg hz]
       rw[hans]
       clear hfn hrs hrl hrj hns hz hans
       generalize (nameD s name rest).2.1=er at*
       generalize (nameD s name rest).1=s' at*
       go_enter_defers Tryz.func11,Tryz.ntmps11
       go_wp2_with (first
     | (rw[<-HW.out, <-HO.out])
     | (go_at_call 26;(with_reducible refine HF.out.mono ?_);rintro e w1 ⟨A,rfl,hA,hown,b1⟩;have htx:=own_texts hown;have hc0:=(htx 0 name rfl);obtain⟨b',o',e1,hc0⟩:=hc0;cases e1;have hAl:=World.block_lt_of_cell? w1 _ hc0;have hbk1:=(b1.block ob hobl).trans HOB.out;have f0:=block_free hbk1 0;have y0:=block_cell hbk1 0;have hl1:=lt_of_block hbk1;have HB1:Hid (Below X.heap.size X w1):=Lib.hid (HB0.out.trans (b1.mono HB0.out.size));have HOB1:=Lib.hid hbk1;have HTX:=Lib.hid htx;clear hA hown b1 hbk1 htx)
     | (go_at_call 28;(with_reducible refine(HDO.out _).mono ?_);rintro e w2 ⟨rfl,b2⟩;have hbk2:=(b2.block ob hl1).trans HOB1.out;have g0:=block_free hbk2 0;have z0:=block_cell hbk2 0;have hl2:=lt_of_block hbk2;have HB2:Hid (Below X.heap.size X w2):=Lib.hid (HB1.out.trans (b2.mono HB1.out.size));have HOB2:=Lib.hid hbk2;have HTX2:=Lib.hid (HTX.out.below b2);clear b2 hbk2)
       | (go_at_fn n;(first
         | (with_reducible refine(HC.out _ HB2.out (some ⟨A,0,none⟩) 0 0 (by have:=HN1.out;omega) (HTB.out (by have:=HN1.out;omega) _ _) (by have:=HN1.out;omega)).mono ?_)
         | (with_reducible refine(HC.out _ HB2.out (some ⟨A,1,none⟩) (n1-1) (n1-1) (by have:=HN1.out;omega) (HTA.out _ _ HTX2.out) (by have:=HN1.out;omega)).mono ?_));rintro e w3 ⟨rfl,hd⟩;obtain⟨G',hdi,hfr,hall⟩:=hd.di;have hbk3:=hfr.keeps HOB2.out (fun e=>by have:=HDL.out ob (.inl e);omega);have k0:=block_free hbk3 0;have x0:=block_cell hbk3 0;have hl3:=lt_of_block hbk3;have HD3:Hid (∃G',DI w0 w3 dk s' G' /\Fr (G.foot dk) X w3/\ ∀k,G'.all dk k->G.all dk k\/(X.heap.size<=k/\k≠ob)):=Lib.hid ⟨G',hdi,(Fr.new (F:=G.foot dk) HB2.out).next hfr (fun _ _ e=>e),fun k hk=>(hall k hk).imp id (fun e=>⟨Nat.le_trans HB2.out.size e,by omega⟩)⟩;clear hdi hfr hall hd hbk3))
       all_goals
        refine leaves_cons (f:=24) (args:= #[.pointer (some ⟨ob,0,none⟩)]) (by simp) (by simp[go_sem]) ?_
        refine(line1_caught ob er ⟨#[]⟩ [] w3 hni x0 k0 hl3 (by obtain⟨G',e1,_⟩:=HD3.out;exact e1.ptX)).mono ?_
        rintro e u' w9 ⟨rfl,rfl,V,hbV,rfl⟩
        have hlV:=Nat.lt_of_lt_of_le hl3 hbV.size
        have hc9:(V.setCell ⟨ob,0,none⟩ (.string ⟨(errT (er)).toArray⟩)).cell? ⟨ob,0,none⟩=some (.string ⟨(errT (er)).toArray⟩):=World.cell?_setCell_same _ _ _ (below_cell hbV hl3 x0)
        refine⟨.string ⟨(errT (er)).toArray⟩,by simp[results,Tryz.results11,go_sem,hc9],?_⟩
        obtain⟨G',e1,e2,e3⟩:=HD3.out
        exact LPost.close ⟨hobx,hlV⟩ HDL.out ⟨G',e1.below hbV,e2.next (Fr.new (F:=fun _=>False) hbV) (fun _ _ e=>e.elim),e3⟩ hlow rfl
end
end Go.Proofs.YtpgkjnebklknjaaGreatDoor
namespace Go.Proofs.YtpgkjnebklknjaaGreatDoor
open Go.RowKit Go.Deep Go.Shelf Go.Sort Go.Maps
theorem Calls.pure {P:Program} {f:FuncId} {args:Array Value} {w:World} {R:Ending->World->Prop} {p:Prop} (h:Calls P f args w R) (hr: ∀e w',R e w' ->p):p:=
 let ⟨_,_,_,r,_⟩:=h [];hr _ _ r
theorem goW_small: ∀ {f:List Bool} {w:List ByteArray} {q:List Int×List ByteArray},goW f w=some q->(∀n∈q.1,i64 n)/\ ∀x∈q.2,x∈w
 | [],[],q,h=>by injection h with h;subst h;simp
 | true::f,x::w,q,h=>by
   simp only[goW,Option.bind_eq_some_iff,Option.map_eq_some_iff] at h
   obtain⟨n,h1,q',h2,rfl⟩:=h
   obtain⟨i1,i2⟩:=goW_small h2
   refine⟨fun y hy=> ?_,fun y hy=>List.mem_cons_of_mem _ (i2 y hy)⟩
   rcases List.mem_cons.1 hy with rfl|hy
   · exact numB_i64 h1
   · exact i1 y hy
 | false::f,x::w,q,h=>by
   simp only[goW,Option.map_eq_some_iff] at h
   obtain⟨q',h2,rfl⟩:=h
   obtain⟨i1,i2⟩:=goW_small h2
   refine⟨i1,fun y hy=> ?_⟩
   rcases List.mem_cons.1 hy with rfl|hy
   · exact List.mem_cons_self
   · exact List.mem_cons_of_mem _ (i2 y hy)
 | [],_::_,_,h=>by cases h
 | true::_,[],_,h=>by cases h
 | false::_,[],_,h=>by cases h
theorem plainB_len {x:ByteArray} (h:x.size<=100000):(plainB x).size<=100000:=by
 unfold plainB undash
 split
 · exact Nat.zero_le _
 · rw [show(⟨x.data.toList.toArray⟩:ByteArray)=x by rw[Array.toArray_toList]]
   exact h
theorem keyT_small {k:KeyP} (h:keyB k=true):(keyT k).length<=200:=by
 obtain⟨o,_⟩:=keyB_ok h
 have hw:=(wfkey h).2
 have h1:=Lib.itoa_length_le k.kind o.kind.1 o.kind.2
 have h2:=Lib.itoa_length_le k.a o.a.1 o.a.2
 have h3:=Lib.itoa_length_le k.b o.b.1 o.b.2
 have h4:=dashL_len k.word
 have :=join_len [32] 40 [Lib.itoa k.kind,Lib.itoa k.a,dashL k.word,Lib.itoa k.b] (fun p hp=>by
  simp only[List.mem_cons,List.not_mem_nil,or_false] at hp
  rcases hp with rfl|rfl|rfl|rfl<;>omega)
 unfold keyT
 simp only[List.length_cons,List.length_nil] at this
 omega
theorem keysT_small (l:List KeyP) (h: ∀k∈l,keyB k=true):(keysT l).length<=l.length*202:=by
 have :=join_len [44,32] 200 (l.map keyT) (fun p hp=>by
  obtain⟨x,hx,rfl⟩:=List.mem_map.1 hp
  exact keyT_small (h x hx))
 rw[List.length_map] at this
 simpa [keysT] using this
theorem said_len {hist:List (List OpP)} (hok: ∀l∈hist,okL l=true) (k:KeyP) (n:Nat) (t:Int):(saidH hist k n t).size<=12:=by
 rcases Nat.eq_zero_or_pos (saidH hist k n t).size with h|h
 · omega
 · exact(said_val hok (by omega)).2
theorem ofP_len {G:List (KeyP×ByteArray)} {m:Nat} (h: ∀p∈G,p.2.size<=m) (k:KeyP):(ofP G k).size<=m:=by
 unfold ofP
 cases hf:G.find? fun p=>decide (p.1=k) with
 | none=>exact Nat.zero_le _
 | some p=>exact h p (List.mem_of_find?_eq_some hf)
theorem propP_len {G:List (KeyP×ByteArray)} (h: ∀p∈G,p.2.size<=12) (n:Int) (w:ByteArray):(propP G n w).1.size<=12:=by
 unfold propP
 split
 · split
   · exact Nat.zero_le _
   · exact ofP_len h _
 · exact Nat.zero_le _
theorem valR_len {hist:List (List OpP)} (hok: ∀l∈hist,okL l=true) (known:Int) (k:KeyP) (a t:Int):(valR hist known k a t).1.size<=12:=by
 unfold valR
 split
 · exact Nat.zero_le _
 · split
   · exact said_len hok _ _ _
   · exact Nat.zero_le _
theorem ansT_len {a:Ans} (h:rngE a.1) (h0:a.2.length<=1000000):(ansT a).length<=1000000:=by
 unfold ansT
 split
 · exact h0
 · unfold errT
   have:=Lib.itoa_length_le a.1 (by unfold rngE at h;omega) (by unfold rngE at h;omega)
   simp only[List.length_append,List.length_cons,List.length_nil]
   omega
section
variable {w0 X:World} {dk:Nat} {s:Dsk} {G:DGh}
theorem act_len (h:DI w0 X dk s G) (hg: ∀l∈s.gh,okL l=true) (c:Cm) (q:List Int) (hq: ∀n∈q,i64 n) (m:List ByteArray) (hm: ∀x∈m,x.size<=100000):(actD s c q m).2.2.length<=1000000:=by
 obtain⟨n,ps,hp,hk,hok,hlen,_⟩:=h.base.past
 obtain⟨z1,z2,z3⟩:=h.base.sizes
 unfold actD
 split
 case _=>split<;>simp
 case _=>simp
 case _=>
  have:=keysT_small (edgesP s.L) (fun k hk=>h.gra.kok k (List.mem_filter.1 hk).1)
  have h2:=edges_len h.gra
  simp only[List.length_append,List.length_cons,List.length_nil]
  omega
 case _ k x y a b f t w=>
  obtain⟨h1,h2⟩:=Calls.pure (p:=(evsF s.hist s.known ⟨k,x,plainB w,y⟩ a b f t).length<=1200/\ ∀z∈evsF s.hist s.known ⟨k,x,plainB w,y⟩ a b f t,z.size<=12) (dever_past X h.base ⟨k,x,plainB w,y⟩ a b f t (plainB_len (hm w (by simp)))) (fun _ _ ⟨_,_,_,_,_,i1,i2,_⟩=>⟨i1,i2⟩)
  have:=evs_len _ h1 h2
  simp only[List.length_append,List.length_cons,List.length_nil]
  omega
 case _=>unfold forD;simp
 case _=>simp[helpT]
 case _ n hh w=>
  obtain⟨h1,h2⟩:=h.gra.hops_ok n hh (plainB w) (hq n (by simp))
  have:=wordsT_len _ h1
  simp only[List.length_append,List.length_cons,List.length_nil]
  omega
 case _ a t=>
  obtain⟨h1,h2⟩:=Calls.pure (p:=(∀z∈ksF s.hist s.known a t,keyB z=true)/\(ksF s.hist s.known a t).length<=3600) (dkeys_past X h.base a t) (fun _ _ ⟨_,_,_,_,i1,i2,_⟩=>⟨i1,i2⟩)
  have:=keysT_small _ h1
  simp only[List.length_append,List.length_cons,List.length_nil]
  omega
 case _=>simp
 case _ w=>
  obtain⟨h1,h2⟩:=h.gra.nodes_ok (plainB w)
  have:=wordsT_len _ h1
  simp only[List.length_append,List.length_cons,List.length_nil]
  omega
 case _=>
  have:=wordsT_len [(s.hist.length:Int),(s.known:Int),(s.used:Int)] (by simp only[List.mem_cons,List.not_mem_nil,or_false];rintro x (rfl|rfl|rfl)<;>(unfold i64B;omega))
  have h2:(boolT s.down).length<=5:=by cases s.down<;>decide
  simp only[List.length_append,List.length_cons,List.length_nil] at this ⊢
  omega
 case _=>simp
 case _ k x y a w=>
  obtain⟨h1,h2⟩:=Calls.pure (p:=(∀z∈pcsF s.hist s.known ⟨k,x,plainB w,y⟩ a,pcB z=true)/\(pcsF s.hist s.known ⟨k,x,plainB w,y⟩ a).length<=3600) (dpieces_past X h.base ⟨k,x,plainB w,y⟩ a (plainB_len (hm w (by simp)))) (fun _ _ ⟨_,_,_,_,i1,i2,_⟩=>⟨i1,i2⟩)
  have:=pcsT_len _ h1
  simp only[List.length_append,List.length_cons,List.length_nil]
  omega
 case _ n w=>
  have :=propP_len (G:=s.G) (fun p hp=>by
   obtain⟨k,_,rfl⟩:=List.mem_map.1 hp
   exact said_len hg _ _ _) n w
  show(propP s.G n w).1.data.toList.length<=_
  rw[size_toList]
  omega
 case _ k x y a t w=>
  have:=valR_len hok s.known ⟨k,x,plainB w,y⟩ a t
  have h2:=dashL_len (valR s.hist s.known ⟨k,x,plainB w,y⟩ a t).1
  show(dashL (valR s.hist s.known ⟨k,x,plainB w,y⟩ a t).1).length<=_
  omega
 case _ x y w=>
  obtain⟨h1,h2⟩:=h.gra.way_ok x y (plainB w) (hq x (by simp)) (hq y (by simp))
  have:=wordsT_len _ h1
  simp only[List.length_append,List.length_cons,List.length_nil]
  omega
 case _=>simp
theorem name_len (h:DI w0 X dk s G) (hg: ∀l∈s.gh,okL l=true) (name:ByteArray) (m:List ByteArray) (hm: ∀x∈m,x.size<=100000):(nameD s name m).2.2.length<=1000000:=by
 obtain⟨z1,z2,z3⟩:=h.base.sizes
 unfold nameD
 split
 · unfold commitD
   split
   · unfold comD
     have hl: ∀n:Nat,n<=151->(Lib.itoa (n:Int)).length<=1000000:=fun n hn=>by
      have:=Lib.itoa_length_le (n:Int) (by omega) (by omega)
      omega
     refine hl _ ?_
     split
     · rw[List.length_append,List.length_singleton];omega
     · omega
   · simp
 · split
   · unfold doesD
     split
     · rename_i q hq
       obtain⟨h1,h2⟩:=goW_small hq
       exact act_len h hg _ _ h1 _ (fun x hx=>hm x (h2 x hx))
     · simp
   · simp
theorem line_len (h:DI w0 X dk s G) (hg: ∀l∈s.gh,okL l=true) (t:List UInt8) (ht:t.length<=100000):(lineD s t).2.length<=1000000:=by
 unfold lineD
 split
 · simp
 · rename_i name m hf
   exact ansT_len (name_rng s name m) (name_len h hg name m (fun x hx=>Nat.le_trans (fields_small t x (by rw[hf];exact List.mem_cons_of_mem _ hx)) ht))
end
theorem act_gh (s:Dsk) (c:Cm) (q:List Int) (m:List ByteArray):(actD s c q m).1.gh=s.gh\/(actD s c q m).1.gh=s.hist\/(actD s c q m).1.gh= []:=by
 unfold actD
 split
 case _=>split<;>simp
 all_goals first|exact .inl rfl|exact .inr (.inr rfl)
theorem line_gh (s:Dsk) (t:List UInt8):(lineD s t).1.gh=s.gh\/(lineD s t).1.gh=s.hist\/(lineD s t).1.gh= []:=by
 unfold lineD
 split
 · exact .inl rfl
 · unfold nameD
   split
   · unfold commitD
     split<;>exact .inl rfl
   · split
     · unfold doesD
       split
       · exact act_gh _ _ _ _
       · exact .inl rfl
     · exact .inl rfl
end Go.Proofs.YtpgkjnebklknjaaGreatDoor
