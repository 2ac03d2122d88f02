/-A transaction is said (Commit). -/
import Derived.LoopTactic
import Derived.Test.YtpgkjnebklknjaaGreatDoorPwEJr
import Derived.Test.YtpgkjnebklknjaaGreatDoorFcHJr
namespace Go.Proofs.YtpgkjnebklknjaaGreatDoor
open Go.RowKit Go.Deep Go.Shelf Go.Sort Go.Maps
def OBox (w:World) (b:Nat) (o:OpP):Prop:=w.heap[b]? =some (.cells #[.int .i64 o.key.kind,.int .i64 o.key.a,.string o.key.word,.int .i64 o.key.b,.int .i64 o.fr,.int .i64 o.to,.string o.value] 148 (0,0))
theorem OBox.cells {w:World} {b:Nat} {o:OpP} (h:OBox w b o):w.cell? ⟨b,0,none⟩=some (.int .i64 o.key.kind)/\w.cell? ⟨b,1,none⟩=some (.int .i64 o.key.a)/\w.cell? ⟨b,2,none⟩=some (.string o.key.word)/\w.cell? ⟨b,3,none⟩=some (.int .i64 o.key.b)/\w.cell? ⟨b,4,none⟩=some (.int .i64 o.fr)/\w.cell? ⟨b,5,none⟩=some (.int .i64 o.to)/\w.cell? ⟨b,6,none⟩=some (.string o.value):=
 ⟨block_cell h 0,block_cell h 1,block_cell h 2,block_cell h 3,block_cell h 4,block_cell h 5,block_cell h 6⟩
theorem OBox.frame {F:Nat->Prop} {w w' :World} {b:Nat} {o:OpP} (h:OBox w b o) (hf:Fr F w w') (hn: ¬F b):OBox w' b o:=hf.keeps h hn
theorem begun_step {pb po:Nat} {R:Rest} {s:Pst} {g g1:Gh} {w w1:World} {e:Ending} {w2:World} (h:Begun pb po R s g1 w1 e w2) (hf:Fr (g.foot pb) w w1) (hg:Grows g g1 pb w) (hk:Keeps g g1):Begun pb po R s g w e w2:=by
 obtain⟨g2,h1,h2,h3,h4,h5,h6,h7⟩:=h
 exact⟨g2,h1,h2,h3,h4,hf.past h5 hg,hg.trans h6 hf.size,hk.trans h7⟩
theorem hits_none {s:Pst} {o:OpP} {g:Gh} (hall: ∀v∈s.vs,∃x∈g.ts,x.key=v.key) (hy:treeFor g.ts o.key=none):hits s o= []:=by
 have hti:itemsK s.vs o.key= []:=by
  cases e:itemsK s.vs o.key with
  | nil=>rfl
  | cons z l=>
    obtain⟨v,hv,hvk,_⟩:=mem_itemsK.1 (show z∈itemsK s.vs o.key by rw[e];simp)
    obtain⟨z',hz',e'⟩:=hall v hv
    exact absurd (e'.trans hvk) (treeFor_none hy z' hz')
 unfold hits meetsL
 rw[hti]
 split
 · simp[sortI]
 · rfl
set_option maxRecDepth 100000 in
set_option maxHeartbeats 4000000 in
theorem psays_none (o:OpP) (pb po:Nat) (R:Rest) (s:Pst) (g:Gh) (w:World) (h:PastAt w pb po R s g) (ha:g.am.isSome=true) (ht:g.tm.isSome=true) (ho:opB o=true) (hn:s.next+3<=4000) (hy:treeFor g.ts o.key=none):
  Calls Tryz.prog 164 #[.pointer (some ⟨pb,po,none⟩),.agg #[.int .i64 o.key.kind,.int .i64 o.key.a,.string o.key.word,.int .i64 o.key.b,.int .i64 o.fr,.int .i64 o.to,.string o.value]] w (Begun pb po R (sayO o s) g w):=by
 have hk:=op_key ho
 have hr:=opB_right ho
 have hh:=hits_none h.all hy
 obtain⟨tm,ht'⟩:=Option.isSome_iff_exists.1 ht
 obtain⟨W1,hW1⟩: ∃W1,W1=w.alloc (.cells #[.int .i64 o.key.kind,.int .i64 o.key.a,.string o.key.word,.int .i64 o.key.b,.int .i64 o.fr,.int .i64 o.to,.string o.value] 148):=⟨_,rfl⟩
 have hB1:Below w.heap.size w W1:=by rw[hW1];exact(Below.refl _ w).alloc (Nat.le_refl _) _
 have hK1:OBox W1 w.heap.size o:=by rw[hW1];exact block_alloc_new w _
 have P1:=h.below hB1
 have hlk: ∀n,(Instr.lookup 124 (.map (some tm)) (.agg #[.int .i64 o.key.kind,.int .i64 o.key.a,.string o.key.word,.int .i64 o.key.b]) false).run Tryz.prog (W1.drewN n)= .ok (.pointer none) (W1.drewN n):=fun n=>by
  have hT:=P1.trees.frame (Fr.drewN (Fr.refl (fun _=>False) W1) n) (fun _ _ e=>e)
  have:=tree_look hT P1.keyOk hk
  rw[ht',trPtr_none hy] at this
  exact this
 obtain⟨c0,_,_,_,c4⟩:=past_cells P1.len P1.cells
 rw[ht'] at c4
 obtain⟨k0,k1,k2,k3,k4,k5,k6⟩:=hK1.cells
 have HW1:=Lib.hid hW1
 have HB1:=Lib.hid hB1
 have HP:=Lib.hid h
 have HP1:=Lib.hid P1
 have HA:=Lib.hid ha
 have HT:=Lib.hid ht
 have HK:=Lib.hid hk
 have HR:=Lib.hid hr
 have HH:=Lib.hid hh
 clear hW1 hB1 hK1 h P1 ha ht ht' hy hk hr hh ho
 by_cases h0:o.value.size=0
 · have hs:sayO o s=s:=by unfold sayO;rw[if_pos h0,HH.out];rfl
   have hv1:=empty_true h0
   have hv2:(!o.value.toList.isEmpty)=false:=by rw[hv1];rfl
   have HS:=Lib.hid hs
   clear hs h0
   go_enter Tryz.func164,Tryz.ntmps164
   go_wp2_with fail
   rw[<-HW1.out]
   go_quiet (fail)
   revert nq;intro n1
   go_wp2_with fail
   refine bodyPost_end (results_none rfl _ _ _) rfl ?_
   have hB:Below w.heap.size w (W1.drewN n1):=below_drewN' HB1.out n1
   rw[HS.out]
   exact⟨g,rfl,HP.out.below hB,HA.out,HT.out,Fr.new hB,Grows.refl _ _ _,Keeps.refl _⟩
 · have hs:sayO o s=addV s o.key o.fr o.to o.value:=by unfold sayO;rw[if_neg h0,HH.out];rfl
   have hv1:=empty_false h0
   have hv2:(!o.value.toList.isEmpty)=true:=by rw[hv1];rfl
   have HS:=Lib.hid hs
   clear hs h0
   go_enter Tryz.func164,Tryz.ntmps164
   go_wp2_with fail
   rw[<-HW1.out]
   go_quiet (fail)
   revert nq;intro n1
   go_wp2_with fail
   obtain⟨W2,hW2⟩: ∃W2,W2=W1.drewN n1:=⟨_,rfl⟩
   rw[<-hW2]
   have hB2:Below w.heap.size w W2:=by rw[hW2];exact below_drewN' HB1.out n1
   have hK2:OBox W2 w.heap.size o:=by rw[hW2,HW1.out];exact block_alloc_new w _
   have P2:=HP.out.below hB2
   have HP2:=Lib.hid P2
   have HB2:=Lib.hid hB2
   clear c0 c4 k0 k1 k2 k3 k4 k5 k6 hlk
   obtain⟨c0,_,_,_,_⟩:=past_cells P2.len P2.cells
   obtain⟨k0,k1,k2,k3,k4,k5,k6⟩:=hK2.cells
   clear hW2 hB2 hK2 P2
   refine wp_region_tail 11 (by kernel_rfl) (by kernel_rfl) ?_
   simp only[List.take_succ_cons,List.take_zero,List.drop_succ_cons,List.drop_zero]
   repeat still_step
   refine wpStill_nil ?_
   go_wp2_with fail
   refine(padd_any o.key o.fr o.to o.value pb po R s g W2.drew (HP2.out.below (Below.refl _ W2).drew) HA.out HT.out HK.out HR.out (by omega)).mono ?_
   intro e w3 hb3
   have hend:=begun_step hb3 (Fr.new HB2.out.drew) (Grows.refl _ _ _) (Keeps.refl _)
   rw[<-HS.out] at hend
   have HE:=Lib.hid hend
   have he:e= .returned (.tuple #[]):=hb3.choose_spec.1
   subst he
   clear hb3 hend
   go_wp2_with fail
   refine bodyPost_end (results_none rfl _ _ _) rfl ?_
   exact HE.out
structure SLoop (pb po:Nat) (R:Rest) (s:Pst) (g:Gh) (o:OpP) (w3:World) (ids:List Int) (k:Nat) (g' :Gh) (wr:World):Prop where
 at' :PastAt wr pb po R (sayAll o s (ids.take k)) g'
 say:Say s (sayAll o s (ids.take k)) o (ids.drop k)
 am:g'.am.isSome=true
 tm:g'.tm.isSome=true
 fr:Fr (g.foot pb) w3 wr
 gr:Grows g g' pb w3
 kp:Keeps g g'
structure ILoop (pb po:Nat) (R:Rest) (s:Pst) (g:Gh) (k:KeyP) (x:ByteArray) (parts:List (Int×Int)) (w3:World) (j:Nat) (g' :Gh) (wr:World):Prop where
 at' :PastAt wr pb po R (addAll s k x (parts.take j)) g'
 am:g'.am.isSome=true
 tm:g'.tm.isSome=true
 fr:Fr (g.foot pb) w3 wr
 gr:Grows g g' pb w3
 kp:Keeps g g'
structure VBox (W:World) (ob vb sb:Nat) (o:OpP) (v:Ver) (en:Int):Prop where
 op:OBox W ob o
 ver:W.heap[vb]? =some (.cells #[.int .i64 v.key.kind,.int .i64 v.key.a,.string v.key.word,.int .i64 v.key.b,.string v.val,.int .i64 v.bg,.int .i64 en] 221 (0,0))
 span:W.heap[sb]? =some (.cells #[.int .i64 v.fr,.int .i64 v.to] 107 (0,0))
theorem VBox.frame {F:Nat->Prop} {W W' :World} {ob vb sb:Nat} {o:OpP} {v:Ver} {en:Int} (h:VBox W ob vb sb o v en) (hf:Fr F W W') (h1: ¬F ob) (h2: ¬F vb) (h3: ¬F sb):VBox W' ob vb sb o v en:=⟨h.op.frame hf h1,hf.keeps h.ver h2,hf.keeps h.span h3⟩
theorem VBox.vcells {W:World} {ob vb sb:Nat} {o:OpP} {v:Ver} {en:Int} (h:VBox W ob vb sb o v en):W.cell? ⟨vb,0,none⟩=some (.int .i64 v.key.kind)/\W.cell? ⟨vb,1,none⟩=some (.int .i64 v.key.a)/\W.cell? ⟨vb,2,none⟩=some (.string v.key.word)/\W.cell? ⟨vb,3,none⟩=some (.int .i64 v.key.b)/\W.cell? ⟨vb,4,none⟩=some (.string v.val)/\W.cell? ⟨vb,5,none⟩=some (.int .i64 v.bg)/\W.cell? ⟨vb,6,none⟩=some (.int .i64 en):=
 ⟨block_cell h.ver 0,block_cell h.ver 1,block_cell h.ver 2,block_cell h.ver 3,block_cell h.ver 4,block_cell h.ver 5,block_cell h.ver 6⟩
structure TBox (W:World) (ob vb sb:Nat) (o:OpP) (v:Ver):Prop where
 op:OBox W ob o
 val:W.cell? ⟨vb,4,none⟩=some (.string v.val)
 span:W.heap[sb]? =some (.cells #[.int .i64 v.fr,.int .i64 v.to] 107 (0,0))
theorem TBox.frame {F:Nat->Prop} {W W' :World} {ob vb sb:Nat} {o:OpP} {v:Ver} (h:TBox W ob vb sb o v) (hf:Fr F W W') (h1: ¬F ob) (h2: ¬F vb) (h3: ¬F sb):TBox W' ob vb sb o v:=⟨h.op.frame hf h1,hf.cell h.val h2,hf.keeps h.span h3⟩
theorem VBox.toT {W:World} {ob vb sb:Nat} {o:OpP} {v:Ver} {en:Int} (h:VBox W ob vb sb o v en):TBox W ob vb sb o v:=⟨h.op,block_cell h.ver 4,h.span⟩
structure Mid (pb po:Nat) (R:Rest) (g:Gh) (o:OpP) (v:Ver) (w3:World) (ob vb sb:Nat) (bs:Pst) (g9:Gh) (w9:World):Prop where
 at' :PastAt w9 pb po R bs g9
 am:g9.am.isSome=true
 tm:g9.tm.isSome=true
 fr:Fr (g.foot pb) w3 w9
 gr:Grows g g9 pb w3
 kp:Keeps g g9
 box:TBox w9 ob vb sb o v
 no: ∀j,g9.foot pb j->j≠ob/\j<vb
 size:sb<w9.heap.size
theorem mid_of {pb po:Nat} {R:Rest} {s:Pst} {g g' g9:Gh} {o:OpP} {v:Ver} {w3 wr W7 w9:World} {ids:List Int} {k ob vb sb:Nat} {bs:Pst} (hL:SLoop pb po R s g o w3 ids k g' wr) (hB:Below wr.heap.size wr W7)
  (P9:PastAt w9 pb po R bs g9) (ea:g9.am=g'.am) (et:g9.tm=g'.tm) (F9:Fr (g'.foot pb) W7 w9) (hsub: ∀j,g9.foot pb j->g'.foot pb j) (K9:Keeps g' g9) (hX:TBox w9 ob vb sb o v) (hno: ∀j,g'.foot pb j->j≠ob/\j<vb) (hs:sb<w9.heap.size):
  Mid pb po R g o v w3 ob vb sb bs g9 w9:=
 ⟨P9,by rw[ea];exact hL.am,by rw[et];exact hL.tm,(hL.fr.trans (Fr.new hB)).past F9 hL.gr,fun j hj=>hL.gr j (hsub j hj),hL.kp.trans K9,hX,fun j hj=>hno j (hsub j hj),hs⟩
set_option maxRecDepth 100000 in
set_option maxHeartbeats 8000000 in
theorem psays_some (o:OpP) (pb po:Nat) (R:Rest) (s:Pst) (g:Gh) (y:Tr) (w:World) (h:PastAt w pb po R s g) (hW:Wf s) (ha:g.am.isSome=true) (ht:g.tm.isSome=true) (ho:opB o=true) (_hn0:1<=s.now) (_hn1:s.now<=150) (hn:s.next+3<=4000) (hy:treeFor g.ts o.key=some y):
  Calls Tryz.prog 164 #[.pointer (some ⟨pb,po,none⟩),.agg #[.int .i64 o.key.kind,.int .i64 o.key.a,.string o.key.word,.int .i64 o.key.b,.int .i64 o.fr,.int .i64 o.to,.string o.value]] w (Begun pb po R (sayO o s) g w):=by
 have hk:=op_key ho
 have hr:=opB_right ho
 obtain⟨tm,ht'⟩:=Option.isSome_iff_exists.1 ht
 obtain⟨hym,hyk⟩:=treeFor_some hy
 obtain⟨W1,hW1⟩: ∃W1,W1=w.alloc (.cells #[.int .i64 o.key.kind,.int .i64 o.key.a,.string o.key.word,.int .i64 o.key.b,.int .i64 o.fr,.int .i64 o.to,.string o.value] 148):=⟨_,rfl⟩
 have hB1:Below w.heap.size w W1:=by rw[hW1];exact(Below.refl _ w).alloc (Nat.le_refl _) _
 have hK1:OBox W1 w.heap.size o:=by rw[hW1];exact block_alloc_new w _
 have hs1:w.heap.size<W1.heap.size:=by rw[hW1];simp
 have P1:=h.below hB1
 have hlk: ∀n,(Instr.lookup 124 (.map (some tm)) (.agg #[.int .i64 o.key.kind,.int .i64 o.key.a,.string o.key.word,.int .i64 o.key.b]) false).run Tryz.prog (W1.drewN n)= .ok (.pointer (some ⟨y.tb,0,none⟩)) (W1.drewN n):=fun n=>by
  have hT:=P1.trees.frame (Fr.drewN (Fr.refl (fun _=>False) W1) n) (fun _ _ e=>e)
  have:=tree_look hT P1.keyOk hk
  rw[ht',trPtr_some hy] at this
  exact this
 obtain⟨c0,_,_,_,c4⟩:=past_cells P1.len P1.cells
 rw[ht'] at c4
 obtain⟨k0,k1,k2,k3,k4,k5,k6⟩:=hK1.cells
 have HW1:=Lib.hid hW1
 have HB1:=Lib.hid hB1
 have HK1:=Lib.hid hK1
 have HP:=Lib.hid h
 have HA:=Lib.hid ha
 have HT:=Lib.hid ht
 have HK:=Lib.hid hk
 have HR:=Lib.hid hr
 have HO:=Lib.hid ho
 have HW:=Lib.hid hW
 have HYM:=Lib.hid hym
 have HYK:=Lib.hid hyk
 clear hW1 hB1 hK1 h P1 ha ht ht' hy hk hr ho hW hym hyk
 go_enter Tryz.func164,Tryz.ntmps164
 go_wp2_with fail
 rw[<-HW1.out]
 go_quiet (fail)
 revert nq;intro n1
 go_wp2_with fail
 obtain⟨W2,hW2⟩: ∃W2,W2=W1.drewN n1:=⟨_,rfl⟩
 rw[<-hW2]
 have hB2:Below W1.heap.size W1 W2:=by rw[hW2];exact below_drewN' (Below.refl _ _) _
 have hK2:=HK1.out.frame (Fr.new (F:=fun _=>False) hB2) (fun e=>e)
 have hs2:w.heap.size<W2.heap.size:=by have:=hB2.size;omega
 have hBB2:=HB1.out.trans (hB2.mono (by omega))
 have P2:=HP.out.below hBB2
 have HK2:=Lib.hid hK2
 have HP2:=Lib.hid P2
 have HB2:=Lib.hid hBB2
 have T2:TreeAt W2 y.tb (itemsK s.vs o.key) y.t y.mb:=by have:=P2.tree y HYM.out;rw[HYK.out] at this;exact this
 have HT2:=Lib.hid T2
 clear hW2 hB2 hBB2 hK2 P2 T2 c0 c4 k0 k1 k2 k3 k4 k5 k6 hlk
 refine(tmeets_any o.fr o.to W2 y.tb (itemsK s.vs o.key) y.t y.mb HT2.out (by have:=items_len HP.out.ids o.key;omega)).mono ?_
 rintro e w3 ⟨v3,rfl,own3,b3⟩
 obtain⟨ids,hids⟩: ∃ids,ids=hits s o:=⟨_,rfl⟩
 have own3' :w3.ownsRow W2.heap.size 3 1 v3 ids.length (ids.map (Value.int .i64)):=by rw[hids];exact own3
 obtain⟨ao,cap,rfl,hcs⟩:=ownsRow_intsB own3'
 have hlen:ids.length<4000:=by
  have h1:=items_len HP.out.ids o.key
  have h2:=meetsL_length (itemsK s.vs o.key) o.fr o.to
  have h3:ids.length=(meetsL (itemsK s.vs o.key) o.fr o.to).length:=by rw[hids];rfl
  omega
 have P3:=HP2.out.below b3
 have hK3:=HK2.out.frame (Fr.new (F:=fun _=>False) b3) (fun e=>e)
 have hs3:=b3.size
 have hlt0: ∀k,g.foot pb k->k<w.heap.size:=HP.out.lt
 have hB3:Below w.heap.size w w3:=HB2.out.trans (b3.mono (by omega))
 have hst:SLoop pb po R s g o w3 ids 0 g w3:=⟨by simpa [sayAll] using P3,by simpa [sayAll,hids] using Say.start HW.out HR.out,HA.out,HT.out,Fr.refl _ _,Grows.refl _ _ _,Keeps.refl _⟩
 have HST:=Lib.hid hst
 have HIDS:=Lib.hid hids
 have HCS:=Lib.hid hcs
 have HK3:=Lib.hid hK3
 have HB3:=Lib.hid hB3
 have HLT:=Lib.hid hlt0
 clear own3 own3' b3 P3 hK3 hB3 hst hids hcs hlt0
 go_wp2_with fail
 go_loopw [26] (fun i wr=> ∃(k:Nat) (g' :Gh),k<=ids.length/\i= .int .i64 k/\SLoop pb po R s g o w3 ids k g' wr) (fun i _=>ids.length-(intOf i).toNat)
 case atStart=>exact⟨0,g,by omega,rfl,HST.out⟩
 case round=>
  obtain⟨k,g',hk,rfl,hL⟩:=hrel
  obtain⟨sk,hsk⟩: ∃sk,sk=sayAll o s (ids.take k):=⟨_,rfl⟩
  have P:=hL.at'
  have hS:=hL.say
  rw[<-hsk] at P hS
  have hnow:=hS.now
  obtain⟨cl,cr,hcl,hcr,hbud,_,_⟩:=hS.bud
  have hKw:=HK3.out.frame hL.fr (fun e=>by have:=HLT.out _ e;omega)
  have hsw:=hL.fr.size
  have HL:=Lib.hid hL
  have HSK:=Lib.hid hsk
  have HS:=Lib.hid hS
  have HNOW:=Lib.hid hnow
  have HPk:=Lib.hid P
  have HKw:=Lib.hid hKw
  obtain⟨am,ham⟩:=Option.isSome_iff_exists.1 hL.am
  have HAM:=Lib.hid ham
  by_cases hlt:k<ids.length
  · clear hL hsk hS hnow
    obtain⟨id,hid⟩: ∃id,ids[k]? =some id:=⟨_,List.getElem?_eq_getElem hlt⟩
    obtain⟨b,rfl,hbb,hc⟩:=HCS.out k id hid
    have hcw:=HL.out.fr.cell hc (fun e=>by have:=HLT.out _ e;omega)
    have hdrop:ids.drop k=id::ids.drop (k+1):=by
     rw[List.drop_eq_getElem_cons hlt]
     congr 1
     rw[List.getElem?_eq_getElem hlt] at hid
     exact Option.some.inj hid
    have hS1:Say s sk o (id::ids.drop (k+1)):=by rw[<-hdrop];exact HS.out
    obtain⟨v,hv,hvid,hvk,hlo,hhi,hfind⟩:=hS1.found
    subst hvid
    obtain⟨y',hym',hyk',hyb'⟩:=HL.out.kp y HYM.out
    have hyo:y'.key=o.key:=hyk'.trans HYK.out
    have hrng:=P.ids.rng v hv
    have hib:i64 v.id:=⟨by omega,by omega⟩
    have hvl:(Instr.lookup 123 (.map (some am)) (.int .i64 v.id) false).run Tryz.prog wr= .ok (.agg #[.int .i64 v.key.kind,.int .i64 v.key.a,.string v.key.word,.int .i64 v.key.b,.string v.val,.int .i64 v.bg,.int .i64 v.en]) wr:=by
     have:=P.vers
     rw[ham] at this
     exact ver_look this hv hib
    have hsn:=sayAll_snoc o s ids k v.id hid
    rw[<-HSK.out] at hsn
    have hst:=hS1.step HR.out
    obtain⟨c0,_,_,c3,_⟩:=past_cells P.len P.cells
    rw[ham] at c3
    obtain⟨k0,k1,k2,k3,k4,k5,k6⟩:=hKw.cells
    have hwb:w.heap.size<wr.heap.size:=by omega
    have hbw:b<wr.heap.size:=World.block_lt_of_cell? wr _ hcw
    have HSN:=Lib.hid hsn
    have HST2:=Lib.hid hst
    have HFIND:=Lib.hid hfind
    have HV:=Lib.hid hv
    have HVK:=Lib.hid hvk
    have HYM' :=Lib.hid hym'
    have HYO:=Lib.hid hyo
    have HYB:=Lib.hid hyb'
    have HIB:=Lib.hid hib
    have HS1:=Lib.hid hS1
    clear hsn hst hfind hv hvk hym' hyo hyb' hyk' hib hS1 hdrop hid hc hrng P ham hKw
    by_cases hen:0<v.en
    · have hend: ∀(W:World),Below wr.heap.size wr W->SLoop pb po R s g o w3 ids (k+1) g' W:=fun W hB=>by
       have e:sayAll o s (ids.take (k+1))=sk:=by rw[HSN.out];exact sayId_skip HFIND.out hen
       refine⟨by rw[e];exact HPk.out.below hB,?_,HL.out.am,HL.out.tm,HL.out.fr.trans (Fr.new hB),HL.out.gr,HL.out.kp⟩
       have:=HST2.out
       rw[sayId_skip HFIND.out hen] at this
       rw[e];exact this
      have HE:=Lib.hid hend
      clear hend
      go_wp2_with fail
      go_roundw
      case rel=>exact⟨k+1,g',by omega,by go_num,HE.out _ ((Below.refl _ _).alloc (Nat.le_refl _) _)⟩
      case measure=>simp[intOf];omega
    · have hen0:decide (0<v.en)=false:=by simpa using hen
      have hve:v.en=0:=(HS.out.wf.live HV.out).1 hen
      have hsc:sayId o sk v.id=cutV sk o v:=sayId_cut HFIND.out hen
      have hcut:Cuts sk o v:=by
       obtain⟨u,u1,u2,u3,u4,u5,u6⟩:=HS1.out.found
       have:u=v:=HS.out.wf.same u1 HV.out u2
       subst this
       exact⟨u1,u3,hve,u4,u5⟩
      obtain⟨W4,hW4⟩: ∃W4,W4=wr.alloc (.cells #[.int .i64 v.key.kind,.int .i64 v.key.a,.string v.key.word,.int .i64 v.key.b,.string v.val,.int .i64 v.bg,.int .i64 v.en] 221):=⟨_,rfl⟩
      have hB4:Below wr.heap.size wr W4:=by rw[hW4];exact(Below.refl _ _).alloc (Nat.le_refl _) _
      have hs4:W4.heap.size=wr.heap.size+1:=by rw[hW4];simp
      have hv4:W4.heap[wr.heap.size]? =some (.cells #[.int .i64 v.key.kind,.int .i64 v.key.a,.string v.key.word,.int .i64 v.key.b,.string v.val,.int .i64 v.bg,.int .i64 v.en] 221 (0,0)):=by rw[hW4];exact block_alloc_new wr _
      have hT4:TreeAt W4 y.tb (itemsK sk.vs v.key) y'.t y'.mb:=by
       have:=(HPk.out.below hB4).tree y' HYM'.out
       rw[HYO.out, <-HVK.out,HYB.out] at this
       exact this
      have hmi:(v.fr,v.id,v.to)∈itemsK sk.vs v.key:=mem_itemsK.2 ⟨v,HV.out,rfl,rfl⟩
      have HW4:=Lib.hid hW4
      have HB4:=Lib.hid hB4
      have HS4:=Lib.hid hs4
      have HV4:=Lib.hid hv4
      have HT4:=Lib.hid hT4
      have HMI:=Lib.hid hmi
      have HSC:=Lib.hid hsc
      have HCUT:=Lib.hid hcut
      have HVE:=Lib.hid hve
      clear hen hve hsc hcut hW4 hB4 hs4 hv4 hT4 hmi
      go_wp2_with fail
      rw[<-HW4.out]
      refine(tspan_has v.id v.fr v.to HIB.out W4 y.tb (itemsK sk.vs v.key) y'.t y'.mb HT4.out HMI.out).mono ?_
      rintro e w5 ⟨rfl,b5⟩
      have hs5:=b5.size
      have HB5:=Lib.hid b5
      clear b5 c0 c3 k0 k1 k2 k3 k4 k5 k6 hvl
      go_wp2_with fail
      obtain⟨W6,hW6⟩: ∃W6,W6=w5.alloc (.cells #[.int .i64 v.fr,.int .i64 v.to] 107):=⟨_,rfl⟩
      rw[<-hW6]
      obtain⟨vb,hvb⟩: ∃vb,vb=wr.heap.size:=⟨_,rfl⟩
      obtain⟨sb,hsb⟩: ∃sb,sb=w5.heap.size:=⟨_,rfl⟩
      rw[<-hvb, <-hsb]
      have hs6:W6.heap.size=sb+1:=by rw[hW6,hsb];simp
      have hvs:vb<sb:=by rw[hvb,hsb];have:=HS4.out;omega
      have hB6:Below wr.heap.size wr W6:=by rw[hW6];exact(HB4.out.trans (HB5.out.mono (by rw[HS4.out];omega))).alloc (by have:=HS4.out;omega) _
      have hX6:VBox W6 w.heap.size vb sb o v v.en:=by
       refine⟨HKw.out.frame (Fr.new (F:=fun _=>False) hB6) (fun e=>e),?_,?_⟩
       · rw [hW6,hvb]
         refine block_alloc ?_ _
         exact(Fr.new (F:=fun _=>False) HB5.out).keeps HV4.out (fun e=>e)
       · rw[hW6,hsb];exact block_alloc_new w5 _
      have P6:=HPk.out.below hB6
      obtain⟨c0,_,_,c3,_⟩:=past_cells P6.len P6.cells
      rw[HAM.out] at c3
      obtain⟨v0,v1,v2,v3,v4,v5,v6⟩:=hX6.vcells
      have HX6:=Lib.hid hX6
      have HP6:=Lib.hid P6
      have HS6:=Lib.hid hs6
      have HVB:=Lib.hid hvb
      have HSB:=Lib.hid hsb
      have HB6:=Lib.hid hB6
      clear hX6 P6 hs6 hvb hsb hB6 hW6
      have hno: ∀j,g'.foot pb j->j≠w.heap.size/\j<vb:=fun j hj=>by
       refine⟨fun e=> ?_,by rw[HVB.out];exact HPk.out.lt j hj⟩
       rcases HL.out.gr j hj with e1|e1
       · have:=HLT.out _ e1;omega
       · omega
      have hyf: ∀j,y'.foot j->g'.foot pb j:=fun j hj=> .inr (.inr (.inr ⟨y',HYM'.out,hj⟩))
      obtain⟨bs,hbs⟩: ∃bs,bs=(if v.bg=sk.now then dropV sk v.id else endV sk v.id):=⟨_,rfl⟩
      have HNO:=Lib.hid hno
      have HYF:=Lib.hid hyf
      have HBS:=Lib.hid hbs
      clear hno hyf hbs
      rcases Decidable.em (v.bg=sk.now) with hbg|hbg
      focus
       have hbq:(v.bg==sk.now)=true:=by simpa using hbg
       have e1:bs=dropV sk v.id:=by rw[HBS.out,if_pos hbg]
       have E1:=Lib.hid e1
       clear hbg e1
       go_quiet (fail)
       revert nq;intro n2
       go_wp2_with fail
       obtain⟨W7,hW7⟩: ∃W7,W7=W6.drewN n2:=⟨_,rfl⟩
       rw[<-hW7]
       have hB7:Below W6.heap.size W6 W7:=by rw[hW7];exact below_drewN' (Below.refl _ _) _
       have P7:=HP6.out.below hB7
       have hX7:=HX6.out.frame (Fr.new (F:=fun _=>False) hB7) (fun e=>e) (fun e=>e) (fun e=>e)
       have T7:TreeAt W7 y.tb ((v.fr,v.id,v.to)::itemsK (dropV sk v.id).vs v.key) y'.t y'.mb:=by
        have:=P7.tree y' HYM'.out
        rw[HYO.out, <-HVK.out,HYB.out] at this
        exact this.perm' (items_drop HPk.out.ids.nod HV.out)
       have hs7:W7.heap.size=sb+1:=by rw[hW7];exact HS6.out
       have HP7:=Lib.hid P7
       have HX7:=Lib.hid hX7
       have HT7:=Lib.hid T7
       have HB7:=Lib.hid hB7
       have HS7:=Lib.hid hs7
       clear hW7 hB7 P7 hX7 T7 hs7 c0 c3 v0 v1 v2 v3 v4 v5 v6
       refine(tdrop_ok v.id v.fr v.to HIB.out W7 y.tb (itemsK (dropV sk v.id).vs v.key) y'.t y'.mb HT7.out (by have:=items_len (HPk.out.ids.drop v.id) v.key;have:(dropV sk v.id).next=sk.next:=rfl;omega)).mono ?_
       rintro e w8 ⟨t8,m8,rfl,T8,F8,G8⟩
       have F8' :Fr y'.foot W7 w8:=by unfold Tr.foot;rw[HYB.out];exact F8
       have T8' :TreeAt w8 y'.tb (itemsK (dropV sk v.id).vs v.key) t8 m8:=by rw[HYB.out];exact T8
       have G8' : ∀j,Go.Proofs.YtpgkjnebklknjaaGreatDoor.foot y'.tb t8 m8 j->y'.foot j:=fun j hj=>by unfold Tr.foot;rw[HYB.out] at hj ⊢;exact G8 j hj
       have hc8:=F8'.keeps HP7.out.cells (fun e=>(HP7.out.ne y' HYM'.out pb e).1 rfl)
       have hX8:=HX7.out.frame F8' (fun e=>(HNO.out _ (HYF.out _ e)).1 rfl) (fun e=>by have:=(HNO.out _ (HYF.out _ e)).2;omega) (fun e=>by have:=(HNO.out _ (HYF.out _ e)).2;omega)
       have hv8:=HP7.out.vers.frame F8' (fun j e e' =>(HP7.out.ne y' HYM'.out j e').2.1 e)
       rw[HAM.out] at hv8
       obtain⟨D,hown,hD⟩:=hv8
       have hs8:=F8'.size
       have HT8:=Lib.hid T8'
       have HF8:=Lib.hid F8'
       have HG8:=Lib.hid G8'
       have HD:=Lib.hid hD
       have HX8:=Lib.hid hX8
       have HS8:=Lib.hid hs8
       obtain⟨_,_,_,c3,_⟩:=past_cells HP7.out.len hc8
       rw[HAM.out] at c3
       have hamb:=HPk.out.lt am (.inr (.inl HAM.out))
       have hamo:=HNO.out am (.inr (.inl HAM.out))
       have HAMB:=Lib.hid (And.intro hamb hamo)
       clear T8 F8 G8 F8' T8' G8' hD hX8 hs8 hc8 hamb hamo
       go_wp2_with (at_delete;refine wpList_delete_own _ rfl _ _ 123 3 rfl 221 intLaw Tryz.underlying123 verR am sk.vs.length D rfl hown _ _ rfl (keyOf_int_mk Tryz.underlying3 (wfI HIB.out)) ?_;intro w9 hown9 hturn9;have F9:Fr (· =am) w8 w9:=Fr.ofGrown hturn9.grown;obtain⟨g9,P9,a9,t9,F9',G9,K9⟩:=past_drop HP7.out HAM.out HYM'.out (HYO.out.trans HVK.out.symm) HV.out HT8.out HF8.out HG8.out HD.out hown9 F9;have hX9:=HX8.out.toT.frame F9 (fun e=>HAMB.out.2.1 e.symm) (fun e=>by have:=HAMB.out.2.2;omega) (fun e=>by have:=HAMB.out.2.2;omega);have hs9:=F9.size;have HP9:=Lib.hid P9;have HA9:=Lib.hid a9;have HT9:=Lib.hid t9;have HF9:=Lib.hid F9';have HG9:=Lib.hid G9;have HK9:=Lib.hid K9;have HX9:=Lib.hid hX9;have HS9:=Lib.hid hs9;obtain⟨_,_,_,_,k4,k5,_⟩:=hX9.op.cells;obtain⟨q0,q1⟩:=cells2 hX9.span;clear hown9 hturn9 F9 P9 a9 t9 F9' G9 K9 hX9 hs9 c3)
       have hmid:Mid pb po R g o v w3 w.heap.size vb sb bs g9 w9:=mid_of HL.out (HB6.out.trans (HB7.out.mono (by have:=HS6.out;have:=HVB.out;omega))) (by rw[E1.out];exact HP9.out) HA9.out HT9.out HF9.out HG9.out HK9.out HX9.out HNO.out (by have:=HS9.out;have:=HS8.out;have:=HS7.out;omega)
       have HM:=Lib.hid hmid
       clear hmid
      rotate_left
      focus
       have hbq:(v.bg==sk.now)=false:=by simpa using hbg
       have e1:bs=endV sk v.id:=by rw[HBS.out,if_neg hbg]
       have E1:=Lib.hid e1
       clear hbg e1
       have f6:W6.frozen? ⟨vb,6,none⟩=false:=block_free HX6.out.ver 6
       have hvl6:vb<W6.heap.size:=by have:=HS6.out;omega
       go_quiet (fail)
       revert nq;intro n2
       go_wp2_with fail
       obtain⟨W8,hW8⟩: ∃W8,W8=(W6.drewN n2).setCell ⟨vb,6,none⟩ (.int .i64 sk.now):=⟨_,rfl⟩
       rw[<-hW8]
       have hF8:Fr (· =vb) W6 W8:=by rw[hW8];exact Fr.setCell (F:=(· =vb)) (Fr.drewN (Fr.refl _ W6) n2) (p:=⟨vb,6,none⟩) (fun _=>rfl) _
       have hX8:VBox W8 w.heap.size vb sb o v sk.now:=by
        have hv:=HX6.out.ver
        refine⟨HX6.out.op.frame hF8 (fun e=>by have:=HVB.out;omega),?_,hF8.keeps HX6.out.span (fun e=>by omega)⟩
        rw[hW8]
        exact block_set (w:=W6.drewN n2) hv 6 (.int .i64 sk.now)
       have P8:=HP6.out.frame hF8 (fun j hj e=>by have:=(HNO.out j hj).2;omega)
       have hs8:W8.heap.size=sb+1:=by rw[hW8];simpa using HS6.out
       have hB8:Below wr.heap.size wr W8:=HB6.out.trans (hF8.below (B:=wr.heap.size) (fun j _ e=>by rw[e,HVB.out];exact Nat.le_refl _) (by have:=HS6.out;have:=HVB.out;omega))
       have hv8:=P8.vers
       rw[HAM.out] at hv8
       obtain⟨D,hown,hD⟩:=hv8
       have HP8:=Lib.hid P8
       have HX8:=Lib.hid hX8
       have HB8:=Lib.hid hB8
       have HS8:=Lib.hid hs8
       have HD:=Lib.hid hD
       clear c0 c3 v0 v1 v2 v3 v4 v5 v6 f6
       obtain⟨_,_,_,c3,_⟩:=past_cells P8.len P8.cells
       rw[HAM.out] at c3
       obtain⟨v0,v1,v2,v3,v4,v5,v6⟩:=hX8.vcells
       have hamo:=HNO.out am (.inr (.inl HAM.out))
       have hl:=HPk.out.ids.len
       have HAMB:=Lib.hid hamo
       clear hW8 hF8 hX8 P8 hs8 hB8 hD hamo hvl6
       refine wp_region_tail 6 (by kernel_rfl) (by kernel_rfl) ?_
       simp only[List.take_succ_cons,List.take_zero,List.drop_succ_cons,List.drop_zero]
       repeat still_step
       refine wpStill_nil ?_
       go_wp2_with (at_mapUpdate;refine wpList_mapUpdate_own _ rfl _ _ _ 123 rfl 3 221 intLaw Tryz.underlying123 verR am sk.vs.length D rfl (World.ownsMap.drew hown) (by unfold maxLen;omega) _ _ _ rfl rfl (keyOf_int_mk Tryz.underlying3 (wfI HIB.out)) (verD { v with en:=sk.now }) [] rfl ?_;intro w9 hown9 hgrow9;have F9:Fr (· =am) W8 w9:=(Fr.drew (Fr.refl _ W8)).trans (Fr.ofGrown hgrow9);obtain⟨P9,F9'⟩:=past_end HP8.out HAM.out HV.out HD.out hown9 F9;have hX9:=HX8.out.toT.frame F9 (fun e=>HAMB.out.1 e.symm) (fun e=>by have:=HAMB.out.2;omega) (fun e=>by have:=HAMB.out.2;omega);have hs9:=F9.size;have HP9:=Lib.hid P9;have HF9:=Lib.hid F9';have HX9:=Lib.hid hX9;have HS9:=Lib.hid hs9;obtain⟨_,_,_,_,k4,k5,_⟩:=hX9.op.cells;obtain⟨q0,q1⟩:=cells2 hX9.span;clear hown9 hgrow9 F9 P9 F9' hX9 hs9 c3 v0 v1 v2 v3 v4 v5 v6)
       obtain⟨g9,hg9⟩: ∃g9,g9=g' :=⟨_,rfl⟩
       have hmid:Mid pb po R g o v w3 w.heap.size vb sb bs g9 w9:=by
        rw[hg9]
        exact mid_of HL.out HB8.out (by rw[E1.out];exact HP9.out) rfl rfl HF9.out (fun _ e=>e) (Keeps.refl _) HX9.out HNO.out (by have:=HS9.out;have:=HS8.out;omega)
       have HM:=Lib.hid hmid
       clear hmid
      all_goals
       clear k4 k5 q0 q1
       have hm:=HM.out
       refine(less_any v.fr v.to o.fr o.to w9).mono ?_
       rintro e w10 ⟨v10,rfl,own10,b10⟩
       obtain⟨parts,hparts⟩: ∃parts,parts=lessL v.fr v.to o.fr o.to:=⟨_,rfl⟩
       rw[<-hparts] at own10
       obtain⟨ao2,cap2,rfl,hps⟩:=ownsRow_spansB own10
       have P10:=hm.at'.below b10
       have hX10:=hm.box.frame (Fr.new (F:=fun _=>False) b10) (fun e=>e) (fun e=>e) (fun e=>e)
       have hs10:=b10.size
       have hI0:ILoop pb po R bs g9 o.key v.val parts w10 0 g9 w10:=⟨by simpa [addAll] using P10,hm.am,hm.tm,Fr.refl _ _,Grows.refl _ _ _,Keeps.refl _⟩
       have hbs:cutV sk o v=addAll bs o.key v.val parts:=by rw[hparts,HBS.out];rfl
       have hpr: ∀p∈parts,rightB p.1 p.2=true:=by
        have:=(cut_parts HS.out.wf HCUT.out HR.out).right
        rw[<-hparts] at this;exact this
       have hpl:parts.length<=2:=by rw[hparts];exact lessL_le _ _ _ _
       have hbn:(addAll bs o.key v.val parts).next<=s.next+2:=by
        obtain⟨x1,x2,x3,x4,x5,_,_⟩:=HST2.out.bud
        rw[HSC.out,hbs] at x5
        omega
       rw[addAll_next] at hbn
       have hlt9: ∀j,g9.foot pb j->j<w9.heap.size:=hm.at'.lt
       have hs9' :=hm.size
       have hfr10:Fr (g.foot pb) w3 w10:=hm.fr.trans (Fr.new b10)
       have HI0:=Lib.hid hI0
       have HBN:=Lib.hid hbs
       have HPR:=Lib.hid hpr
       have HX10:=Lib.hid hX10
       have HPS:=Lib.hid hps
       have HLT9:=Lib.hid hlt9
       have HFR10:=Lib.hid hfr10
       have HPARTS:=Lib.hid hparts
       have hno9:=hm.no
       have HNO9:=Lib.hid hno9
       clear own10 b10 P10 hX10 hI0 hbs hpr hps hlt9 hfr10 hparts hno9 hm
       go_wp2_with fail
       obtain⟨wo,rfl⟩: ∃wo:World,wo=wr:=⟨_,rfl⟩
       go_loopw [76] (fun i wi=> ∃(j:Nat) (gi:Gh),j<=parts.length/\i= .int .i64 j/\ILoop pb po R bs g9 o.key v.val parts w10 j gi wi) (fun i _=>parts.length-(intOf i).toNat)
       case atStart=>exact⟨0,g9,by omega,rfl,HI0.out⟩
       case round=>
        obtain⟨j,gi,hj,rfl,hIL⟩:=hrel
        have HIL:=Lib.hid hIL
        clear hIL
        by_cases hjl:j<parts.length
        · obtain⟨x1,x2,hx⟩: ∃x1 x2,parts[j]? =some (x1,x2):=⟨parts[j].1,parts[j].2,List.getElem?_eq_getElem hjl⟩
          obtain⟨b2,rfl,hb2,d0,d1⟩:=HPS.out j x1 x2 hx
          have d0:=HIL.out.fr.cell d0 (fun e=>by have:=HLT9.out _ e;omega)
          have d1:=HIL.out.fr.cell d1 (fun e=>by have:=HLT9.out _ e;omega)
          have hb2w:b2<wr.heap.size:=World.block_lt_of_cell? wr _ d0
          have hrx:rightB x1 x2=true:=HPR.out (x1,x2) (List.mem_of_getElem? hx)
          have hsx:=addAll_snoc bs o.key v.val parts j x1 x2 hx
          have HRX:=Lib.hid hrx
          have HSX:=Lib.hid hsx
          clear hrx hsx hx
          go_wp2_with fail
          obtain⟨W11,hW11⟩: ∃W11,W11=wr.alloc (.cells #[.int .i64 x1,.int .i64 x2] 107):=⟨_,rfl⟩
          rw[<-hW11]
          have hB11:Below wr.heap.size wr W11:=by rw[hW11];exact(Below.refl _ _).alloc (Nat.le_refl _) _
          have hxb:W11.heap[wr.heap.size]? =some (.cells #[.int .i64 x1,.int .i64 x2] 107 (0,0)):=by rw[hW11];exact block_alloc_new wr _
          have P11:=HIL.out.at'.below hB11
          have hX11:=(HX10.out.frame HIL.out.fr (fun e=>(HNO9.out _ e).1 rfl) (fun e=>by have:=(HNO9.out _ e).2;omega) (fun e=>by have:=(HNO9.out _ e).2;omega)).frame (Fr.new (F:=fun _=>False) hB11) (fun e=>e) (fun e=>e) (fun e=>e)
          have F11:Fr (g9.foot pb) w10 W11.drew:=(HIL.out.fr.trans (Fr.new hB11)).drew
          have HP11:=Lib.hid P11
          have HF11:=Lib.hid F11
          obtain⟨c0,_,_,_,_⟩:=past_cells P11.len P11.cells
          obtain⟨k0,k1,k2,k3,_,_,_⟩:=hX11.op.cells
          obtain⟨y0,y1⟩:=cells2 hxb
          have v4:=hX11.val
          have hnx:(addAll bs o.key v.val (parts.take j)).next<4000:=by
           rw[addAll_next,List.length_take]
           omega
          clear hW11 hB11 hxb P11 hX11 F11 d0 d1
          refine wp_region_tail 10 (by kernel_rfl) (by kernel_rfl) ?_
          simp only[List.take_succ_cons,List.take_zero,List.drop_succ_cons,List.drop_zero]
          repeat still_step
          refine wpStill_nil ?_
          go_wp2_with fail
          refine(padd_any o.key x1 x2 v.val pb po R _ gi W11.drew (HP11.out.below (Below.refl _ W11).drew) HIL.out.am HIL.out.tm HK.out HRX.out hnx).mono ?_
          rintro e w12 ⟨g12,rfl,P12,a12,t12,F12,G12,K12⟩
          have hI:ILoop pb po R bs g9 o.key v.val parts w10 (j+1) g12 w12:=⟨by rw[HSX.out];exact P12,a12,t12,HF11.out.past F12 HIL.out.gr,HIL.out.gr.trans G12 HF11.out.size,HIL.out.kp.trans K12⟩
          have HI:=Lib.hid hI
          clear P12 a12 t12 F12 G12 K12 hI c0 k0 k1 k2 k3 y0 y1 v4 hnx
          go_wp2_with fail
          go_roundw
          case rel=>exact⟨j+1,g12,by omega,by go_num,HI.out⟩
          case measure=>simp[intOf];omega
        · have hje:parts.take j=parts:=List.take_of_length_le (by omega)
          have e2:sayAll o s (ids.take (k+1))=addAll bs o.key v.val (parts.take j):=by rw[HSN.out,HSC.out,HBN.out,hje]
          have hend:SLoop pb po R s g o w3 ids (k+1) gi wr:=by
           refine⟨by rw[e2];exact HIL.out.at',?_,HIL.out.am,HIL.out.tm,HFR10.out.past HIL.out.fr HM.out.gr,HM.out.gr.trans HIL.out.gr HFR10.out.size,HM.out.kp.trans HIL.out.kp⟩
           have:=HST2.out
           rw[<-HSN.out] at this
           exact this
          have HE:=Lib.hid hend
          clear hje e2 hend
          go_wp2_with fail
          go_roundw
          case rel=>exact⟨k+1,gi,by omega,by go_num,HE.out⟩
          case measure=>simp[intOf];omega
  · clear hL hsk hS hnow
    have hkl:k=ids.length:=by omega
    have hsa:sk=sayAll o s (hits s o):=by rw[HSK.out,hkl,List.take_of_length_le (Nat.le_refl _),HIDS.out]
    have HSA:=Lib.hid hsa
    obtain⟨c0,_,_,_,_⟩:=past_cells P.len P.cells
    obtain⟨k0,k1,k2,k3,k4,k5,k6⟩:=hKw.cells
    have hfr:Fr (g.foot pb) w wr:=(Fr.new HB3.out).trans HL.out.fr
    have hgr:Grows g g' pb w:=fun j hj=>by
     rcases HL.out.gr j hj with e|e
     · exact .inl e
     · exact .inr (by have:=HB3.out.size;omega)
    have HFR:=Lib.hid hfr
    have HGR:=Lib.hid hgr
    clear hsa hkl P hKw ham hfr hgr
    by_cases h0:o.value.size=0
    · have hs:sayO o s=sk:=by unfold sayO;rw[if_pos h0,HSA.out]
      have hv1:=empty_true h0
      have hv2:(!o.value.toList.isEmpty)=false:=by rw[hv1];rfl
      have HE:Hid (Begun pb po R (sayO o s) g w (.returned (.tuple #[])) wr):=Lib.hid ⟨g',rfl,by rw[hs];exact HPk.out,HL.out.am,HL.out.tm,HFR.out,HGR.out,HL.out.kp⟩
      clear hs h0
      go_wp2_with fail
      refine bodyPost_end (results_none rfl _ _ _) rfl ?_
      exact HE.out
    · have hs:sayO o s=addV sk o.key o.fr o.to o.value:=by unfold sayO;rw[if_neg h0,HSA.out]
      have hv1:=empty_false h0
      have hv2:(!o.value.toList.isEmpty)=true:=by rw[hv1];rfl
      have HS' :=Lib.hid hs
      clear hs h0
      go_wp2_with fail
      refine wp_region_tail 11 (by kernel_rfl) (by kernel_rfl) ?_
      simp only[List.take_succ_cons,List.take_zero,List.drop_succ_cons,List.drop_zero]
      repeat still_step
      refine wpStill_nil ?_
      go_wp2_with fail
      refine(padd_any o.key o.fr o.to o.value pb po R sk g' wr.drew (HPk.out.below (Below.refl _ wr).drew) HL.out.am HL.out.tm HK.out HR.out (by omega)).mono ?_
      intro e w4 hb4
      have hend:=begun_step hb4 HFR.out.drew HGR.out HL.out.kp
      rw[<-HS'.out] at hend
      have HE:=Lib.hid hend
      have he:e= .returned (.tuple #[]):=hb4.choose_spec.1
      subst he
      clear hb4 hend
      go_wp2_with fail
      refine bodyPost_end (results_none rfl _ _ _) rfl ?_
      exact HE.out
theorem psays_any (o:OpP) (pb po:Nat) (R:Rest) (s:Pst) (g:Gh) (w:World) (h:PastAt w pb po R s g) (hW:Wf s) (ha:g.am.isSome=true) (ht:g.tm.isSome=true) (ho:opB o=true) (hn0:1<=s.now) (hn1:s.now<=150) (hn:s.next+3<=4000):
  Calls Tryz.prog 164 #[.pointer (some ⟨pb,po,none⟩),.agg #[.int .i64 o.key.kind,.int .i64 o.key.a,.string o.key.word,.int .i64 o.key.b,.int .i64 o.fr,.int .i64 o.to,.string o.value]] w (Begun pb po R (sayO o s) g w):=by
 cases hy:treeFor g.ts o.key with
 | none=>exact psays_none o pb po R s g w h ha ht ho hn hy
 | some y=>exact psays_some o pb po R s g y w h hW ha ht ho hn0 hn1 hn hy
def okL (l:List OpP):Bool:=lenB l && l.all opB
theorem okL_iff {l:List OpP}:okL l=true↔(1<=l.length/\l.length<=8)/\l.all opB=true:=by unfold okL lenB;simp
theorem okL_write {l:List OpP} (h:okL l=true):writeR l=(writeT l,0, -1):=by
 have:=okL_iff.1 h
 exact writeR_good (by unfold lenB;simpa using this.1) this.2
theorem okL_not {l:List OpP} (h:okL l=false):(writeR l).2.1≠0:=by
 unfold okL at h
 cases h1:lenB l with
 | false=>rw[writeR_len h1];decide
 | true=>
   rw[h1,Bool.true_and] at h
   unfold writeR
   rw[if_pos h1,if_neg (by rw[h];decide)]
   show(1:Int)≠0
   decide
def PDone (v:Value) (pb po:Nat) (R:Rest) (s:Pst) (g:Gh) (w:World) (e:Ending) (w' :World):Prop:=
 ∃g',e= .returned v/\PastAt w' pb po R s g' /\Fr (g.foot pb) w w' /\Grows g g' pb w
structure CLoop (pb po:Nat) (R:Rest) (s:Pst) (g:Gh) (l:List OpP) (w:World) (k:Nat) (g' :Gh) (wr:World):Prop where
 at' :PastAt wr pb po R ((l.take k).foldl (fun s o=>sayO o s) (beginP s)) g'
 wf:Wf ((l.take k).foldl (fun s o=>sayO o s) (beginP s))
 next:((l.take k).foldl (fun s o=>sayO o s) (beginP s)).next<=s.next+3*k
 now:((l.take k).foldl (fun s o=>sayO o s) (beginP s)).now=s.now+1
 am:g'.am.isSome=true
 tm:g'.tm.isSome=true
 fr:Fr (g.foot pb) w wr
 gr:Grows g g' pb w
theorem fold_snoc {l:List OpP} {k:Nat} {o:OpP} (h:l[k]? =some o) (s:Pst):(l.take (k+1)).foldl (fun s o=>sayO o s) s=sayO o ((l.take k).foldl (fun s o=>sayO o s) s):=by
 rw[List.take_succ_eq_append_getElem (List.getElem?_eq_some_iff.1 h).1,List.foldl_append,(List.getElem?_eq_some_iff.1 h).2];rfl
def SepOps (ao:Option Addr) (g:Gh) (pb:Nat):Prop:= ∀b f,ao=some ⟨b,f,none⟩-> ¬g.foot pb b
set_option maxRecDepth 100000 in
set_option maxHeartbeats 4000000 in
theorem pcommit_ok (ao:Option Addr) (c:Nat) (l:List OpP) (pb po:Nat) (R:Rest) (s:Pst) (g:Gh) (w:World) (h:PastAt w pb po R s g) (hW:Wf s) (hl:opsAt w ao l) (hsep:SepOps ao g pb) (hg:PowTab w) (hok:okL l=true) (hn1:s.now<150) (hn:s.next+24<=4000):
  Calls Tryz.prog 114 #[.pointer (some ⟨pb,po,none⟩),.slice ao l.length c] w (PDone .nilIface pb po R (commitP l s) g w):=by
 obtain⟨hlen,hall⟩:=okL_iff.1 hok
 have hwr:=okL_write hok
 have hsz: ∀o∈l,o.key.word.size<=100000/\o.value.size<=100000:=fun o ho=>by
  have h1:=List.all_eq_true.1 hall o ho
  have h2:=(wfkey (op_key h1)).2
  rcases op_value h1 with h3|h3
  · omega
  · unfold wordB at h3;simp at h3;omega
 have hm:l.length<=maxLen:=by unfold maxLen;omega
 have hfw:=fwrite_any ao c l w hl hm hsz hg
 rw[hwr] at hfw
 have HFW:=Lib.hid hfw
 have HP:=Lib.hid h
 have HW:=Lib.hid hW
 have HL:=Lib.hid hl
 have HSEP:=Lib.hid hsep
 have HALL:=Lib.hid hall
 have hn0:=hW.now0
 clear h hW hl hsep hg hok hall hwr hsz hm hfw
 go_enter Tryz.func114,Tryz.ntmps114
 go_wp2_with fail
 refine HFW.out.mono ?_
 rintro e w1 ⟨⟨v,rfl,_,hnil⟩,b1⟩
 have hv:v= .nilIface:=by
  rcases hnil with h|h
  · exact h.1
  · exact absurd rfl h.2
 subst hv
 have P1:=HP.out.below b1
 have HP1:=Lib.hid P1
 have HB1:=Lib.hid b1
 obtain⟨c0,_,_,_,_⟩:=past_cells P1.len P1.cells
 clear b1 P1 hnil
 go_wp2_with fail
 refine(pbegin_any pb po R s g w1 HP1.out).mono ?_
 rintro e w2 ⟨g2,rfl,P2,a2,t2,F2,G2,_⟩
 clear c0
 obtain⟨c0,_,_,_,_⟩:=past_cells P2.len P2.cells
 have f0:=past_free P2.cells po
 have hpb2:=lt_of_block P2.cells
 have hF2:Fr (g.foot pb) w w2:=(Fr.new HB1.out).trans F2
 have hG2:Grows g g2 pb w:=fun j hj=>by
  rcases G2 j hj with e|e
  · exact .inl e
  · exact .inr (by have:=HB1.out.size;omega)
 obtain⟨P3,F3⟩:=PastI.place (s' :=beginP s) (i:=po) (v:= .int .i64 (s.now+1)) P2.toPastI (by rw[pcells_set0 P2.len];rfl) ⟨P2.ids.nod,P2.ids.rng,P2.ids.key,P2.ids.next0,P2.ids.len⟩ rfl
 have hst:CLoop pb po R s g l w 0 g2 (w2.setCell ⟨pb,po,none⟩ (.int .i64 (s.now+1))):=⟨⟨P3,P2.tlen⟩,HW.out.begin,by simp[beginP],by simp[beginP],a2,t2,hF2.past F3 hG2,hG2⟩
 have HST:=Lib.hid hst
 clear P2 a2 t2 F2 G2 hF2 hG2 P3 F3 hst
 go_wp2_with fail
 go_loopw [34] (fun i wr=> ∃(k:Nat) (g' :Gh),k<=l.length/\i= .int .i64 k/\CLoop pb po R s g l w k g' wr) (fun i _=>l.length-(intOf i).toNat)
 case atStart=>exact⟨0,g2,by omega,rfl,HST.out⟩
 case round=>
  obtain⟨k,g',hk,rfl,hL⟩:=hrel
  have HCL:=Lib.hid hL
  clear hL c0 f0
  by_cases hlt:k<l.length
  · obtain⟨o,ho⟩: ∃o,l[k]? =some o:=⟨_,List.getElem?_eq_getElem hlt⟩
    obtain⟨b,f,rfl,hcs⟩:=HL.out k o ho
    have hnb:=HSEP.out b f rfl
    have q: ∀j u,(opCells o)[j]? =some u->wr.cell? ⟨b,f+k*7+j,none⟩=some u:=fun j u hj=>HCL.out.fr.cell (hcs j u hj) hnb
    have q0:=q 0 _ rfl
    have q1:=q 1 _ rfl
    have q2:=q 2 _ rfl
    have q3:=q 3 _ rfl
    have q4:=q 4 _ rfl
    have q5:=q 5 _ rfl
    have q6:=q 6 _ rfl
    rw[Nat.add_zero] at q0
    have hbw:b<wr.heap.size:=World.block_lt_of_cell? wr _ q0
    have hob:opB o=true:=List.all_eq_true.1 HALL.out o (List.mem_of_getElem? ho)
    have HO:=Lib.hid hob
    have HOK:=Lib.hid ho
    have hnx:=HCL.out.next
    have hnw:=HCL.out.now
    have HNX:=Lib.hid (show((l.take k).foldl (fun s o=>sayO o s) (beginP s)).next+3<=4000 by omega)
    have HNW:=Lib.hid hnw
    clear q hcs hob ho hnx hnw
    go_wp2_with fail
    have hcall: ∀W,Below wr.heap.size wr W->Calls Tryz.prog 164 #[.pointer (some ⟨pb,po,none⟩),.agg #[.int .i64 o.key.kind,.int .i64 o.key.a,.string o.key.word,.int .i64 o.key.b,.int .i64 o.fr,.int .i64 o.to,.string o.value]] W (Begun pb po R (sayO o ((l.take k).foldl (fun s o=>sayO o s) (beginP s))) g' W):=fun W hB=>
     psays_any o pb po R _ g' W (HCL.out.at'.below hB) HCL.out.wf HCL.out.am HCL.out.tm HO.out (by rw[HNW.out];omega) (by rw[HNW.out];omega) HNX.out
    refine(hcall _ ((Below.refl _ _).alloc (Nat.le_refl _) _)).mono ?_
    rintro e w4 ⟨g4,rfl,P4,a4,t4,F4,G4,_⟩
    have hsd:=said_one HCL.out.wf HO.out (by rw[HNW.out];omega)
    have hfs:=fold_snoc HOK.out (beginP s)
    have hfr:Fr (g.foot pb) w w4:=(HCL.out.fr.alloc _).past F4 HCL.out.gr
    have hnew:CLoop pb po R s g l w (k+1) g4 w4:=by
     refine⟨by rw[hfs];exact P4,by rw[hfs];exact hsd.wf,?_,by rw[hfs,hsd.now];exact HNW.out,a4,t4,hfr,HCL.out.gr.trans G4 (HCL.out.fr.alloc _).size⟩
     rw[hfs]
     have h1:=hsd.next
     have h2:=HCL.out.next
     omega
    have HNEW:=Lib.hid hnew
    clear P4 a4 t4 F4 G4 hsd hfs hfr hnew q0 q1 q2 q3 q4 q5 q6
    go_wp2_with fail
    go_roundw
    case rel=>exact⟨k+1,g4,by omega,by go_num,HNEW.out⟩
    case measure=>simp[intOf];omega
  · have hkl:l.take k=l:=List.take_of_length_le (by omega)
    have hend:PDone .nilIface pb po R (commitP l s) g w (.returned .nilIface) wr:=by
     have h1:=HCL.out.at'
     rw[hkl] at h1
     exact⟨g',rfl,h1,HCL.out.fr,HCL.out.gr⟩
    have HE:=Lib.hid hend
    clear hkl hend
    go_wp2_with fail
    go_ret
    exact HE.out
end Go.Proofs.YtpgkjnebklknjaaGreatDoor
