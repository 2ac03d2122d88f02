/-The span of a number goes from a tree:the node that holds it has two sides (drop). -/
import Derived.Deep.RegionHeld3
import Derived.Deep.QuietTactic
import Derived.BigQuiet
import Derived.StillTailTactics
import Derived.Sort.OwnSortedInts
import Derived.Deep.RegionWith
import Derived.Deep.LoopGhost
import Derived.Test.YtpgkjnebklknjaaGreatDoorFrameJr
import Derived.Test.YtpgkjnebklknjaaGreatDoorTreeNJr
import Derived.Test.YtpgkjnebklknjaaGreatDoorRowJr
import Derived.Test.YtpgkjnebklknjaaGreatDoorShelfJr
namespace Go.Proofs.YtpgkjnebklknjaaGreatDoor
open Go.RowKit Go.Deep
def nodeO (a:Nd) (l r:Value):Obj:= .cells #[.int .i64 a.id,.int .i64 a.f,.int .i64 a.t,.int .i64 a.last,.int .i64 a.high,l,r] 314 (0,0)
def rootInH (h:Array Obj):BT Nd->Prop
 | .nil=>True
 | .node b o a l r=>o=0/\h[b]? =some (nodeO a l.ptr r.ptr)
def rootIn (w:World) (t:BT Nd):Prop:=rootInH w.heap t
def treeInH (h:Array Obj):BT Nd->Prop
 | .nil=>True
 | .node b o a l r=>(o=0/\h[b]? =some (nodeO a l.ptr r.ptr))/\treeInH h l/\treeInH h r
def treeIn (w:World) (t:BT Nd):Prop:=treeInH w.heap t
theorem treeIn.parts {w:World} {b o:Nat} {a:Nd} {l r:BT Nd} (h:treeIn w (.node b o a l r)):o=0/\w.heap[b]? =some (nodeO a l.ptr r.ptr)/\treeIn w l/\treeIn w r:=⟨h.1.1,h.1.2,h.2.1,h.2.2⟩
theorem treeIn.root {w:World} {t:BT Nd} (h:treeIn w t):rootIn w t:=by cases t;trivial;exact h.1
def rootB:BT Nd->List Nat
 | .nil=> []
 | .node b _ _ _ _=> [b]
theorem node_cells {w:World} {b:Nat} {a:Nd} {l r:Value} (h:w.heap[b]? =some (nodeO a l r)):
  w.cell? ⟨b,0,none⟩=some (.int .i64 a.id)/\w.cell? ⟨b,1,none⟩=some (.int .i64 a.f)/\w.cell? ⟨b,2,none⟩=some (.int .i64 a.t)/\w.cell? ⟨b,3,none⟩=some (.int .i64 a.last)∧
  w.cell? ⟨b,4,none⟩=some (.int .i64 a.high)/\w.cell? ⟨b,5,none⟩=some l/\w.cell? ⟨b,6,none⟩=some r:=
 ⟨block_cell h 0,block_cell h 1,block_cell h 2,block_cell h 3,block_cell h 4,block_cell h 5,block_cell h 6⟩
theorem node_free {w:World} {b:Nat} {a:Nd} {l r:Value} (h:w.heap[b]? =some (nodeO a l r)) (i:Nat):w.frozen? ⟨b,i,none⟩=false:=block_free h i
set_option maxRecDepth 100000 in
theorem high_any (t:BT Nd) (w:World) (h:rootIn w t):Calls Tryz.prog 307 #[t.ptr] w fun e w' =>e= .returned (.int .i64 (hiT t))/\w' =w:=by
 cases t with
 | nil =>
   have e:(BT.nil:BT Nd).ptr= .pointer none:=rfl
   rw[e]
   go_enter Tryz.func307,Tryz.ntmps307
   go_wp2
   go_ret
   exact⟨rfl,rfl⟩
 | node b o a l r=>
   obtain⟨rfl,hb⟩:=h
   obtain⟨_,_,_,_,c4,_,_⟩:=node_cells hb
   have e:(BT.node b 0 a l r).ptr= .pointer (some ⟨b,0,none⟩):=rfl
   rw[e]
   clear hb
   go_enter Tryz.func307,Tryz.ntmps307
   go_wp2
   go_ret
   exact⟨rfl,rfl⟩
theorem ptr_some (t:BT Nd): ∃p,t.ptr= .pointer p:=by cases t;exact⟨_,rfl⟩;exact⟨_,rfl⟩
theorem high_at (t:BT Nd) (p:Option Addr) (w:World) (e:t.ptr= .pointer p) (h:rootIn w t):Calls Tryz.prog 307 #[.pointer p] w fun e w' =>e= .returned (.int .i64 (hiT t))/\w' =w:=by
 rw[<-e];exact high_any t w h
theorem rootIn.frame {F:Nat->Prop} {w w' :World} {t:BT Nd} (h:rootIn w t) (hf:Fr F w w') (hn: ∀k∈rootB t,¬F k):rootIn w' t:=by
 cases t with
 | nil=>trivial
 | node b o a l r=>exact⟨h.1,hf.keeps h.2 (hn b (by simp[rootB]))⟩
theorem rootIn.setCell {w:World} {t:BT Nd} (h:rootIn w t) {p:Addr} (hn:p.block∉rootB t) (v:Value):rootIn (w.setCell p v) t:=by
 cases t with
 | nil=>trivial
 | node b o a l r=>exact⟨h.1,block_set_other h.2 (fun e=>hn (by simp[rootB,e])) v⟩
theorem node_set3 {w:World} {b:Nat} {a:Nd} {l r:Value} (h:w.heap[b]? =some (nodeO a l r)) (v:Int):(w.setCell ⟨b,3,none⟩ (.int .i64 v)).heap[b]? =some (nodeO { a with last:=v } l r):=block_set h 3 _
theorem node_set4 {w:World} {b:Nat} {a:Nd} {l r:Value} (h:w.heap[b]? =some (nodeO a l r)) (v:Int):(w.setCell ⟨b,4,none⟩ (.int .i64 v)).heap[b]? =some (nodeO { a with high:=v } l r):=block_set h 4 _
theorem node_set5 {w:World} {b:Nat} {a:Nd} {l r:Value} (h:w.heap[b]? =some (nodeO a l r)) (v:Value):(w.setCell ⟨b,5,none⟩ v).heap[b]? =some (nodeO a v r):=block_set h 5 _
theorem node_set6 {w:World} {b:Nat} {a:Nd} {l r:Value} (h:w.heap[b]? =some (nodeO a l r)) (v:Value):(w.setCell ⟨b,6,none⟩ v).heap[b]? =some (nodeO a l v):=block_set h 6 _
theorem S_fit_keep {W:World} {b:Nat} {a:Nd} {l r:BT Nd} {lp rp:Option Addr} (h:W.cell? ⟨b,2,none⟩=some (.int .i64 a.t)/\W.cell? ⟨b,5,none⟩=some (.pointer lp)/\W.cell? ⟨b,6,none⟩=some (.pointer rp)/\rootIn W l/\rootIn W r)
  (nl:b∉rootB l) (nr:b∉rootB r) (i:Nat) (hi:i=3\/i=4) (v:Value):
  (W.setCell ⟨b,i,none⟩ v).cell? ⟨b,2,none⟩=some (.int .i64 a.t)/\(W.setCell ⟨b,i,none⟩ v).cell? ⟨b,5,none⟩=some (.pointer lp)/\(W.setCell ⟨b,i,none⟩ v).cell? ⟨b,6,none⟩=some (.pointer rp)/\rootIn (W.setCell ⟨b,i,none⟩ v) l/\rootIn (W.setCell ⟨b,i,none⟩ v) r:=by
 obtain⟨h1,h2,h3,h4,h5⟩:=h
 have e: ∀j,j≠i->(W.setCell ⟨b,i,none⟩ v).cell? ⟨b,j,none⟩=W.cell? ⟨b,j,none⟩:=fun j hj=>World.cell?_setCell_other _ _ _ _ (fun e=>hj (congrArg Addr.off e).symm)
 exact⟨(e 2 (by omega)).trans h1,(e 5 (by omega)).trans h2,(e 6 (by omega)).trans h3,h4.setCell nl v,h5.setCell nr v⟩
def stg (t:Int) (l r:BT Nd):Nat->Int
 | 0=>t
 | 1=>laT t l
 | _=>laT (laT t l) r
theorem rootIn_some {w:World} {t:BT Nd} {x:Addr} (h:rootIn w t) (e:t.ptr= .pointer (some x)): ∃(b:Nat) (a:Nd) (l r:BT Nd),t= .node b 0 a l r/\x=⟨b,0,none⟩/\w.heap[b]? =some (nodeO a l.ptr r.ptr):=by
 cases t with
 | nil=>cases e
 | node b o a l r=>obtain⟨rfl,h⟩:=h;cases e;exact⟨b,a,l,r,rfl,rfl,h⟩
theorem la_none {t:BT Nd} {d:Int} (e:t.ptr= .pointer none):laT d t=d:=by cases t;rfl;cases e
def FitAt (w:World) (b:Nat) (a:Nd) (v:Int) (lp rp:Option Addr) (wr:World):Prop:=wr.heap[b]? =some (nodeO { a with last:=v } (.pointer lp) (.pointer rp))/\Fr (· =b) w wr
set_option maxRecDepth 100000 in
set_option maxHeartbeats 4000000 in
theorem fit_any (b:Nat) (a:Nd) (l r:BT Nd) (w:World) (hb:w.heap[b]? =some (nodeO a l.ptr r.ptr)) (hl:rootIn w l) (hr:rootIn w r) (nl:b∉rootB l) (nr:b∉rootB r)
  (l0:0<=hiT l) (l1:hiT l<4611686018427387904) (r0:0<=hiT r) (r1:hiT r<4611686018427387904):
  Calls Tryz.prog 306 #[.pointer (some ⟨b,0,none⟩)] w fun e w' =>e= .returned (.pointer (some ⟨b,0,none⟩))/\w'.heap[b]? =some (nodeO (fitN a l r) l.ptr r.ptr)/\Fr (· =b) w w' :=by
 obtain⟨lp,el⟩:=ptr_some l
 obtain⟨rp,er⟩:=ptr_some r
 rw[el,er] at hb ⊢
 have EL:=Lib.hid el
 have ER:=Lib.hid er
 clear el er
 obtain⟨c0,c1,c2,c3,c4,c5,c6⟩:=node_cells hb
 have f3:=node_free hb 3
 have f4:=node_free hb 4
 have hh:IntKind.i64.wrap (1+imax (hiT l) (hiT r))=1+max (hiT l) (hiT r):=by
  rw[show imax (hiT l) (hiT r)=max (hiT l) (hiT r) from rfl,IntKind.wrap_i64];omega
 have HH:=Lib.hid hh
 clear hh
 have i0: ∀w,(Instr.index 384 (.agg #[.pointer lp,.pointer rp]) (.int .i64 0)).run Tryz.prog w= .ok (.pointer lp) w:=fun _=>by kernel_rfl
 have i1: ∀w,(Instr.index 384 (.agg #[.pointer lp,.pointer rp]) (.int .i64 1)).run Tryz.prog w= .ok (.pointer rp) w:=fun _=>by kernel_rfl
 go_enter Tryz.func306,Tryz.ntmps306
 go_wp2
 go_region_held3 (fun W=>W.cell? ⟨b,2,none⟩=some (.int .i64 a.t)/\W.cell? ⟨b,5,none⟩=some (.pointer lp)/\W.cell? ⟨b,6,none⟩=some (.pointer rp)/\rootIn W l/\rootIn W r) (first|exact⟨c2,c5,c6,hl,hr⟩|assumption|exact S_fit_keep (W:=w) ⟨c2,c5,c6,hl,hr⟩ nl nr 4 (Or.inr rfl) _|exact S_fit_keep (S_fit_keep (W:=w) ⟨c2,c5,c6,hl,hr⟩ nl nr 4 (Or.inr rfl) _) nl nr 3 (Or.inl rfl) _) ((go_at_call 307;first|((with_reducible refine(high_at l lp _ EL.out ?_).mono ?_);exact hl;rintro e w' ⟨rfl,rfl⟩)|((with_reducible refine(high_at r rp _ ER.out ?_).mono ?_);exact hr;rintro e w' ⟨rfl,rfl⟩)))
 obtain⟨W1,hW1⟩: ∃W1,W1=((w.setCell ⟨b,4,none⟩ (.int .i64 (IntKind.i64.wrap (1+imax (hiT l) (hiT r))))).setCell ⟨b,3,none⟩ (.int .i64 a.t)).drew:=⟨_,rfl⟩
 rw[<-hW1]
 have B1:W1.heap[b]? =some (nodeO { a with high:=1+max (hiT l) (hiT r),last:=stg a.t l r 0 } (.pointer lp) (.pointer rp)):=by rw[hW1, <-HH.out];exact node_set3 (node_set4 hb _) _
 have F1:Fr (· =b) w W1:=by rw[hW1];exact Fr.drew (Fr.setCell (F:=(· =b)) (Fr.setCell (F:=(· =b)) (Fr.refl _ w) (p:=⟨b,4,none⟩) (fun _=>rfl) _) (p:=⟨b,3,none⟩) (fun _=>rfl) _)
 have hl:=hl.frame F1 (fun k hk e=>nl (by rw[<-e];exact hk))
 have hr:=hr.frame F1 (fun k hk e=>nr (by rw[<-e];exact hk))
 clear hW1 c0 c1 c2 c3 c4 c5 c6 f3 f4 hb
 obtain⟨_,_,_,_,_,c5,c6⟩:=node_cells B1
 clear HH
 go_wp2
 go_region_held3 (fun W=>W.cell? ⟨b,5,none⟩=some (.pointer lp)/\W.cell? ⟨b,6,none⟩=some (.pointer rp)) (exact⟨c5,c6⟩) (fail)
 obtain⟨W2,hW2⟩: ∃W2,W2=W1.drew:=⟨_,rfl⟩
 rw[<-hW2]
 have B2:FitAt w b { a with high:=1+max (hiT l) (hiT r) } (stg a.t l r 0) lp rp W2:=by rw[hW2];exact⟨B1,F1.drew⟩
 have hl:rootIn W2 l:=by rw[hW2];exact hl
 have hr:rootIn W2 r:=by rw[hW2];exact hr
 clear hW2 B1 F1 c5 c6
 go_wp2
 go_loopw [37] (fun i wr=> ∃k:Nat,k<=2/\i= .int .i64 k/\FitAt w b { a with high:=1+max (hiT l) (hiT r) } (stg a.t l r k) lp rp wr/\Fr (· =b) W2 wr) (fun i _=>2-(intOf i).toNat)
 case atStart=>exact⟨0,by omega,rfl,B2,Fr.refl _ _⟩
 case round=>
  obtain⟨k,hk,rfl,hF,hF2⟩:=hrel
  obtain⟨hB,hFr⟩:=hF
  have hl:=hl.frame hF2 (fun k hk e=>nl (by rw[<-e];exact hk))
  have hr:=hr.frame hF2 (fun k hk e=>nr (by rw[<-e];exact hk))
  obtain⟨_,_,_,d3,_,_,_⟩:=node_cells hB
  have g3:=node_free hB 3
  match k,hk with
  | 0, _=>
    rcases lp with _|x
    · have e1:stg a.t l r 1=stg a.t l r 0:=la_none EL.out
      go_wp2
      exact⟨⟨1,by omega,rfl,by rw[e1];exact⟨hB,hFr⟩,hF2⟩,by simp[intOf]⟩
    · obtain⟨sb,sa,sl,sr,e1,rfl,hs⟩:=rootIn_some hl EL.out
      obtain⟨_,_,_,s3,_,_,_⟩:=node_cells hs
      have e2:stg a.t l r 1=max (stg a.t l r 0) sa.last:=by show laT _ l=_;rw[e1];rfl
      have E2:=Lib.hid e2
      clear e1 e2
      go_wp2
      go_region
      go_wp2
      refine⟨⟨1,by omega,rfl,⟨?_,?_⟩,?_⟩,by simp[intOf]⟩
      · rw[E2.out];exact node_set3 hB _
      · exact Fr.drew (Fr.setCell (F:=(· =b)) hFr (p:=⟨b,3,none⟩) (fun _=>rfl) _)
      · exact Fr.drew (Fr.setCell (F:=(· =b)) hF2 (p:=⟨b,3,none⟩) (fun _=>rfl) _)
  | 1, _=>
    rcases rp with _|x
    · have e1:stg a.t l r 2=stg a.t l r 1:=la_none ER.out
      go_wp2
      exact⟨⟨2,by omega,rfl,by rw[e1];exact⟨hB,hFr⟩,hF2⟩,by simp[intOf]⟩
    · obtain⟨sb,sa,sl,sr,e1,rfl,hs⟩:=rootIn_some hr ER.out
      obtain⟨_,_,_,s3,_,_,_⟩:=node_cells hs
      have e2:stg a.t l r 2=max (stg a.t l r 1) sa.last:=by show laT _ r=_;rw[e1];rfl
      have E2:=Lib.hid e2
      clear e1 e2
      go_wp2
      go_region
      go_wp2
      refine⟨⟨2,by omega,rfl,⟨?_,?_⟩,?_⟩,by simp[intOf]⟩
      · rw[E2.out];exact node_set3 hB _
      · exact Fr.drew (Fr.setCell (F:=(· =b)) hFr (p:=⟨b,3,none⟩) (fun _=>rfl) _)
      · exact Fr.drew (Fr.setCell (F:=(· =b)) hF2 (p:=⟨b,3,none⟩) (fun _=>rfl) _)
  | 2, _=>
    go_wp2
    go_ret
    exact⟨rfl,hB,hFr⟩
theorem treeIn.frame {F:Nat->Prop} {w w' :World} (hf:Fr F w w'): ∀ {t:BT Nd},treeIn w t->(∀k∈blocksT t,¬F k)->treeIn w' t
 | .nil,_,_=>trivial
 | .node b o a l r,h,hn=>⟨⟨h.1.1,hf.keeps h.1.2 (hn b (by simp[blocksT]))⟩,treeIn.frame hf h.2.1 (fun k hk=>hn k (by simp[blocksT,hk])),treeIn.frame hf h.2.2 (fun k hk=>hn k (by simp[blocksT,hk]))⟩
theorem rootB_sub {t:BT Nd} {k:Nat} (h:k∈rootB t):k∈blocksT t:=by
 cases t with
 | nil=>cases h
 | node b o a l r=>simp[rootB] at h;simp[blocksT,h]
theorem treeIn.lt {w:World}: ∀ {t:BT Nd},treeIn w t-> ∀k∈blocksT t,k<w.heap.size
 | .nil,_,_,hk=>by cases hk
 | .node b o a l r,h,k,hk=>by
   simp only[blocksT,List.mem_cons,List.mem_append] at hk
   rcases hk with rfl|hk|hk
   · exact lt_of_block h.1.2
   · exact treeIn.lt h.2.1 k hk
   · exact treeIn.lt h.2.2 k hk
theorem sep_node {b o:Nat} {a:Nd} {l r:BT Nd} (h:(blocksT (.node b o a l r)).Nodup):b∉blocksT l/\b∉blocksT r/\(blocksT l).Nodup/\(blocksT r).Nodup/\ ∀k∈blocksT l,k∉blocksT r:=by
 simp only[blocksT,List.nodup_cons,List.mem_append,not_or,List.nodup_append] at h
 exact⟨h.1.1,h.1.2,h.2.1,h.2.2.1,fun k h1 h2=>h.2.2.2 k h1 k h2 rfl⟩
theorem turnR_blocks {b o:Nat} {a:Nd} {l r:BT Nd} (hl:l≠ .nil):(blocksT (turnR b a l r)).Perm (blocksT (.node b o a l r)):=by
 cases l with
 | nil=>exact absurd rfl hl
 | node xb xo xa xl xr=>
   simp only[turnR,mkT,blocksT]
   refine(List.Perm.cons xb List.perm_middle).trans ?_
   refine(List.Perm.swap b xb _).trans (List.Perm.cons b (List.Perm.cons xb ?_))
   exact .of_eq (List.append_assoc ..).symm
theorem turnL_blocks {b o:Nat} {a:Nd} {l r:BT Nd} (hr:r≠ .nil):(blocksT (turnL b a l r)).Perm (blocksT (.node b o a l r)):=by
 cases r with
 | nil=>exact absurd rfl hr
 | node xb xo xa xl xr=>
   simp only[turnL,mkT,blocksT,List.cons_append]
   refine(List.Perm.swap b xb _).trans (List.Perm.cons b ?_)
   rw[List.append_assoc]
   exact List.perm_middle.symm
set_option maxRecDepth 100000 in
set_option maxHeartbeats 2000000 in
theorem turnR_any (b:Nat) (a:Nd) (l r:BT Nd) (w:World) (hin:treeIn w (.node b 0 a l r)) (hsep:(blocksT (.node b 0 a l r)).Nodup) (hn:l≠ .nil) (hl:FitT l) (hr:FitT r)
  (hc:(itemsT l).length+(itemsT r).length<1099511627776):
  Calls Tryz.prog 309 #[.pointer (some ⟨b,0,none⟩)] w fun e w' =>e= .returned (turnR b a l r).ptr/\treeIn w' (turnR b a l r)/\Fr (· ∈blocksT (.node b 0 a l r)) w w' :=by
 cases l with
 | nil=>exact absurd rfl hn
 | node xb xo xa xl xr=>
   obtain⟨⟨_,hb⟩,⟨⟨rfl,hx⟩,hxl,hxr⟩,hrr⟩:=hin
   obtain⟨n1,n2,n3,n4,n5⟩:=sep_node hsep
   obtain⟨m1,m2,m3,m4,m5⟩:=sep_node n3
   have hbx:b≠xb:=fun e=>n1 (by simp[blocksT,e])
   have nbl:b∉blocksT xl:=fun e=>n1 (by simp[blocksT,e])
   have nbr:b∉blocksT xr:=fun e=>n1 (by simp[blocksT,e])
   have nxr:xb∉blocksT r:=n5 xb (by simp[blocksT])
   have nlr: ∀k∈blocksT xl,k∉blocksT r:=fun k hk=>n5 k (by simp[blocksT,hk])
   have nrr: ∀k∈blocksT xr,k∉blocksT r:=fun k hk=>n5 k (by simp[blocksT,hk])
   have fl:=hl.2.2.2.1
   have fr:=hl.2.2.2.2
   have b1:=hi_nonneg fl
   have b2:=hi_nonneg fr
   have b3:=hi_nonneg hr
   have b4:=hi_le fl
   have b5:=hi_le fr
   have b6:=hi_le hr
   have hlen:(itemsT (.node xb 0 xa xl xr)).length=(itemsT xl).length+1+(itemsT xr).length:=by simp[itemsT];omega
   have hb' :w.heap[b]? =some (nodeO a (.pointer (some ⟨xb,0,none⟩)) r.ptr):=hb
   clear hb n1 n3 n5 hsep
   obtain⟨xlp,exl⟩:=ptr_some xl
   obtain⟨xrp,exr⟩:=ptr_some xr
   obtain⟨rp,er⟩:=ptr_some r
   rw[exl,exr] at hx
   rw[er] at hb'
   have EXL:=Lib.hid exl
   have EXR:=Lib.hid exr
   have ER:=Lib.hid er
   have HLEN:=Lib.hid hlen
   clear exl exr er hlen
   obtain⟨_,_,_,_,_,c5,c6⟩:=node_cells hb'
   obtain⟨_,_,_,_,_,d5,d6⟩:=node_cells hx
   have f5:=node_free hb' 5
   have g6:=node_free hx 6
   go_enter Tryz.func309,Tryz.ntmps309
   go_wp2_with fail
   obtain⟨W1,hW1⟩: ∃W1,W1=(w.setCell ⟨b,5,none⟩ (.pointer xrp)).setCell ⟨xb,6,none⟩ (.pointer (some ⟨b,0,none⟩)):=⟨_,rfl⟩
   rw[<-hW1]
   have B1:W1.heap[b]? =some (nodeO a xr.ptr r.ptr):=by rw[hW1,EXR.out,ER.out];exact block_set_other (node_set5 hb' _) (p:=⟨xb,6,none⟩) hbx _
   have X1:W1.heap[xb]? =some (nodeO xa xl.ptr (.pointer (some ⟨b,0,none⟩))):=by rw[hW1,EXL.out];exact node_set6 (block_set_other hx (p:=⟨b,5,none⟩) (fun e=>hbx e.symm) _) _
   have F1:Fr (fun k=>k=b\/k=xb) w W1:=by rw[hW1];exact Fr.setCell (F:=fun k=>k=b\/k=xb) (Fr.setCell (F:=fun k=>k=b\/k=xb) (Fr.refl _ w) (p:=⟨b,5,none⟩) (fun _=>Or.inl rfl) _) (p:=⟨xb,6,none⟩) (fun _=>Or.inr rfl) _
   clear hW1 c5 c6 d5 d6 f5 g6 hb' hx
   have T1l:treeIn W1 xl:=treeIn.frame F1 hxl (fun k hk e=>by rcases e with rfl|rfl;exact nbl hk;exact m1 hk)
   have T1r:treeIn W1 xr:=treeIn.frame F1 hxr (fun k hk e=>by rcases e with rfl|rfl;exact nbr hk;exact m2 hk)
   have T1:treeIn W1 r:=treeIn.frame F1 hrr (fun k hk e=>by rcases e with rfl|rfl;exact n2 hk;exact nxr hk)
   refine(fit_any b a xr r W1 B1 T1r.root T1.root (fun h=>nbr (rootB_sub h)) (fun h=>n2 (rootB_sub h)) b2 (by rw[HLEN.out] at hc;omega) b3 (by omega)).mono ?_
   rintro e w2 ⟨rfl,B2,F2⟩
   have X2:=F2.keeps X1 (fun e=>hbx e.symm)
   have T2l:=treeIn.frame F2 T1l (fun k hk e=>by subst e;exact nbl hk)
   have T2r:=treeIn.frame F2 T1r (fun k hk e=>by subst e;exact nbr hk)
   have T2:=treeIn.frame F2 T1 (fun k hk e=>by subst e;exact n2 hk)
   have F2' :=F1.next F2 (fun k _ e=>Or.inl e)
   clear F1 F2 T1l T1r T1 B1 X1
   go_wp2_with fail
   have hm:=fit_mk (b:=b) (a:=a) fr hr
   have hm2:=hi_le hm
   have hm1:=hi_nonneg hm
   rw[items_mk] at hm2
   simp only[List.length_append,List.length_cons] at hm2
   have HM:=Lib.hid hm
   have hm3:hiT (mkT b a xr r)<4611686018427387904:=by rw[HLEN.out] at hc;omega
   clear hm hm2
   refine(fit_any xb xa xl (mkT b a xr r) w2 X2 T2l.root ⟨rfl,B2⟩ (fun h=>m1 (rootB_sub h)) (fun h=>hbx (by have h' :xb∈ [b]:=h;simp at h';exact h'.symm)) b1 (by rw[HLEN.out] at hc;omega) hm1 hm3).mono ?_
   rintro e w3 ⟨rfl,B3,F3⟩
   have B2' :=F3.keeps B2 hbx
   have T3l:=treeIn.frame F3 T2l (fun k hk e=>by subst e;exact m1 hk)
   have T3r:=treeIn.frame F3 T2r (fun k hk e=>by subst e;exact m2 hk)
   have T3:=treeIn.frame F3 T2 (fun k hk e=>by subst e;exact nxr hk)
   have F3' :=F2'.next F3 (fun k _ e=>Or.inr e)
   go_wp2_with fail
   go_ret
   exact⟨rfl,⟨⟨rfl,B3⟩,T3l,⟨rfl,B2'⟩,T3r,T3⟩,F3'.mono (fun k _ h=>by rcases h with rfl|rfl<;>simp[blocksT])⟩
set_option maxRecDepth 100000 in
set_option maxHeartbeats 2000000 in
theorem turnL_any (b:Nat) (a:Nd) (l r:BT Nd) (w:World) (hin:treeIn w (.node b 0 a l r)) (hsep:(blocksT (.node b 0 a l r)).Nodup) (hn:r≠ .nil) (hl:FitT l) (hr:FitT r)
  (hc:(itemsT l).length+(itemsT r).length<1099511627776):
  Calls Tryz.prog 308 #[.pointer (some ⟨b,0,none⟩)] w fun e w' =>e= .returned (turnL b a l r).ptr/\treeIn w' (turnL b a l r)/\Fr (· ∈blocksT (.node b 0 a l r)) w w' :=by
 cases r with
 | nil=>exact absurd rfl hn
 | node xb xo xa xl xr=>
   obtain⟨⟨_,hb⟩,hll,⟨⟨rfl,hx⟩,hxl,hxr⟩⟩:=hin
   obtain⟨n1,n2,n3,n4,n5⟩:=sep_node hsep
   obtain⟨m1,m2,m3,m4,m5⟩:=sep_node n4
   have hbx:b≠xb:=fun e=>n2 (by simp[blocksT,e])
   have nbl:b∉blocksT xl:=fun e=>n2 (by simp[blocksT,e])
   have nbr:b∉blocksT xr:=fun e=>n2 (by simp[blocksT,e])
   have nxl:xb∉blocksT l:=fun h=>n5 xb h (by simp[blocksT])
   have fl:=hr.2.2.2.1
   have fr:=hr.2.2.2.2
   have b1:=hi_nonneg fl
   have b2:=hi_nonneg fr
   have b3:=hi_nonneg hl
   have b4:=hi_le fl
   have b5:=hi_le fr
   have b6:=hi_le hl
   have hlen:(itemsT (.node xb 0 xa xl xr)).length=(itemsT xl).length+1+(itemsT xr).length:=by simp[itemsT];omega
   have hb' :w.heap[b]? =some (nodeO a l.ptr (.pointer (some ⟨xb,0,none⟩))):=hb
   clear hb n2 n4 n5 hsep
   obtain⟨xlp,exl⟩:=ptr_some xl
   obtain⟨xrp,exr⟩:=ptr_some xr
   obtain⟨lp,el⟩:=ptr_some l
   rw[exl,exr] at hx
   rw[el] at hb'
   have EXL:=Lib.hid exl
   have EXR:=Lib.hid exr
   have EL:=Lib.hid el
   have HLEN:=Lib.hid hlen
   clear exl exr el hlen
   obtain⟨_,_,_,_,_,c5,c6⟩:=node_cells hb'
   obtain⟨_,_,_,_,_,d5,d6⟩:=node_cells hx
   have f6:=node_free hb' 6
   have g5:=node_free hx 5
   go_enter Tryz.func308,Tryz.ntmps308
   go_wp2_with fail
   obtain⟨W1,hW1⟩: ∃W1,W1=(w.setCell ⟨b,6,none⟩ (.pointer xlp)).setCell ⟨xb,5,none⟩ (.pointer (some ⟨b,0,none⟩)):=⟨_,rfl⟩
   rw[<-hW1]
   have B1:W1.heap[b]? =some (nodeO a l.ptr xl.ptr):=by rw[hW1,EXL.out,EL.out];exact block_set_other (node_set6 hb' _) (p:=⟨xb,5,none⟩) hbx _
   have X1:W1.heap[xb]? =some (nodeO xa (.pointer (some ⟨b,0,none⟩)) xr.ptr):=by rw[hW1,EXR.out];exact node_set5 (block_set_other hx (p:=⟨b,6,none⟩) (fun e=>hbx e.symm) _) _
   have F1:Fr (fun k=>k=b\/k=xb) w W1:=by rw[hW1];exact Fr.setCell (F:=fun k=>k=b\/k=xb) (Fr.setCell (F:=fun k=>k=b\/k=xb) (Fr.refl _ w) (p:=⟨b,6,none⟩) (fun _=>Or.inl rfl) _) (p:=⟨xb,5,none⟩) (fun _=>Or.inr rfl) _
   clear hW1 c5 c6 d5 d6 f6 g5 hb' hx
   have T1l:treeIn W1 xl:=treeIn.frame F1 hxl (fun k hk e=>by rcases e with rfl|rfl;exact nbl hk;exact m1 hk)
   have T1r:treeIn W1 xr:=treeIn.frame F1 hxr (fun k hk e=>by rcases e with rfl|rfl;exact nbr hk;exact m2 hk)
   have T1:treeIn W1 l:=treeIn.frame F1 hll (fun k hk e=>by rcases e with rfl|rfl;exact n1 hk;exact nxl hk)
   refine(fit_any b a l xl W1 B1 T1.root T1l.root (fun h=>n1 (rootB_sub h)) (fun h=>nbl (rootB_sub h)) b3 (by omega) b1 (by rw[HLEN.out] at hc;omega)).mono ?_
   rintro e w2 ⟨rfl,B2,F2⟩
   have X2:=F2.keeps X1 (fun e=>hbx e.symm)
   have T2l:=treeIn.frame F2 T1l (fun k hk e=>by subst e;exact nbl hk)
   have T2r:=treeIn.frame F2 T1r (fun k hk e=>by subst e;exact nbr hk)
   have T2:=treeIn.frame F2 T1 (fun k hk e=>by subst e;exact n1 hk)
   have F2' :=F1.next F2 (fun k _ e=>Or.inl e)
   clear F1 F2 T1l T1r T1 B1 X1
   go_wp2_with fail
   have hm:=fit_mk (b:=b) (a:=a) hl fl
   have hm2:=hi_le hm
   have hm1:=hi_nonneg hm
   rw[items_mk] at hm2
   simp only[List.length_append,List.length_cons] at hm2
   have HM:=Lib.hid hm
   have hm3:hiT (mkT b a l xl)<4611686018427387904:=by rw[HLEN.out] at hc;omega
   clear hm hm2
   refine(fit_any xb xa (mkT b a l xl) xr w2 X2 ⟨rfl,B2⟩ T2r.root (fun h=>hbx (by have h' :xb∈ [b]:=h;simp at h';exact h'.symm)) (fun h=>m2 (rootB_sub h)) hm1 hm3 b2 (by rw[HLEN.out] at hc;omega)).mono ?_
   rintro e w3 ⟨rfl,B3,F3⟩
   have B2' :=F3.keeps B2 hbx
   have T3l:=treeIn.frame F3 T2l (fun k hk e=>by subst e;exact m1 hk)
   have T3r:=treeIn.frame F3 T2r (fun k hk e=>by subst e;exact m2 hk)
   have T3:=treeIn.frame F3 T2 (fun k hk e=>by subst e;exact nxl hk)
   have F3' :=F2'.next F3 (fun k _ e=>Or.inr e)
   go_wp2_with fail
   go_ret
   exact⟨rfl,⟨⟨rfl,B3⟩,⟨⟨rfl,B2'⟩,T3,T3l⟩,T3r⟩,F3'.mono (fun k _ h=>by rcases h with rfl|rfl<;>simp[blocksT])⟩
theorem upL_blocks {l:BT Nd} (h:FitT l):(blocksT (upL l)).Perm (blocksT l):=by
 cases l with
 | nil=>exact .refl _
 | node b o a xl xr=>
   unfold upL;dsimp only;split
   · rename_i hc
     have:=hi_nonneg h.2.2.2.1
     exact turnL_blocks (ne_nil_of_hi (by omega))
   · exact .refl _
theorem upR_blocks {r:BT Nd} (h:FitT r):(blocksT (upR r)).Perm (blocksT r):=by
 cases r with
 | nil=>exact .refl _
 | node b o a xl xr=>
   unfold upR;dsimp only;split
   · rename_i hc
     have:=hi_nonneg h.2.2.2.2
     exact turnR_blocks (ne_nil_of_hi (by omega))
   · exact .refl _
theorem node_blocks {b o o' :Nat} {a a' :Nd} {l r l' r' :BT Nd} (h1:(blocksT l').Perm (blocksT l)) (h2:(blocksT r').Perm (blocksT r)):(blocksT (.node b o a l' r')).Perm (blocksT (.node b o' a' l r)):=
 List.Perm.cons b (h1.append h2)
theorem level_blocks {b:Nat} {a:Nd} {l r:BT Nd} (hl:FitT l) (hr:FitT r):(blocksT (levelT b a l r)).Perm (b::(blocksT l++blocksT r)):=by
 unfold levelT
 have h1:=hi_nonneg hl
 have h2:=hi_nonneg hr
 split
 · exact(turnR_blocks (o:=0) (upL_ne hl (ne_nil_of_hi (by omega)))).trans (node_blocks (a' :=a) (o' :=0) (upL_blocks hl) (.refl _))
 · split
   · exact(turnL_blocks (o:=0) (upR_ne hr (ne_nil_of_hi (by omega)))).trans (node_blocks (a' :=a) (o' :=0) (.refl _) (upR_blocks hr))
   · exact .refl _
theorem S_level {w:World} {b:Nat} {a:Nd} {l r:BT Nd} {lp rp:Option Addr} (hb:w.heap[b]? =some (nodeO a (.pointer lp) (.pointer rp))) (hl:rootIn w l) (hr:rootIn w r):
  w.cell? ⟨b,5,none⟩=some (.pointer lp)/\w.cell? ⟨b,6,none⟩=some (.pointer rp)/\rootIn w l/\rootIn w r:=by
 obtain⟨_,_,_,_,_,c5,c6⟩:=node_cells hb
 exact⟨c5,c6,hl,hr⟩
set_option maxRecDepth 100000 in
set_option maxHeartbeats 4000000 in
theorem level_mid (b:Nat) (a:Nd) (l r:BT Nd) (w:World) (hin:treeIn w (.node b 0 a l r)) (hsep:(blocksT (.node b 0 a l r)).Nodup) (hl:FitT l) (hr:FitT r)
  (hc:(itemsT l).length+(itemsT r).length<1099511627776) (h1:hiT l-hiT r<=1) (h2: -1<=hiT l-hiT r):
  Calls Tryz.prog 277 #[.pointer (some ⟨b,0,none⟩)] w fun e w' =>e= .returned (.pointer (some ⟨b,0,none⟩))/\treeIn w' (mkT b a l r)/\Fr (· ∈blocksT (.node b 0 a l r)) w w' :=by
 obtain⟨_,hb,hll,hrr⟩:=hin.parts
 obtain⟨n1,n2,_,_,_⟩:=sep_node hsep
 have b1:=hi_nonneg hl
 have b2:=hi_nonneg hr
 have b3:=hi_le hl
 have b4:=hi_le hr
 obtain⟨lp,el⟩:=ptr_some l
 obtain⟨rp,er⟩:=ptr_some r
 have EL:=Lib.hid el
 have ER:=Lib.hid er
 clear el er hsep
 have hw:IntKind.i64.wrap (hiT l-hiT r)=hiT l-hiT r:=by rw[IntKind.wrap_i64];omega
 go_enter Tryz.func277,Tryz.ntmps277
 go_wp2_with fail
 refine(fit_any b a l r w hb hll.root hrr.root (fun h=>n1 (rootB_sub h)) (fun h=>n2 (rootB_sub h)) b1 (by omega) b2 (by omega)).mono ?_
 rintro e w1 ⟨rfl,B1,F1⟩
 have T1:treeIn w1 l:=treeIn.frame F1 hll (fun k hk e=>by subst e;exact n1 hk)
 have T2:treeIn w1 r:=treeIn.frame F1 hrr (fun k hk e=>by subst e;exact n2 hk)
 clear hb hll hrr
 rw[EL.out,ER.out] at B1
 go_wp2_with fail
 go_region_held3 (fun W=>W.cell? ⟨b,5,none⟩=some (.pointer lp)/\W.cell? ⟨b,6,none⟩=some (.pointer rp)/\rootIn W l/\rootIn W r) (exact S_level B1 T1.root T2.root) ((go_at_call 307;first|((with_reducible refine(high_at l lp _ EL.out ?_).mono ?_);exact T1.root;rintro e w' ⟨rfl,rfl⟩)|((with_reducible refine(high_at r rp _ ER.out ?_).mono ?_);exact T2.root;rintro e w' ⟨rfl,rfl⟩)))
 clear hw
 go_wp2_with fail
 go_ret
 refine⟨rfl,⟨⟨rfl,?_⟩,T1,T2⟩,Fr.drew (F1.mono fun k _ e=>by simp[blocksT,e])⟩
 rw[EL.out,ER.out]
 exact B1
theorem S_level2 {w:World} {b lb:Nat} {a la:Nd} {x y:Value} {ll lr:BT Nd} {lp rp:Option Addr} (hb:w.heap[b]? =some (nodeO a x y)) (hx:w.heap[lb]? =some (nodeO la (.pointer lp) (.pointer rp))) (hl:rootIn w ll) (hr:rootIn w lr):
  w.cell? ⟨b,5,none⟩=some x/\w.cell? ⟨b,6,none⟩=some y/\w.cell? ⟨lb,5,none⟩=some (.pointer lp)/\w.cell? ⟨lb,6,none⟩=some (.pointer rp)/\rootIn w ll/\rootIn w lr:=by
 obtain⟨_,_,_,_,_,c5,c6⟩:=node_cells hb
 obtain⟨_,_,_,_,_,d5,d6⟩:=node_cells hx
 exact⟨c5,c6,d5,d6,hl,hr⟩
set_option maxRecDepth 100000 in
set_option maxHeartbeats 4000000 in
theorem level_left (b lb:Nat) (a la:Nd) (ll lr r:BT Nd) (w:World) (hin:treeIn w (.node b 0 a (.node lb 0 la ll lr) r)) (hsep:(blocksT (.node b 0 a (.node lb 0 la ll lr) r)).Nodup) (hl:FitT (.node lb 0 la ll lr)) (hr:FitT r)
  (hc:(itemsT (.node lb 0 la ll lr)).length+(itemsT r).length<1099511627776) (h1:1<la.high-hiT r):
  Calls Tryz.prog 277 #[.pointer (some ⟨b,0,none⟩)] w fun e w' =>e= .returned (turnR b (fitN a (.node lb 0 la ll lr) r) (upL (.node lb 0 la ll lr)) r).ptr/\treeIn w' (turnR b (fitN a (.node lb 0 la ll lr) r) (upL (.node lb 0 la ll lr)) r)∧
   Fr (· ∈blocksT (.node b 0 a (.node lb 0 la ll lr) r)) w w' :=by
 obtain⟨_,hb,hll,hrr⟩:=hin.parts
 obtain⟨n1,n2,n3,n4,n5⟩:=sep_node hsep
 have b1:=hi_nonneg hl
 have b2:=hi_nonneg hr
 have b3:=hi_le hl
 have b4:=hi_le hr
 have k1:=hi_nonneg hl.2.2.2.1
 have k2:=hi_nonneg hl.2.2.2.2
 have hlc:(itemsT ll).length+(itemsT lr).length<1099511627776:=by
  have:(itemsT (.node lb 0 la ll lr)).length=(itemsT ll).length+1+(itemsT lr).length:=by simp[itemsT];omega
  omega
 have eh:hiT (.node lb 0 la ll lr)=la.high:=rfl
 rw[eh] at b1 b3
 have hw:IntKind.i64.wrap (la.high-hiT r)=la.high-hiT r:=by rw[IntKind.wrap_i64];omega
 have el:(BT.node lb 0 la ll lr).ptr= .pointer (some ⟨lb,0,none⟩):=rfl
 obtain⟨llp,ell⟩:=ptr_some ll
 obtain⟨lrp,elr⟩:=ptr_some lr
 obtain⟨rp,er⟩:=ptr_some r
 have EL:=Lib.hid el
 have ELL:=Lib.hid ell
 have ELR:=Lib.hid elr
 have ER:=Lib.hid er
 have EH:=Lib.hid eh
 clear el er ell elr eh
 go_enter Tryz.func277,Tryz.ntmps277
 go_wp2_with fail
 refine(fit_any b a (.node lb 0 la ll lr) r w hb hll.root hrr.root (fun h=>n1 (rootB_sub h)) (fun h=>n2 (rootB_sub h)) (by rw[EH.out];exact b1) (by rw[EH.out];omega) b2 (by omega)).mono ?_
 rintro e w1 ⟨rfl,B1,F1⟩
 have T1:treeIn w1 (.node lb 0 la ll lr):=treeIn.frame F1 hll (fun k hk e=>by subst e;exact n1 hk)
 have T2:treeIn w1 r:=treeIn.frame F1 hrr (fun k hk e=>by subst e;exact n2 hk)
 clear hb hll hrr
 obtain⟨_,X1,TL,TR⟩:=T1.parts
 have X1' :=X1
 rw[ELL.out,ELR.out] at X1'
 have B1' :=B1
 rw[EL.out,ER.out] at B1
 have F1:Fr (· ∈blocksT (.node b 0 a (.node lb 0 la ll lr) r)) w w1:=F1.mono fun k _ e=>by simp[blocksT,e]
 have HEQ:Hid (hiT (.node lb 0 la ll lr)=la.high):=EH
 have hig: ∀W,rootIn W (.node lb 0 la ll lr)->Calls Tryz.prog 307 #[.pointer (some ⟨lb,0,none⟩)] W fun e w' =>e= .returned (.int .i64 la.high)/\w' =W:=fun W h=>high_at (.node lb 0 la ll lr) _ W rfl h
 have HIG:=Lib.hid hig
 clear hig
 go_wp2_with fail
 go_region_held3 (fun W=>W.cell? ⟨b,5,none⟩=some (.pointer (some ⟨lb,0,none⟩))/\W.cell? ⟨b,6,none⟩=some (.pointer rp)/\rootIn W (.node lb 0 la ll lr)/\rootIn W r) (exact S_level B1 T1.root T2.root) ((go_at_call 307;first|((with_reducible refine(HIG.out _ ?_).mono ?_);exact T1.root;rintro e w' ⟨rfl,rfl⟩)|((with_reducible refine(high_at r rp _ ER.out ?_).mono ?_);exact T2.root;rintro e w' ⟨rfl,rfl⟩)))
 clear hw HIG
 obtain⟨w2,hw2⟩: ∃w2,w2=w1.drew:=⟨_,rfl⟩
 rw[<-hw2]
 have B2:w2.heap[b]? =some (nodeO (fitN a (.node lb 0 la ll lr) r) (.pointer (some ⟨lb,0,none⟩)) (.pointer rp)):=by rw[hw2];exact B1
 have X2:w2.heap[lb]? =some (nodeO la (.pointer llp) (.pointer lrp)):=by rw[hw2];exact X1'
 have U1:treeIn w2 (.node lb 0 la ll lr):=by rw[hw2];exact T1
 have U2:treeIn w2 r:=by rw[hw2];exact T2
 have TL:treeIn w2 ll:=by rw[hw2];exact TL
 have TR:treeIn w2 lr:=by rw[hw2];exact TR
 have F2:Fr (· ∈blocksT (.node b 0 a (.node lb 0 la ll lr) r)) w w2:=by rw[hw2];exact F1.drew
 clear hw2 B1 B1' X1 X1' T1 T2 F1
 by_cases h2:hiT ll<hiT lr
 · go_wp2_with fail
   go_region_held3 (fun W=>W.cell? ⟨b,5,none⟩=some (.pointer (some ⟨lb,0,none⟩))/\W.cell? ⟨b,6,none⟩=some (.pointer rp)/\W.cell? ⟨lb,5,none⟩=some (.pointer llp)/\W.cell? ⟨lb,6,none⟩=some (.pointer lrp)/\rootIn W ll/\rootIn W lr) (exact S_level2 B2 X2 TL.root TR.root) ((go_at_call 307;first|((with_reducible refine(high_at ll llp _ ELL.out ?_).mono ?_);exact TL.root;rintro e w' ⟨rfl,rfl⟩)|((with_reducible refine(high_at lr lrp _ ELR.out ?_).mono ?_);exact TR.root;rintro e w' ⟨rfl,rfl⟩)))
   obtain⟨_,_,_,_,_,c5,c6⟩:=node_cells B2
   go_wp2_with fail
   have hnr:lr≠ .nil:=ne_nil_of_hi (by omega)
   have e0:upL (.node lb 0 la ll lr)=turnL lb la ll lr:=by show(if hiT ll<hiT lr then _ else _)=_;rw[if_pos h2]
   have hperm:(blocksT (turnL lb la ll lr)).Perm (blocksT (.node lb 0 la ll lr)):=turnL_blocks hnr
   have htn:turnL lb la ll lr≠ .nil:=by rw[<-e0];exact upL_ne hl (by simp)
   have htf:FitT (turnL lb la ll lr):=turnL_fit hl.2.2.2.1 hl.2.2.2.2
   have hti:(itemsT (turnL lb la ll lr)).length=(itemsT (.node lb 0 la ll lr)).length:=by rw[<-e0,upL_items hl]
   have HT:=Lib.hid (And.intro e0 (And.intro hperm (And.intro htn (And.intro htf hti))))
   obtain⟨u,hu⟩:=ptr_some (turnL lb la ll lr)
   have HU:=Lib.hid hu
   clear e0 hperm htn htf hti hu
   refine(turnL_any lb la ll lr w2.drew U1 n3 hnr hl.2.2.2.1 hl.2.2.2.2 hlc).mono ?_
   rintro e w3 ⟨rfl,T3,F3⟩
   rw[HU.out]
   have B3:=F3.keeps (b:=b) B2 (fun h=>n1 h)
   have U3:treeIn w3 r:=treeIn.frame F3 U2 (fun k hk e=>n5 k e hk)
   have F3' :=F2.drew.next F3 (fun k _ e=>show k∈blocksT (.node b 0 a (.node lb 0 la ll lr) r) from List.mem_cons_of_mem _ (List.mem_append_left _ e))
   have f5:=node_free B3 5
   obtain⟨_,_,_,_,_,c5',_⟩:=node_cells B3
   clear B2 X2 U1 U2 TL TR F2 c5 c6
   go_wp2_with fail
   have hnt:b∉blocksT (turnL lb la ll lr):=fun h=>n1 (HT.out.2.1.mem_iff.1 h)
   have FS:Fr (· =b) w3 (w3.setCell ⟨b,5,none⟩ (.pointer u)):=Fr.setCell (F:=(· =b)) (Fr.refl _ w3) (p:=⟨b,5,none⟩) (fun _=>rfl) _
   have T4:=treeIn.frame FS T3 (fun k hk e=>by subst e;exact hnt hk)
   have U4:=treeIn.frame FS U3 (fun k hk e=>by subst e;exact n2 hk)
   have B4:=node_set5 B3 (.pointer u)
   rw[<-HU.out] at B4 T4 U4 ⊢
   rw[<-ER.out] at B4
   refine(turnR_any b (fitN a (.node lb 0 la ll lr) r) (turnL lb la ll lr) r _ ⟨⟨rfl,B4⟩,T4,U4⟩ ((node_blocks (b:=b) (o:=0) (o' :=0) (a:=a) (a' :=a) HT.out.2.1 (.refl _)).nodup_iff.2 hsep) HT.out.2.2.1 HT.out.2.2.2.1 hr (by rw[HT.out.2.2.2.2];exact hc)).mono ?_
   rintro e w5 ⟨rfl,T5,F5⟩
   rw[HU.out] at F5
   have FF:=(F3'.next FS (fun k _ e=>show k∈blocksT (.node b 0 a (.node lb 0 la ll lr) r) from by simp[blocksT,e])).next F5 (fun k _ e=>(node_blocks (b:=b) (o:=0) (o' :=0) (a:=a) (a' :=a) HT.out.2.1 (.refl _)).mem_iff.1 e)
   go_wp2_with fail
   go_ret
   rw[HT.out.1]
   exact⟨rfl,T5,FF⟩
 · go_wp2_with fail
   go_region_held3 (fun W=>W.cell? ⟨b,5,none⟩=some (.pointer (some ⟨lb,0,none⟩))/\W.cell? ⟨b,6,none⟩=some (.pointer rp)/\W.cell? ⟨lb,5,none⟩=some (.pointer llp)/\W.cell? ⟨lb,6,none⟩=some (.pointer lrp)/\rootIn W ll/\rootIn W lr) (exact S_level2 B2 X2 TL.root TR.root) ((go_at_call 307;first|((with_reducible refine(high_at ll llp _ ELL.out ?_).mono ?_);exact TL.root;rintro e w' ⟨rfl,rfl⟩)|((with_reducible refine(high_at lr lrp _ ELR.out ?_).mono ?_);exact TR.root;rintro e w' ⟨rfl,rfl⟩)))
   go_wp2_with fail
   have e0:upL (.node lb 0 la ll lr)= .node lb 0 la ll lr:=by show(if hiT ll<hiT lr then _ else _)=_;rw[if_neg (by omega)]
   have E0:=Lib.hid e0
   clear e0
   refine(turnR_any b (fitN a (.node lb 0 la ll lr) r) (.node lb 0 la ll lr) r w2.drew ⟨⟨rfl,by rw[EL.out,ER.out];exact B2⟩,U1,U2⟩ hsep (by simp) hl hr hc).mono ?_
   rintro e w3 ⟨rfl,T3,F3⟩
   have FF:=F2.drew.next F3 (fun k _ e=>e)
   go_wp2_with fail
   go_ret
   rw[E0.out]
   exact⟨rfl,T3,FF⟩
set_option maxRecDepth 100000 in
set_option maxHeartbeats 4000000 in
theorem level_right (b rb:Nat) (a ra:Nd) (l rl rr:BT Nd) (w:World) (hin:treeIn w (.node b 0 a l (.node rb 0 ra rl rr))) (hsep:(blocksT (.node b 0 a l (.node rb 0 ra rl rr))).Nodup) (hl:FitT l) (hr:FitT (.node rb 0 ra rl rr))
  (hc:(itemsT l).length+(itemsT (.node rb 0 ra rl rr)).length<1099511627776) (h1:hiT l-ra.high< -1):
  Calls Tryz.prog 277 #[.pointer (some ⟨b,0,none⟩)] w fun e w' =>e= .returned (turnL b (fitN a l (.node rb 0 ra rl rr)) l (upR (.node rb 0 ra rl rr))).ptr/\treeIn w' (turnL b (fitN a l (.node rb 0 ra rl rr)) l (upR (.node rb 0 ra rl rr)))∧
   Fr (· ∈blocksT (.node b 0 a l (.node rb 0 ra rl rr))) w w' :=by
 obtain⟨_,hb,hll,hrr⟩:=hin.parts
 obtain⟨n1,n2,n3,n4,n5⟩:=sep_node hsep
 have b1:=hi_nonneg hl
 have b2:=hi_nonneg hr
 have b3:=hi_le hl
 have b4:=hi_le hr
 have k1:=hi_nonneg hr.2.2.2.1
 have k2:=hi_nonneg hr.2.2.2.2
 have hlc:(itemsT rl).length+(itemsT rr).length<1099511627776:=by
  have:(itemsT (.node rb 0 ra rl rr)).length=(itemsT rl).length+1+(itemsT rr).length:=by simp[itemsT];omega
  omega
 have eh:hiT (.node rb 0 ra rl rr)=ra.high:=rfl
 rw[eh] at b2 b4
 have hw:IntKind.i64.wrap (hiT l-ra.high)=hiT l-ra.high:=by rw[IntKind.wrap_i64];omega
 have er:(BT.node rb 0 ra rl rr).ptr= .pointer (some ⟨rb,0,none⟩):=rfl
 obtain⟨rlp,erl⟩:=ptr_some rl
 obtain⟨rrp,err⟩:=ptr_some rr
 obtain⟨lp,el⟩:=ptr_some l
 have EL:=Lib.hid el
 have ERL:=Lib.hid erl
 have ERR:=Lib.hid err
 have ER:=Lib.hid er
 have EH:=Lib.hid eh
 clear el er erl err eh
 go_enter Tryz.func277,Tryz.ntmps277
 go_wp2_with fail
 refine(fit_any b a l (.node rb 0 ra rl rr) w hb hll.root hrr.root (fun h=>n1 (rootB_sub h)) (fun h=>n2 (rootB_sub h)) b1 (by omega) (by rw[EH.out];exact b2) (by rw[EH.out];omega)).mono ?_
 rintro e w1 ⟨rfl,B1,F1⟩
 have T1:treeIn w1 l:=treeIn.frame F1 hll (fun k hk e=>by subst e;exact n1 hk)
 have T2:treeIn w1 (.node rb 0 ra rl rr):=treeIn.frame F1 hrr (fun k hk e=>by subst e;exact n2 hk)
 clear hb hll hrr
 obtain⟨_,X1,TL,TR⟩:=T2.parts
 have X1' :=X1
 rw[ERL.out,ERR.out] at X1'
 have B1' :=B1
 rw[EL.out,ER.out] at B1
 have F1:Fr (· ∈blocksT (.node b 0 a l (.node rb 0 ra rl rr))) w w1:=F1.mono fun k _ e=>by simp[blocksT,e]
 have hig: ∀W,rootIn W (.node rb 0 ra rl rr)->Calls Tryz.prog 307 #[.pointer (some ⟨rb,0,none⟩)] W fun e w' =>e= .returned (.int .i64 ra.high)/\w' =W:=fun W h=>high_at (.node rb 0 ra rl rr) _ W rfl h
 have HIG:=Lib.hid hig
 clear hig
 go_wp2_with fail
 go_region_held3 (fun W=>W.cell? ⟨b,5,none⟩=some (.pointer lp)/\W.cell? ⟨b,6,none⟩=some (.pointer (some ⟨rb,0,none⟩))/\rootIn W l/\rootIn W (.node rb 0 ra rl rr)) (exact S_level B1 T1.root T2.root) ((go_at_call 307;first|((with_reducible refine(HIG.out _ ?_).mono ?_);exact T2.root;rintro e w' ⟨rfl,rfl⟩)|((with_reducible refine(high_at l lp _ EL.out ?_).mono ?_);exact T1.root;rintro e w' ⟨rfl,rfl⟩)))
 clear hw HIG
 obtain⟨w2,hw2⟩: ∃w2,w2=w1.drew:=⟨_,rfl⟩
 rw[<-hw2]
 have B2:w2.heap[b]? =some (nodeO (fitN a l (.node rb 0 ra rl rr)) (.pointer lp) (.pointer (some ⟨rb,0,none⟩))):=by rw[hw2];exact B1
 have X2:w2.heap[rb]? =some (nodeO ra (.pointer rlp) (.pointer rrp)):=by rw[hw2];exact X1'
 have U1:treeIn w2 l:=by rw[hw2];exact T1
 have U2:treeIn w2 (.node rb 0 ra rl rr):=by rw[hw2];exact T2
 have TL:treeIn w2 rl:=by rw[hw2];exact TL
 have TR:treeIn w2 rr:=by rw[hw2];exact TR
 have F2:Fr (· ∈blocksT (.node b 0 a l (.node rb 0 ra rl rr))) w w2:=by rw[hw2];exact F1.drew
 clear hw2 B1 B1' X1 X1' T1 T2 F1
 by_cases h2:hiT rr<hiT rl
 · go_wp2_with fail
   go_region_held3 (fun W=>W.cell? ⟨b,5,none⟩=some (.pointer lp)/\W.cell? ⟨b,6,none⟩=some (.pointer (some ⟨rb,0,none⟩))/\W.cell? ⟨rb,5,none⟩=some (.pointer rlp)/\W.cell? ⟨rb,6,none⟩=some (.pointer rrp)/\rootIn W rl/\rootIn W rr) (exact S_level2 B2 X2 TL.root TR.root) ((go_at_call 307;first|((with_reducible refine(high_at rr rrp _ ERR.out ?_).mono ?_);exact TR.root;rintro e w' ⟨rfl,rfl⟩)|((with_reducible refine(high_at rl rlp _ ERL.out ?_).mono ?_);exact TL.root;rintro e w' ⟨rfl,rfl⟩)))
   obtain⟨_,_,_,_,_,c5,c6⟩:=node_cells B2
   go_wp2_with fail
   have hnr:rl≠ .nil:=ne_nil_of_hi (by omega)
   have e0:upR (.node rb 0 ra rl rr)=turnR rb ra rl rr:=by show(if hiT rr<hiT rl then _ else _)=_;rw[if_pos h2]
   have hperm:(blocksT (turnR rb ra rl rr)).Perm (blocksT (.node rb 0 ra rl rr)):=turnR_blocks hnr
   have htn:turnR rb ra rl rr≠ .nil:=by rw[<-e0];exact upR_ne hr (by simp)
   have htf:FitT (turnR rb ra rl rr):=turnR_fit hr.2.2.2.1 hr.2.2.2.2
   have hti:(itemsT (turnR rb ra rl rr)).length=(itemsT (.node rb 0 ra rl rr)).length:=by rw[<-e0,upR_items hr]
   have HT:=Lib.hid (And.intro e0 (And.intro hperm (And.intro htn (And.intro htf hti))))
   obtain⟨u,hu⟩:=ptr_some (turnR rb ra rl rr)
   have HU:=Lib.hid hu
   clear e0 hperm htn htf hti hu
   refine(turnR_any rb ra rl rr w2.drew U2 n4 hnr hr.2.2.2.1 hr.2.2.2.2 hlc).mono ?_
   rintro e w3 ⟨rfl,T3,F3⟩
   rw[HU.out]
   have B3:=F3.keeps (b:=b) B2 (fun h=>n2 h)
   have U3:treeIn w3 l:=treeIn.frame F3 U1 (fun k hk e=>n5 k hk e)
   have F3' :=F2.drew.next F3 (fun k _ e=>show k∈blocksT (.node b 0 a l (.node rb 0 ra rl rr)) from List.mem_cons_of_mem _ (List.mem_append_right _ e))
   have f6:=node_free B3 6
   obtain⟨_,_,_,_,_,_,c6'⟩:=node_cells B3
   clear B2 X2 U1 U2 TL TR F2 c5 c6
   go_wp2_with fail
   have hnt:b∉blocksT (turnR rb ra rl rr):=fun h=>n2 (HT.out.2.1.mem_iff.1 h)
   have FS:Fr (· =b) w3 (w3.setCell ⟨b,6,none⟩ (.pointer u)):=Fr.setCell (F:=(· =b)) (Fr.refl _ w3) (p:=⟨b,6,none⟩) (fun _=>rfl) _
   have T4:=treeIn.frame FS T3 (fun k hk e=>by subst e;exact hnt hk)
   have U4:=treeIn.frame FS U3 (fun k hk e=>by subst e;exact n1 hk)
   have B4:=node_set6 B3 (.pointer u)
   rw[<-HU.out] at B4 T4 U4 ⊢
   rw[<-EL.out] at B4
   refine(turnL_any b (fitN a l (.node rb 0 ra rl rr)) l (turnR rb ra rl rr) _ ⟨⟨rfl,B4⟩,U4,T4⟩ ((node_blocks (b:=b) (o:=0) (o' :=0) (a:=a) (a' :=a) (.refl _) HT.out.2.1).nodup_iff.2 hsep) HT.out.2.2.1 hl HT.out.2.2.2.1 (by rw[HT.out.2.2.2.2];exact hc)).mono ?_
   rintro e w5 ⟨rfl,T5,F5⟩
   rw[HU.out] at F5
   have FF:=(F3'.next FS (fun k _ e=>show k∈blocksT (.node b 0 a l (.node rb 0 ra rl rr)) from by simp[blocksT,e])).next F5 (fun k _ e=>(node_blocks (b:=b) (o:=0) (o' :=0) (a:=a) (a' :=a) (.refl _) HT.out.2.1).mem_iff.1 e)
   go_wp2_with fail
   go_ret
   rw[HT.out.1]
   exact⟨rfl,T5,FF⟩
 · go_wp2_with fail
   go_region_held3 (fun W=>W.cell? ⟨b,5,none⟩=some (.pointer lp)/\W.cell? ⟨b,6,none⟩=some (.pointer (some ⟨rb,0,none⟩))/\W.cell? ⟨rb,5,none⟩=some (.pointer rlp)/\W.cell? ⟨rb,6,none⟩=some (.pointer rrp)/\rootIn W rl/\rootIn W rr) (exact S_level2 B2 X2 TL.root TR.root) ((go_at_call 307;first|((with_reducible refine(high_at rr rrp _ ERR.out ?_).mono ?_);exact TR.root;rintro e w' ⟨rfl,rfl⟩)|((with_reducible refine(high_at rl rlp _ ERL.out ?_).mono ?_);exact TL.root;rintro e w' ⟨rfl,rfl⟩)))
   go_wp2_with fail
   have e0:upR (.node rb 0 ra rl rr)= .node rb 0 ra rl rr:=by show(if hiT rr<hiT rl then _ else _)=_;rw[if_neg (by omega)]
   have E0:=Lib.hid e0
   clear e0
   refine(turnL_any b (fitN a l (.node rb 0 ra rl rr)) l (.node rb 0 ra rl rr) w2.drew ⟨⟨rfl,by rw[EL.out,ER.out];exact B2⟩,U1,U2⟩ hsep (by simp) hl hr hc).mono ?_
   rintro e w3 ⟨rfl,T3,F3⟩
   have FF:=F2.drew.next F3 (fun k _ e=>e)
   go_wp2_with fail
   go_ret
   rw[E0.out]
   exact⟨rfl,T3,FF⟩
theorem level_any (b:Nat) (a:Nd) (l r:BT Nd) (w:World) (hin:treeIn w (.node b 0 a l r)) (hsep:(blocksT (.node b 0 a l r)).Nodup) (hl:FitT l) (hr:FitT r)
  (hc:(itemsT l).length+(itemsT r).length<1099511627776):
  Calls Tryz.prog 277 #[.pointer (some ⟨b,0,none⟩)] w fun e w' =>e= .returned (levelT b a l r).ptr/\treeIn w' (levelT b a l r)/\Fr (· ∈blocksT (.node b 0 a l r)) w w' :=by
 have h1:=hi_nonneg hl
 have h2:=hi_nonneg hr
 unfold levelT
 by_cases k1:1<hiT l-hiT r
 · rw [if_pos k1]
   cases l with
   | nil=>exact absurd k1 (by show ¬1<0-hiT r;omega)
   | node lb o la ll lr=>
     obtain rfl:o=0:=hl.1
     exact level_left b lb a la ll lr r w hin hsep hl hr hc k1
 · rw [if_neg k1]
   by_cases k2:hiT l-hiT r< -1
   · rw [if_pos k2]
     cases r with
     | nil=>exact absurd k2 (by show ¬hiT l-0< -1;omega)
     | node rb o ra rl rr=>
       obtain rfl:o=0:=hr.1
       exact level_right b rb a ra l rl rr w hin hsep hl hr hc k2
   · rw [if_neg k2]
     exact level_mid b a l r w hin hsep hl hr hc (by omega) (by omega)
open Go.RowKit Go.Shelf Go.Sort
def orI (l:List Int):Int:=(l.find? (fun x=>x !=0)).getD 0
theorem or_any (l:List Int) (ao:Option Addr) (cap:Nat) (w:World) (hl:intsAt w ao l) (hm:l.length<=maxLen):
  Calls Tryz.prog 304 #[.slice ao l.length cap] w fun e w' =>e= .returned (.int .i64 (orI l))/\w=w' :=by
 unfold maxLen at hm
 go_enter Tryz.func304,Tryz.ntmps304
 go_wp2
 go_loop [8] (fun i=> ∃k:Nat,k<=l.length/\i= .int .i64 k/\Hid (orI l=orI (l.drop k))) (fun i=>l.length-(intOf i).toNat)
 case atStart=>exact⟨0,by omega,rfl,rfl⟩
 case round=>
  obtain⟨k,hk,rfl,ho⟩:=hrel
  by_cases hlt:k<l.length
  · obtain⟨b,o,x,g1,rfl,c1⟩:=intsAt_get hl hlt
    have hd:l.drop k=x::l.drop (k+1):=by
     have:=List.drop_eq_getElem_cons hlt
     rw[this];congr 1
     have h:=g1.out;rw[List.getElem?_eq_getElem hlt] at h;exact Option.some.inj h
    by_cases hx:x=0
    · have e:orI l=orI (l.drop (k+1)):=by rw[ho.out,hd,hx];simp[orI]
      have E:=Lib.hid e
      subst hx
      clear e hd ho
      go_wp2
      go_round
      case rel=>exact⟨k+1,by omega,by go_num,E⟩
      case measure=>simp[intOf];omega
    · have e:orI l=x:=by rw[ho.out,hd];simp[orI,hx]
      have E:=Lib.hid e
      have hx1:(x !=0)=true:=by simpa using hx
      clear e hd ho
      go_wp2
      go_ret
      exact⟨by rw[E.out];rfl,rfl⟩
  · have e:orI l=0:=by rw[ho.out,List.drop_eq_nil_of_le (by omega)];rfl
    have E:=Lib.hid e
    clear e ho
    go_wp2
    go_ret
    exact⟨by rw[E.out];rfl,rfl⟩
theorem ints2 (W:World) (x y:Int):intsAt (W.alloc (.cells #[.int .i64 x,.int .i64 y] 3)) (some ⟨W.heap.size,0,none⟩) [x,y]:=by
 intro i u hu
 match i,hu with
 | 0,hu=>simp at hu;subst hu;exact⟨_,0,rfl,by simp⟩
 | 1,hu=>simp at hu;subst hu;exact⟨_,0,rfl,by simp⟩
open Go.RowKit Go.Deep Go.Shelf Go.Sort
def aheadB (x y:It):Bool:=decide (aheadP x y)
theorem ahead_cmp (x y:It):decide (orI [Lib.compareInt x.1 y.1,Lib.compareInt x.2.1 y.2.1]<0)=aheadB x y:=by
 unfold aheadB aheadP orI Lib.compareInt
 by_cases h1:x.1<y.1<;>by_cases h2:y.1<x.1<;>by_cases h3:x.2.1<y.2.1<;>by_cases h4:y.2.1<x.2.1<;>simp[h1,h2,h3,h4]<;>omega
set_option maxRecDepth 100000 in
set_option maxHeartbeats 1000000 in
theorem ahead_any (id f t:Int) (b:Nat) (a:Nd) (l r:Value) (w:World) (hb:w.heap[b]? =some (nodeO a l r)):
  Calls Tryz.prog 276 #[.agg #[.int .i64 f,.int .i64 t],.int .i64 id,.pointer (some ⟨b,0,none⟩)] w fun e w' =>e= .returned (.bool (aheadB (f,id,t) (itN a)))/\Below w.heap.size w w' :=by
 obtain⟨r1,h1⟩: ∃r,r=Lib.compareInt f a.f:=⟨_,rfl⟩
 obtain⟨r2,h2⟩: ∃r,r=Lib.compareInt id a.id:=⟨_,rfl⟩
 have hr:decide (orI [r1,r2]<0)=aheadB (f,id,t) (itN a):=by rw[h1,h2];exact ahead_cmp (f,id,t) (itN a)
 have HR:=Lib.hid hr
 have c1:=fun w=>Tryz.cmp_Compare_int f a.f w
 have c2:=fun w=>Tryz.cmp_Compare_int id a.id w
 rw[<-h1] at c1
 rw[<-h2] at c2
 clear hr h1 h2
 have C1:=Lib.hid c1
 have C2:=Lib.hid c2
 clear c1 c2
 obtain⟨W,hW⟩: ∃W,W=w.alloc (.cells #[.int .i64 f,.int .i64 t] 107):=⟨_,rfl⟩
 have hBW:Below w.heap.size w W:=by rw[hW];exact(Below.refl _ _).alloc (Nat.le_refl _) _
 have k1:W.cell? ⟨w.heap.size,0,none⟩=some (.int .i64 f):=by rw[hW];simp
 have hbl:=lt_of_block hb
 have hb1:W.heap[b]? =some (nodeO a l r):=(hBW.block b hbl).trans hb
 obtain⟨d0,d1,_,_,_,_,_⟩:=node_cells hb1
 have hsW:W.heap.size=w.heap.size+1:=by rw[hW];simp
 have hlt:w.heap.size<W.heap.size:=by omega
 have hlt1:b<W.heap.size:=by omega
 have HW:=Lib.hid hW
 have q1: ∀o,(W.alloc o).cell? ⟨w.heap.size,0,none⟩=some (.int .i64 f):=fun o=>by rw[World.cell?_alloc_past _ _ _ hlt];exact k1
 have q2: ∀o,(W.alloc o).cell? ⟨b,0,none⟩=some (.int .i64 a.id):=fun o=>by rw[World.cell?_alloc_past _ _ _ hlt1];exact d0
 have q3: ∀o,(W.alloc o).cell? ⟨b,1,none⟩=some (.int .i64 a.f):=fun o=>by rw[World.cell?_alloc_past _ _ _ hlt1];exact d1
 have Q1:=Lib.hid q1
 have Q2:=Lib.hid q2
 have Q3:=Lib.hid q3
 clear hW hsW q1 q2 q3 hb hb1
 go_enter Tryz.func276,Tryz.ntmps276
 go_wp2
 rw[<-HW.out]
 go_region_held3 (fun w' =>w'.cell? ⟨w.heap.size,0,none⟩=some (.int .i64 f)/\w'.cell? ⟨b,0,none⟩=some (.int .i64 a.id)/\w'.cell? ⟨b,1,none⟩=some (.int .i64 a.f)/\Below w.heap.size w w')
  (first|exact⟨k1,d0,d1,hBW.drew⟩|assumption|exact⟨Q1.out _,Q2.out _,Q3.out _,(hBW.alloc (by omega) _).drew⟩)
  (first
   | (go_at_call 305;first|((with_reducible refine(C1.out _).mono ?_);rintro e w' ⟨rfl,rfl⟩)|((with_reducible refine(C2.out _).mono ?_);rintro e w' ⟨rfl,rfl⟩))
   | (go_at_call 304;refine(or_any [r1,r2] _ 2 (W.alloc (.cells #[.int .i64 r1,.int .i64 r2] 3)).drew (show intsAt (W.alloc (.cells #[.int .i64 r1,.int .i64 r2] 3)) _ _ from ints2 W r1 r2) (by simp[maxLen])).mono ?_;rintro e w' ⟨rfl,rfl⟩))
 go_wp2
 go_ret
 exact⟨by rw[<-HR.out];rfl,(hBW.alloc (by omega) _).drew⟩
theorem add_blocks (nb:Nat) (x:It): ∀ {t:BT Nd},FitT t->(blocksT (addT nb x t)).Perm (nb::blocksT t)
 | .nil,_=> .refl _
 | .node b o a l r,h=>by
   unfold addT
   split
   · refine(level_blocks (add_fit nb x h.2.2.2.1) h.2.2.2.2).trans ?_
     refine(List.Perm.cons b ((add_blocks nb x h.2.2.2.1).append_right _)).trans ?_
     exact .swap nb b _
   · refine(level_blocks h.2.2.2.1 (add_fit nb x h.2.2.2.2)).trans ?_
     refine(List.Perm.cons b (List.Perm.append_left _ (add_blocks nb x h.2.2.2.2))).trans ?_
     refine(List.Perm.cons b List.perm_middle).trans ?_
     exact .swap nb b _
theorem add_length (nb:Nat) (x:It) {t:BT Nd} (h:FitT t):(itemsT (addT nb x t)).length=(itemsT t).length+1:=(add_perm nb x h).length_eq
theorem new_node (w:World) (x y:Obj) {z:Obj} (e:y=z):((w.alloc x).alloc y).heap[w.heap.size+1]? =some z:=by
 have h:(w.alloc x).heap.size=w.heap.size+1:=by simp
 rw[<-h, <-e];exact block_alloc_new _ _
theorem addT_pos {nb b o:Nat} {x:It} {a:Nd} {l r:BT Nd} (h:aheadB x (itN a)=true):addT nb x (.node b o a l r)=levelT b a (addT nb x l) r:=by
 show(if aheadP x (itN a) then _ else _)=_
 rw[if_pos (by unfold aheadB at h;simpa using h)]
theorem addT_neg {nb b o:Nat} {x:It} {a:Nd} {l r:BT Nd} (h:aheadB x (itN a)=false):addT nb x (.node b o a l r)=levelT b a l (addT nb x r):=by
 show(if aheadP x (itN a) then _ else _)=_
 rw[if_neg (by unfold aheadB at h;simpa using h)]
def AddPost (x:It) (t:BT Nd) (w:World) (e:Ending) (w' :World):Prop:= ∃nb,w.heap.size<=nb/\e= .returned (addT nb x t).ptr/\treeIn w' (addT nb x t)/\Fr (· ∈blocksT t) w w'
set_option maxRecDepth 100000 in
set_option maxHeartbeats 2000000 in
theorem add_nil (id f tz:Int) (w:World):Calls Tryz.prog 310 #[.pointer none,.int .i64 id,.agg #[.int .i64 f,.int .i64 tz]] w (AddPost (f,id,tz) .nil w):=by
 go_enter Tryz.func310,Tryz.ntmps310
 go_wp2_with fail
 refine(fit_any (w.heap.size+1) ⟨id,f,tz,0,0⟩ .nil .nil _ (new_node w _ _ rfl) trivial trivial (by simp[rootB]) (by simp[rootB]) (by decide) (by decide) (by decide) (by decide)).mono ?_
 rintro e w1 ⟨rfl,B1,F1⟩
 go_wp2_with fail
 go_ret
 refine⟨w.heap.size+1,by omega,rfl,⟨⟨rfl,B1⟩,trivial,trivial⟩,?_⟩
 exact(((Fr.refl (· ∈blocksT .nil) w).alloc _).alloc _).next F1 (fun k hk e=>by subst e;omega)
set_option maxRecDepth 100000 in
set_option maxHeartbeats 4000000 in
theorem add_left (id f tz:Int) (b:Nat) (a:Nd) (l r:BT Nd) (ihl: ∀w,treeIn w l->(blocksT l).Nodup->FitT l->(itemsT l).length<549755813888->Calls Tryz.prog 310 #[l.ptr,.int .i64 id,.agg #[.int .i64 f,.int .i64 tz]] w (AddPost (f,id,tz) l w))
  (w:World) (hin:treeIn w (.node b 0 a l r)) (hsep:(blocksT (.node b 0 a l r)).Nodup) (hl:FitT l) (hr:FitT r) (hc:(itemsT l).length+(itemsT r).length<549755813888) (hah:aheadB (f,id,tz) (itN a)=true):
  Calls Tryz.prog 310 #[.pointer (some ⟨b,0,none⟩),.int .i64 id,.agg #[.int .i64 f,.int .i64 tz]] w (AddPost (f,id,tz) (.node b 0 a l r) w):=by
 obtain⟨_,hb,hll,hrr⟩:=hin.parts
 obtain⟨n1,n2,n3,n4,n5⟩:=sep_node hsep
 obtain⟨lp,el⟩:=ptr_some l
 obtain⟨rp,er⟩:=ptr_some r
 rw[el,er] at hb
 rw[el] at ihl
 have EL:=Lib.hid el
 have ER:=Lib.hid er
 have IHL:=Lib.hid ihl
 have HAH:=Lib.hid hah
 clear el er ihl hah
 have hbl:=lt_of_block hb
 go_enter Tryz.func310,Tryz.ntmps310
 go_wp2_with fail
 refine(ahead_any id f tz b a _ _ _ (block_alloc hb _)).mono ?_
 rintro e w1 ⟨rfl,B1⟩
 rw[HAH.out]
 have F1:Fr (· ∈blocksT (.node b 0 a l r)) w w1:=((Fr.refl _ w).alloc _).next (Fr.new B1) (fun k _ e=>e)
 have s1:w.heap.size<w1.heap.size:=by have:=B1.size;simp at this;omega
 have hb1:w1.heap[b]? =some (nodeO a (.pointer lp) (.pointer rp)):=(B1.block b (by simp;omega)).trans (block_alloc hb _)
 have T1:treeIn w1 l:=treeIn.frame (Fr.new (F:=fun _=>False) (((Below.refl _ w).alloc (Nat.le_refl _) _).trans (B1.mono (by simp)))) hll (fun _ _ e=>e)
 have U1:treeIn w1 r:=treeIn.frame (Fr.new (F:=fun _=>False) (((Below.refl _ w).alloc (Nat.le_refl _) _).trans (B1.mono (by simp)))) hrr (fun _ _ e=>e)
 have k1:w1.cell? ⟨w.heap.size,0,none⟩=some (.int .i64 f):=(B1.cell (p:=⟨w.heap.size,0,none⟩) (by simp)).trans (by simp)
 have k2:w1.cell? ⟨w.heap.size,1,none⟩=some (.int .i64 tz):=(B1.cell (p:=⟨w.heap.size,1,none⟩) (by simp)).trans (by simp)
 obtain⟨_,_,_,_,_,c5,_⟩:=node_cells hb1
 clear B1 hb hll hrr
 go_wp2_with fail
 go_region_with ((go_at_call 310;refine(IHL.out _ (by exact T1) n3 hl (by omega)).mono ?_;rintro e w3 ⟨nb,hnb,rfl,T3,F3⟩;obtain⟨u,hu⟩:=ptr_some (addT nb (f,id,tz) l);rw[hu];have HU:=Lib.hid hu;clear hu;have hb3:=F3.keeps (b:=b) hb1 (fun h=>n1 h);have f5:=node_free hb3 5;obtain⟨_,_,_,_,_,c5',_⟩:=node_cells hb3))
 all_goals
  have F3' :Fr (· ∈blocksT (.node b 0 a l r)) w w3:=F1.drew.next F3 (fun k _ e=>List.mem_cons_of_mem _ (List.mem_append_left _ e))
  have U3:treeIn w3 r:=treeIn.frame F3 U1 (fun k hk e=>n5 k e hk)
  have hperm:=add_blocks nb (f,id,tz) hl
  have hs1:w1.heap.size<=nb:=hnb
  have hnt:b∉blocksT (addT nb (f,id,tz) l):=fun h=>by
   rcases List.mem_cons.1 (hperm.mem_iff.1 h) with h|h
   · omega
   · exact n1 h
  have hlt:=U1.lt
  have hnd:(blocksT (.node b 0 a (addT nb (f,id,tz) l) r)).Nodup:=by
   refine List.nodup_cons.2 ⟨fun h=> ?_,List.nodup_append.2 ⟨hperm.nodup_iff.2 (List.nodup_cons.2 ⟨fun h=> ?_,n3⟩),n4,fun y h1 z h2 e=> ?_⟩⟩
   · rcases List.mem_append.1 h with h|h
     · exact hnt h
     · exact n2 h
   · have:=T1.lt nb h;omega
   · subst e
     rcases List.mem_cons.1 (hperm.mem_iff.1 h1) with h|h
     · subst h;have:=hlt _ h2;omega
     · exact n5 y h h2
  have hlen:=add_length nb (f,id,tz) hl
  have hfit:=add_fit nb (f,id,tz) hl
  have HH:=Lib.hid (And.intro hperm (And.intro hlen (And.intro hfit hnd)))
  have FS:Fr (· =b) w3 (w3.setCell ⟨b,5,none⟩ (.pointer u)):=Fr.setCell (F:=(· =b)) (Fr.refl _ w3) (p:=⟨b,5,none⟩) (fun _=>rfl) _
  have T4:=treeIn.frame FS T3 (fun k hk e=>by subst e;exact hnt hk)
  have U4:=treeIn.frame FS U3 (fun k hk e=>by subst e;exact n2 hk)
  have B4:=node_set5 hb3 (.pointer u)
  rw[<-ER.out, <-HU.out] at B4
  rw[<-HU.out] at T4 U4
  have F4:=F3'.next FS (fun k _ e=>show k∈blocksT (.node b 0 a l r) from by simp[blocksT,e])
  rw[<-HU.out] at F4
  clear hperm hlen hfit hnd FS T3 U3 hb3 c5' f5 F3 F3' T1 U1 hb1 k1 k2 c5 hlt
  go_wp2_with fail
  rw[<-HU.out]
  refine(level_any b a (addT nb (f,id,tz) l) r _ ⟨⟨rfl,B4⟩,T4,U4⟩ HH.out.2.2.2 HH.out.2.2.1 hr (by rw[HH.out.2.1];omega)).mono ?_
  rintro e w5 ⟨rfl,T5,F5⟩
  have hfin:addT nb (f,id,tz) (.node b 0 a l r)=levelT b a (addT nb (f,id,tz) l) r:=addT_pos HAH.out
  have HF:=Lib.hid hfin
  clear hfin
  have F6:=F4.next F5 (fun k hk e=>by
   rcases List.mem_cons.1 e with e|e
   · simp[blocksT,e]
   · rcases List.mem_append.1 e with e|e
     · rcases List.mem_cons.1 (HH.out.1.mem_iff.1 e) with e|e
       · omega
       · simp[blocksT,e]
     · simp[blocksT,e])
  go_wp2_with fail
  go_ret
  exact⟨nb,by omega,by rw[HF.out];rfl,by rw[HF.out];exact T5,F6⟩
set_option maxRecDepth 100000 in
set_option maxHeartbeats 4000000 in
theorem add_right (id f tz:Int) (b:Nat) (a:Nd) (l r:BT Nd) (ihr: ∀w,treeIn w r->(blocksT r).Nodup->FitT r->(itemsT r).length<549755813888->Calls Tryz.prog 310 #[r.ptr,.int .i64 id,.agg #[.int .i64 f,.int .i64 tz]] w (AddPost (f,id,tz) r w))
  (w:World) (hin:treeIn w (.node b 0 a l r)) (hsep:(blocksT (.node b 0 a l r)).Nodup) (hl:FitT l) (hr:FitT r) (hc:(itemsT l).length+(itemsT r).length<549755813888) (hah:aheadB (f,id,tz) (itN a)=false):
  Calls Tryz.prog 310 #[.pointer (some ⟨b,0,none⟩),.int .i64 id,.agg #[.int .i64 f,.int .i64 tz]] w (AddPost (f,id,tz) (.node b 0 a l r) w):=by
 obtain⟨_,hb,hll,hrr⟩:=hin.parts
 obtain⟨n1,n2,n3,n4,n5⟩:=sep_node hsep
 obtain⟨lp,el⟩:=ptr_some l
 obtain⟨rp,er⟩:=ptr_some r
 rw[el,er] at hb
 rw[er] at ihr
 have EL:=Lib.hid el
 have ER:=Lib.hid er
 have IHL:=Lib.hid ihr
 have HAH:=Lib.hid hah
 clear el er ihr hah
 have hbl:=lt_of_block hb
 go_enter Tryz.func310,Tryz.ntmps310
 go_wp2_with fail
 refine(ahead_any id f tz b a _ _ _ (block_alloc hb _)).mono ?_
 rintro e w1 ⟨rfl,B1⟩
 rw[HAH.out]
 have F1:Fr (· ∈blocksT (.node b 0 a l r)) w w1:=((Fr.refl _ w).alloc _).next (Fr.new B1) (fun k _ e=>e)
 have s1:w.heap.size<w1.heap.size:=by have:=B1.size;simp at this;omega
 have hb1:w1.heap[b]? =some (nodeO a (.pointer lp) (.pointer rp)):=(B1.block b (by simp;omega)).trans (block_alloc hb _)
 have T1:treeIn w1 l:=treeIn.frame (Fr.new (F:=fun _=>False) (((Below.refl _ w).alloc (Nat.le_refl _) _).trans (B1.mono (by simp)))) hll (fun _ _ e=>e)
 have U1:treeIn w1 r:=treeIn.frame (Fr.new (F:=fun _=>False) (((Below.refl _ w).alloc (Nat.le_refl _) _).trans (B1.mono (by simp)))) hrr (fun _ _ e=>e)
 have k1:w1.cell? ⟨w.heap.size,0,none⟩=some (.int .i64 f):=(B1.cell (p:=⟨w.heap.size,0,none⟩) (by simp)).trans (by simp)
 have k2:w1.cell? ⟨w.heap.size,1,none⟩=some (.int .i64 tz):=(B1.cell (p:=⟨w.heap.size,1,none⟩) (by simp)).trans (by simp)
 obtain⟨_,_,_,_,_,_,c5⟩:=node_cells hb1
 clear B1 hb hll hrr
 go_wp2_with fail
 go_region_with ((go_at_call 310;refine(IHL.out _ (by exact U1) n4 hr (by omega)).mono ?_;rintro e w3 ⟨nb,hnb,rfl,T3,F3⟩;obtain⟨u,hu⟩:=ptr_some (addT nb (f,id,tz) r);rw[hu];have HU:=Lib.hid hu;clear hu;have hb3:=F3.keeps (b:=b) hb1 (fun h=>n2 h);have f5:=node_free hb3 6;obtain⟨_,_,_,_,_,_,c5'⟩:=node_cells hb3))
 all_goals
  have F3' :Fr (· ∈blocksT (.node b 0 a l r)) w w3:=F1.drew.next F3 (fun k _ e=>List.mem_cons_of_mem _ (List.mem_append_right _ e))
  have U3:treeIn w3 l:=treeIn.frame F3 T1 (fun k hk e=>n5 k hk e)
  have hperm:=add_blocks nb (f,id,tz) hr
  have hs1:w1.heap.size<=nb:=hnb
  have hnt:b∉blocksT (addT nb (f,id,tz) r):=fun h=>by
   rcases List.mem_cons.1 (hperm.mem_iff.1 h) with h|h
   · omega
   · exact n2 h
  have hlt:=T1.lt
  have hnd:(blocksT (.node b 0 a l (addT nb (f,id,tz) r))).Nodup:=by
   refine List.nodup_cons.2 ⟨fun h=> ?_,List.nodup_append.2 ⟨n3,hperm.nodup_iff.2 (List.nodup_cons.2 ⟨fun h=> ?_,n4⟩),fun y h1 z h2 e=> ?_⟩⟩
   · rcases List.mem_append.1 h with h|h
     · exact n1 h
     · exact hnt h
   · have:=U1.lt nb h;omega
   · subst e
     rcases List.mem_cons.1 (hperm.mem_iff.1 h2) with h|h
     · subst h;have:=hlt _ h1;omega
     · exact n5 y h1 h
  have hlen:=add_length nb (f,id,tz) hr
  have hfit:=add_fit nb (f,id,tz) hr
  have HH:=Lib.hid (And.intro hperm (And.intro hlen (And.intro hfit hnd)))
  have FS:Fr (· =b) w3 (w3.setCell ⟨b,6,none⟩ (.pointer u)):=Fr.setCell (F:=(· =b)) (Fr.refl _ w3) (p:=⟨b,6,none⟩) (fun _=>rfl) _
  have T4:=treeIn.frame FS T3 (fun k hk e=>by subst e;exact hnt hk)
  have U4:=treeIn.frame FS U3 (fun k hk e=>by subst e;exact n1 hk)
  have B4:=node_set6 hb3 (.pointer u)
  rw[<-EL.out, <-HU.out] at B4
  rw[<-HU.out] at T4 U4
  have F4:=F3'.next FS (fun k _ e=>show k∈blocksT (.node b 0 a l r) from by simp[blocksT,e])
  rw[<-HU.out] at F4
  clear hperm hlen hfit hnd FS T3 U3 hb3 c5' f5 F3 F3' T1 U1 hb1 k1 k2 c5 hlt
  go_wp2_with fail
  rw[<-HU.out]
  refine(level_any b a l (addT nb (f,id,tz) r) _ ⟨⟨rfl,B4⟩,U4,T4⟩ HH.out.2.2.2 hl HH.out.2.2.1 (by rw[HH.out.2.1];omega)).mono ?_
  rintro e w5 ⟨rfl,T5,F5⟩
  have hfin:addT nb (f,id,tz) (.node b 0 a l r)=levelT b a l (addT nb (f,id,tz) r):=addT_neg HAH.out
  have HF:=Lib.hid hfin
  clear hfin
  have F6:=F4.next F5 (fun k hk e=>by
   rcases List.mem_cons.1 e with e|e
   · simp[blocksT,e]
   · rcases List.mem_append.1 e with e|e
     · simp[blocksT,e]
     · rcases List.mem_cons.1 (HH.out.1.mem_iff.1 e) with e|e
       · omega
       · simp[blocksT,e])
  go_wp2_with fail
  go_ret
  exact⟨nb,by omega,by rw[HF.out];rfl,by rw[HF.out];exact T5,F6⟩
theorem add_any (id f tz:Int): ∀(t:BT Nd) (w:World),treeIn w t->(blocksT t).Nodup->FitT t->(itemsT t).length<549755813888→
  Calls Tryz.prog 310 #[t.ptr,.int .i64 id,.agg #[.int .i64 f,.int .i64 tz]] w (AddPost (f,id,tz) t w)
 | .nil,w,_,_,_,_=>add_nil id f tz w
 | .node b o a l r,w,hin,hsep,hf,hc=>by
   obtain rfl:o=0:=hf.1
   have hlen:(itemsT (.node b 0 a l r)).length=(itemsT l).length+1+(itemsT r).length:=by simp[itemsT];omega
   show Calls Tryz.prog 310 #[.pointer (some ⟨b,0,none⟩),.int .i64 id,.agg #[.int .i64 f,.int .i64 tz]] w _
   cases h:aheadB (f,id,tz) (itN a)
   · exact add_right id f tz b a l r (fun w h1 h2 h3 h4=>add_any id f tz r w h1 h2 h3 h4) w hin hsep hf.2.2.2.1 hf.2.2.2.2 (by omega) h
   · exact add_left id f tz b a l r (fun w h1 h2 h3 h4=>add_any id f tz l w h1 h2 h3 h4) w hin hsep hf.2.2.2.1 hf.2.2.2.2 (by omega) h
theorem drop_blocks: ∀ {t:BT Nd} (x:It),FitT t->SrtT (itemsT t)->((itemsT t).map (·.2.1)).Nodup->x∈itemsT t->(blocksT t).Nodup→
  (blocksT (dropT t x)).Nodup/\ ∀k∈blocksT (dropT t x),k∈blocksT t
 | .nil,_,_,_,_,h,_=>by cases h
 | .node b o a l r,x,h,hs,hu,hm,hd=>by
   obtain⟨s1,s2,s3,s4⟩:=srt_parts hs
   obtain⟨u1,u2⟩:=nodup_parts hu
   obtain⟨n1,n2,n3,n4,n5⟩:=sep_node hd
   have hma:itN a∈itemsT (.node b o a l r):=by simp[itemsT]
   have hspec:=drop_spec x h hs hu hm
   unfold dropT
   by_cases hid:a.id=x.2.1
   · rw [if_pos hid]
     by_cases hl:isNil l=true
     · rw[if_pos hl];exact⟨n4,fun k hk=>by simp[blocksT,hk]⟩
     · rw [if_neg hl]
       by_cases hr:isNil r=true
       · rw[if_pos hr];exact⟨n3,fun k hk=>by simp[blocksT,hk]⟩
       · rw [if_neg hr]
         have hrn:r≠ .nil:=fun e=>hr (isNil_iff.2 e)
         obtain⟨rest,hrest⟩:=first_spec x hrn
         have hmr:firstT x r∈itemsT r:=by rw[hrest];simp
         obtain⟨d1,d2,d3⟩:=drop_spec (firstT x r) h.2.2.2.2 s2 u2 hmr
         obtain⟨e1,e2⟩:=drop_blocks (firstT x r) h.2.2.2.2 s2 u2 hmr n4
         have hp:=level_blocks (b:=b) (a:=⟨(firstT x r).2.1,(firstT x r).1,(firstT x r).2.2,a.last,a.high⟩) h.2.2.2.1 d1
         refine⟨hp.nodup_iff.2 (List.nodup_cons.2 ⟨?_,List.nodup_append.2 ⟨n3,e1,fun y h1 z h2 e=>n5 y h1 (by rw[e];exact e2 z h2)⟩⟩),fun k hk=> ?_⟩
         · rw[List.mem_append];rintro(h1|h1);exact n1 h1;exact n2 (e2 _ h1)
         · rcases List.mem_cons.1 (hp.mem_iff.1 hk) with h1|h1
           · simp[blocksT,h1]
           · rcases List.mem_append.1 h1 with h1|h1
             · simp[blocksT,h1]
             · simp[blocksT,e2 k h1]
   · rw [if_neg hid]
     by_cases hc:aheadP x (itN a)
     · rw [if_pos hc]
       have hml:x∈itemsT l:=by
        rcases List.mem_append.1 (show x∈itemsT l++itN a::itemsT r from hm) with h1|h1
        · exact h1
        · rcases List.mem_cons.1 h1 with h2|h2
          · rw[h2] at hid;exact absurd rfl hid
          · exact absurd (ahead_trans hc (s4 x h2)) (ahead_irrefl x)
       obtain⟨d1,d2,d3⟩:=drop_spec x h.2.2.2.1 s1 u1 hml
       obtain⟨e1,e2⟩:=drop_blocks x h.2.2.2.1 s1 u1 hml n3
       have hp:=level_blocks (b:=b) (a:=a) d1 h.2.2.2.2
       refine⟨hp.nodup_iff.2 (List.nodup_cons.2 ⟨?_,List.nodup_append.2 ⟨e1,n4,fun y h1 z h2 e=>n5 y (e2 y h1) (by rw[e];exact h2)⟩⟩),fun k hk=> ?_⟩
       · rw[List.mem_append];rintro(h1|h1);exact n1 (e2 _ h1);exact n2 h1
       · rcases List.mem_cons.1 (hp.mem_iff.1 hk) with h1|h1
         · simp[blocksT,h1]
         · rcases List.mem_append.1 h1 with h1|h1
           · simp[blocksT,e2 k h1]
           · simp[blocksT,h1]
     · rw [if_neg hc]
       have hmr:x∈itemsT r:=by
        rcases List.mem_append.1 (show x∈itemsT l++itN a::itemsT r from hm) with h1|h1
        · exact absurd (s3 x h1) hc
        · rcases List.mem_cons.1 h1 with h2|h2
          · rw[h2] at hid;exact absurd rfl hid
          · exact h2
       obtain⟨d1,d2,d3⟩:=drop_spec x h.2.2.2.2 s2 u2 hmr
       obtain⟨e1,e2⟩:=drop_blocks x h.2.2.2.2 s2 u2 hmr n4
       have hp:=level_blocks (b:=b) (a:=a) h.2.2.2.1 d1
       refine⟨hp.nodup_iff.2 (List.nodup_cons.2 ⟨?_,List.nodup_append.2 ⟨n3,e1,fun y h1 z h2 e=>n5 y h1 (by rw[e];exact e2 z h2)⟩⟩),fun k hk=> ?_⟩
       · rw[List.mem_append];rintro(h1|h1);exact n1 h1;exact n2 (e2 _ h1)
       · rcases List.mem_cons.1 (hp.mem_iff.1 hk) with h1|h1
         · simp[blocksT,h1]
         · rcases List.mem_append.1 h1 with h1|h1
           · simp[blocksT,h1]
           · simp[blocksT,e2 k h1]
def DropPost (x:It) (t:BT Nd) (w:World) (e:Ending) (w' :World):Prop:=e= .returned (dropT t x).ptr/\treeIn w' (dropT t x)/\Fr (· ∈blocksT t) w w'
theorem dropT_pos {b o:Nat} {x:It} {a:Nd} {l r:BT Nd} (hid:(a.id==x.2.1)=false) (h:aheadB x (itN a)=true):dropT (.node b o a l r) x=levelT b a (dropT l x) r:=by
 show(if a.id=x.2.1 then _ else if aheadP x (itN a) then _ else _)=_
 rw[if_neg (by simpa using hid),if_pos (by unfold aheadB at h;simpa using h)]
theorem dropT_neg {b o:Nat} {x:It} {a:Nd} {l r:BT Nd} (hid:(a.id==x.2.1)=false) (h:aheadB x (itN a)=false):dropT (.node b o a l r) x=levelT b a l (dropT r x):=by
 show(if a.id=x.2.1 then _ else if aheadP x (itN a) then _ else _)=_
 rw[if_neg (by simpa using hid),if_neg (by unfold aheadB at h;simpa using h)]
theorem dropT_lnil {b o:Nat} {x:It} {a:Nd} {r:BT Nd} (hid:(a.id==x.2.1)=true):dropT (.node b o a .nil r) x=r:=by
 show(if a.id=x.2.1 then _ else if aheadP x (itN a) then _ else _)=_
 rw[if_pos (by simpa using hid)];rfl
theorem dropT_rnil {b o:Nat} {x:It} {a:Nd} {l:BT Nd} (hid:(a.id==x.2.1)=true) (hl:l≠ .nil):dropT (.node b o a l .nil) x=l:=by
 show(if a.id=x.2.1 then _ else if aheadP x (itN a) then _ else _)=_
 rw[if_pos (by simpa using hid),if_neg (by rw[isNil_iff];exact hl)];rfl
theorem dropT_mid {b o:Nat} {x:It} {a:Nd} {l r:BT Nd} (hid:(a.id==x.2.1)=true) (hl:l≠ .nil) (hr:r≠ .nil):dropT (.node b o a l r) x=levelT b ⟨(firstT x r).2.1,(firstT x r).1,(firstT x r).2.2,a.last,a.high⟩ l (dropT r (firstT x r)):=by
 show(if a.id=x.2.1 then _ else if aheadP x (itN a) then _ else _)=_
 rw[if_pos (by simpa using hid),if_neg (by rw[isNil_iff];exact hl),if_neg (by rw[isNil_iff];exact hr)]
theorem ptr_ne {t:BT Nd} (h:t≠ .nil): ∃a,t.ptr= .pointer (some a):=by cases t;exact absurd rfl h;exact⟨_,rfl⟩
set_option maxRecDepth 100000 in
set_option maxHeartbeats 4000000 in
theorem drop_lnil (id f tz:Int) (b:Nat) (a:Nd) (r:BT Nd) (w:World) (hin:treeIn w (.node b 0 a .nil r)) (hid:(a.id==id)=true):
  Calls Tryz.prog 222 #[.pointer (some ⟨b,0,none⟩),.int .i64 id,.agg #[.int .i64 f,.int .i64 tz]] w (DropPost (f,id,tz) (.node b 0 a .nil r) w):=by
 obtain⟨_,hb,_,hrr⟩:=hin.parts
 obtain⟨rp,er⟩:=ptr_some r
 rw[er] at hb
 have hbn:w.heap[b]? =some (nodeO a (.pointer none) (.pointer rp)):=hb
 obtain⟨c0,_,_,_,_,c5,c6⟩:=node_cells hbn
 have hbl:=lt_of_block hb
 have ER:=Lib.hid er
 have HB:=Lib.hid hbn
 clear er hb hbn
 go_enter Tryz.func222,Tryz.ntmps222
 go_wp2_with fail
 go_ret
 refine⟨by rw[dropT_lnil hid,ER.out];rfl,by rw[dropT_lnil hid];exact treeIn.frame (F:=fun _=>False) (Fr.alloc (Fr.refl _ w) _) hrr (fun _ _ e=>e),Fr.alloc (Fr.refl _ w) _⟩
set_option maxRecDepth 100000 in
set_option maxHeartbeats 4000000 in
theorem drop_rnil (id f tz:Int) (b:Nat) (a:Nd) (l:BT Nd) (w:World) (hin:treeIn w (.node b 0 a l .nil)) (hl:l≠ .nil) (hid:(a.id==id)=true):
  Calls Tryz.prog 222 #[.pointer (some ⟨b,0,none⟩),.int .i64 id,.agg #[.int .i64 f,.int .i64 tz]] w (DropPost (f,id,tz) (.node b 0 a l .nil) w):=by
 obtain⟨_,hb,hll,_⟩:=hin.parts
 obtain⟨lp,el⟩:=ptr_ne hl
 rw[el] at hb
 have hbn:w.heap[b]? =some (nodeO a (.pointer (some lp)) (.pointer none)):=hb
 obtain⟨c0,_,_,_,_,c5,c6⟩:=node_cells hbn
 have hbl:=lt_of_block hb
 have EL:=Lib.hid el
 have HB:=Lib.hid hbn
 clear el hb hbn
 go_enter Tryz.func222,Tryz.ntmps222
 go_wp2_with fail
 go_ret
 refine⟨by rw[dropT_rnil hid hl,EL.out];rfl,by rw[dropT_rnil hid hl];exact treeIn.frame (F:=fun _=>False) (Fr.alloc (Fr.refl _ w) _) hll (fun _ _ e=>e),Fr.alloc (Fr.refl _ w) _⟩
structure DropOk (t:BT Nd) (x:It):Prop where
 sep:(blocksT t).Nodup
 fit:FitT t
 srt:SrtT (itemsT t)
 ids:((itemsT t).map (·.2.1)).Nodup
 mem:x∈itemsT t
 len:(itemsT t).length<549755813888
structure Dropped (t t' :BT Nd):Prop where
 sep:(blocksT t').Nodup
 sub: ∀k∈blocksT t',k∈blocksT t
 fit:FitT t'
 len:(itemsT t').length<=(itemsT t).length
theorem DropOk.out {t:BT Nd} {x:It} (h:DropOk t x):Dropped t (dropT t x):=by
 obtain⟨d1,d2,d3⟩:=drop_spec x h.fit h.srt h.ids h.mem
 obtain⟨e1,e2⟩:=drop_blocks x h.fit h.srt h.ids h.mem h.sep
 exact⟨e1,e2,d1,by have:=d3.length_eq;simp at this;omega⟩
set_option maxRecDepth 100000 in
set_option maxHeartbeats 4000000 in
theorem drop_left (id f tz:Int) (b:Nat) (a:Nd) (l r:BT Nd) (ihl: ∀w,treeIn w l->Calls Tryz.prog 222 #[l.ptr,.int .i64 id,.agg #[.int .i64 f,.int .i64 tz]] w (DropPost (f,id,tz) l w))
  (w:World) (hin:treeIn w (.node b 0 a l r)) (hsep:(blocksT (.node b 0 a l r)).Nodup) (_hl:FitT l) (hr:FitT r) (hc:(itemsT l).length+(itemsT r).length<549755813888)
  (hD:Dropped l (dropT l (f,id,tz))) (hid:(a.id==id)=false) (hah:aheadB (f,id,tz) (itN a)=true):
  Calls Tryz.prog 222 #[.pointer (some ⟨b,0,none⟩),.int .i64 id,.agg #[.int .i64 f,.int .i64 tz]] w (DropPost (f,id,tz) (.node b 0 a l r) w):=by
 obtain⟨_,hb,hll,hrr⟩:=hin.parts
 obtain⟨n1,n2,n3,n4,n5⟩:=sep_node hsep
 have hfin:dropT (.node b 0 a l r) (f,id,tz)=levelT b a (dropT l (f,id,tz)) r:=dropT_pos hid hah
 obtain⟨lp,el⟩:=ptr_some l
 obtain⟨rp,er⟩:=ptr_some r
 rw[el,er] at hb
 rw[el] at ihl
 obtain⟨L',hL'⟩: ∃L',L' =dropT l (f,id,tz):=⟨_,rfl⟩
 have ihl: ∀w,treeIn w l->Calls Tryz.prog 222 #[.pointer lp,.int .i64 id,.agg #[.int .i64 f,.int .i64 tz]] w fun e w' =>e= .returned L'.ptr/\treeIn w' L' /\Fr (· ∈blocksT l) w w' :=by rw[hL'];exact ihl
 rw[<-hL'] at hfin hD
 have HF:=Lib.hid hfin
 have EL:=Lib.hid el
 have ER:=Lib.hid er
 have IHL:=Lib.hid ihl
 have HAH:=Lib.hid hah
 have HDD:=Lib.hid hD
 have HINN:=Lib.hid hin
 clear el er ihl hah hfin hL' hD hin
 have hbl:=lt_of_block hb
 obtain⟨d0,_,_,_,_,_,_⟩:=node_cells hb
 have HB:=Lib.hid hb
 clear hb
 go_enter Tryz.func222,Tryz.ntmps222
 go_wp2_with fail
 refine(ahead_any id f tz b a _ _ _ (block_alloc HB.out _)).mono ?_
 rintro e w1 ⟨rfl,B1⟩
 rw[HAH.out]
 have F1:Fr (· ∈blocksT (.node b 0 a l r)) w w1:=((Fr.refl _ w).alloc _).next (Fr.new B1) (fun k _ e=>e)
 have s1:w.heap.size<w1.heap.size:=by have:=B1.size;simp at this;omega
 have hb1:w1.heap[b]? =some (nodeO a (.pointer lp) (.pointer rp)):=(B1.block b (by simp;omega)).trans (block_alloc HB.out _)
 have T1:treeIn w1 l:=treeIn.frame (Fr.new (F:=fun _=>False) (((Below.refl _ w).alloc (Nat.le_refl _) _).trans (B1.mono (by simp)))) hll (fun _ _ e=>e)
 have U1:treeIn w1 r:=treeIn.frame (Fr.new (F:=fun _=>False) (((Below.refl _ w).alloc (Nat.le_refl _) _).trans (B1.mono (by simp)))) hrr (fun _ _ e=>e)
 have k1:w1.cell? ⟨w.heap.size,0,none⟩=some (.int .i64 f):=(B1.cell (p:=⟨w.heap.size,0,none⟩) (by simp)).trans (by simp)
 have k2:w1.cell? ⟨w.heap.size,1,none⟩=some (.int .i64 tz):=(B1.cell (p:=⟨w.heap.size,1,none⟩) (by simp)).trans (by simp)
 obtain⟨_,_,_,_,_,c5,_⟩:=node_cells hb1
 clear B1 hll hrr d0
 go_wp2_with fail
 go_region_with ((go_at_call 222;refine(IHL.out _ (by exact T1)).mono ?_;rintro e w3 ⟨rfl,T3,F3⟩;obtain⟨u,hu⟩:=ptr_some L';rw[hu];have HU:=Lib.hid hu;clear hu;have hb3:=F3.keeps (b:=b) hb1 (fun h=>n1 h);have f5:=node_free hb3 5;obtain⟨_,_,_,_,_,c5',_⟩:=node_cells hb3))
 all_goals
  have F3' :Fr (· ∈blocksT (.node b 0 a l r)) w w3:=F1.drew.next F3 (fun k _ e=>List.mem_cons_of_mem _ (List.mem_append_left _ e))
  have U3:treeIn w3 r:=treeIn.frame F3 U1 (fun k hk e=>n5 k e hk)
  have hnt:b∉blocksT L' :=fun h=>n1 (HDD.out.sub b h)
  have hnd:(blocksT (.node b 0 a L' r)).Nodup:=by
   refine List.nodup_cons.2 ⟨fun h=> ?_,List.nodup_append.2 ⟨HDD.out.sep,n4,fun y h1 z h2 e=>n5 y (HDD.out.sub y h1) (by rw[e];exact h2)⟩⟩
   rcases List.mem_append.1 h with h|h
   · exact hnt h
   · exact n2 h
  have FS:Fr (· =b) w3 (w3.setCell ⟨b,5,none⟩ (.pointer u)):=Fr.setCell (F:=(· =b)) (Fr.refl _ w3) (p:=⟨b,5,none⟩) (fun _=>rfl) _
  have T4:=treeIn.frame FS T3 (fun k hk e=>by subst e;exact hnt hk)
  have U4:=treeIn.frame FS U3 (fun k hk e=>by subst e;exact n2 hk)
  have B4:=node_set5 hb3 (.pointer u)
  rw[<-ER.out, <-HU.out] at B4
  rw[<-HU.out] at T4 U4
  have F4:=F3'.next FS (fun k _ e=>show k∈blocksT (.node b 0 a l r) from by simp[blocksT,e])
  rw[<-HU.out] at F4
  clear FS T3 U3 hb3 c5' f5 F3 F3' T1 U1 hb1 k1 k2 c5
  go_wp2_with fail
  rw[<-HU.out]
  refine(level_any b a L' r _ ⟨⟨rfl,B4⟩,T4,U4⟩ hnd HDD.out.fit hr (by have:=HDD.out.len;omega)).mono ?_
  rintro e w5 ⟨rfl,T5,F5⟩
  have F6:=F4.next F5 (fun k hk e=>by
   rcases List.mem_cons.1 e with e|e
   · simp[blocksT,e]
   · rcases List.mem_append.1 e with e|e
     · simp[blocksT,HDD.out.sub k e]
     · simp[blocksT,e])
  go_wp2_with fail
  go_ret
  exact⟨by rw[HF.out];rfl,by rw[HF.out];exact T5,F6⟩
set_option maxRecDepth 100000 in
set_option maxHeartbeats 4000000 in
theorem drop_right (id f tz:Int) (b:Nat) (a:Nd) (l r:BT Nd) (ihr: ∀w,treeIn w r->Calls Tryz.prog 222 #[r.ptr,.int .i64 id,.agg #[.int .i64 f,.int .i64 tz]] w (DropPost (f,id,tz) r w))
  (w:World) (hin:treeIn w (.node b 0 a l r)) (hsep:(blocksT (.node b 0 a l r)).Nodup) (hl:FitT l) (_hr:FitT r) (hc:(itemsT l).length+(itemsT r).length<549755813888)
  (hD:Dropped r (dropT r (f,id,tz))) (hid:(a.id==id)=false) (hah:aheadB (f,id,tz) (itN a)=false):
  Calls Tryz.prog 222 #[.pointer (some ⟨b,0,none⟩),.int .i64 id,.agg #[.int .i64 f,.int .i64 tz]] w (DropPost (f,id,tz) (.node b 0 a l r) w):=by
 obtain⟨_,hb,hll,hrr⟩:=hin.parts
 obtain⟨n1,n2,n3,n4,n5⟩:=sep_node hsep
 have hfin:dropT (.node b 0 a l r) (f,id,tz)=levelT b a l (dropT r (f,id,tz)):=dropT_neg hid hah
 obtain⟨lp,el⟩:=ptr_some l
 obtain⟨rp,er⟩:=ptr_some r
 rw[el,er] at hb
 rw[er] at ihr
 obtain⟨L',hL'⟩: ∃L',L' =dropT r (f,id,tz):=⟨_,rfl⟩
 have ihr: ∀w,treeIn w r->Calls Tryz.prog 222 #[.pointer rp,.int .i64 id,.agg #[.int .i64 f,.int .i64 tz]] w fun e w' =>e= .returned L'.ptr/\treeIn w' L' /\Fr (· ∈blocksT r) w w' :=by rw[hL'];exact ihr
 rw[<-hL'] at hfin hD
 have HF:=Lib.hid hfin
 have EL:=Lib.hid el
 have ER:=Lib.hid er
 have IHL:=Lib.hid ihr
 have HAH:=Lib.hid hah
 have HDD:=Lib.hid hD
 have HINN:=Lib.hid hin
 clear el er ihr hah hfin hL' hD hin
 have hbl:=lt_of_block hb
 obtain⟨d0,_,_,_,_,_,_⟩:=node_cells hb
 have HB:=Lib.hid hb
 clear hb
 go_enter Tryz.func222,Tryz.ntmps222
 go_wp2_with fail
 refine(ahead_any id f tz b a _ _ _ (block_alloc HB.out _)).mono ?_
 rintro e w1 ⟨rfl,B1⟩
 rw[HAH.out]
 have F1:Fr (· ∈blocksT (.node b 0 a l r)) w w1:=((Fr.refl _ w).alloc _).next (Fr.new B1) (fun k _ e=>e)
 have s1:w.heap.size<w1.heap.size:=by have:=B1.size;simp at this;omega
 have hb1:w1.heap[b]? =some (nodeO a (.pointer lp) (.pointer rp)):=(B1.block b (by simp;omega)).trans (block_alloc HB.out _)
 have T1:treeIn w1 l:=treeIn.frame (Fr.new (F:=fun _=>False) (((Below.refl _ w).alloc (Nat.le_refl _) _).trans (B1.mono (by simp)))) hll (fun _ _ e=>e)
 have U1:treeIn w1 r:=treeIn.frame (Fr.new (F:=fun _=>False) (((Below.refl _ w).alloc (Nat.le_refl _) _).trans (B1.mono (by simp)))) hrr (fun _ _ e=>e)
 have k1:w1.cell? ⟨w.heap.size,0,none⟩=some (.int .i64 f):=(B1.cell (p:=⟨w.heap.size,0,none⟩) (by simp)).trans (by simp)
 have k2:w1.cell? ⟨w.heap.size,1,none⟩=some (.int .i64 tz):=(B1.cell (p:=⟨w.heap.size,1,none⟩) (by simp)).trans (by simp)
 obtain⟨_,_,_,_,_,_,c5⟩:=node_cells hb1
 clear B1 hll hrr d0
 go_wp2_with fail
 go_region_with ((go_at_call 222;refine(IHL.out _ (by exact U1)).mono ?_;rintro e w3 ⟨rfl,T3,F3⟩;obtain⟨u,hu⟩:=ptr_some L';rw[hu];have HU:=Lib.hid hu;clear hu;have hb3:=F3.keeps (b:=b) hb1 (fun h=>n2 h);have f5:=node_free hb3 6;obtain⟨_,_,_,_,_,_,c5'⟩:=node_cells hb3))
 all_goals
  have F3' :Fr (· ∈blocksT (.node b 0 a l r)) w w3:=F1.drew.next F3 (fun k _ e=>List.mem_cons_of_mem _ (List.mem_append_right _ e))
  have U3:treeIn w3 l:=treeIn.frame F3 T1 (fun k hk e=>n5 k hk e)
  have hnt:b∉blocksT L' :=fun h=>n2 (HDD.out.sub b h)
  have hnd:(blocksT (.node b 0 a l L')).Nodup:=by
   refine List.nodup_cons.2 ⟨fun h=> ?_,List.nodup_append.2 ⟨n3,HDD.out.sep,fun y h1 z h2 e=>n5 y h1 (by rw[e];exact HDD.out.sub z h2)⟩⟩
   rcases List.mem_append.1 h with h|h
   · exact n1 h
   · exact hnt h
  have FS:Fr (· =b) w3 (w3.setCell ⟨b,6,none⟩ (.pointer u)):=Fr.setCell (F:=(· =b)) (Fr.refl _ w3) (p:=⟨b,6,none⟩) (fun _=>rfl) _
  have T4:=treeIn.frame FS T3 (fun k hk e=>by subst e;exact hnt hk)
  have U4:=treeIn.frame FS U3 (fun k hk e=>by subst e;exact n1 hk)
  have B4:=node_set6 hb3 (.pointer u)
  rw[<-EL.out, <-HU.out] at B4
  rw[<-HU.out] at T4 U4
  have F4:=F3'.next FS (fun k _ e=>show k∈blocksT (.node b 0 a l r) from by simp[blocksT,e])
  rw[<-HU.out] at F4
  clear FS T3 U3 hb3 c5' f5 F3 F3' T1 U1 hb1 k1 k2 c5
  go_wp2_with fail
  rw[<-HU.out]
  refine(level_any b a l L' _ ⟨⟨rfl,B4⟩,U4,T4⟩ hnd hl HDD.out.fit (by have:=HDD.out.len;omega)).mono ?_
  rintro e w5 ⟨rfl,T5,F5⟩
  have F6:=F4.next F5 (fun k hk e=>by
   rcases List.mem_cons.1 e with e|e
   · simp[blocksT,e]
   · rcases List.mem_append.1 e with e|e
     · simp[blocksT,e]
     · simp[blocksT,HDD.out.sub k e])
  go_wp2_with fail
  go_ret
  exact⟨by rw[HF.out];rfl,by rw[HF.out];exact T5,F6⟩
def leftLen:BT Nd->Nat
 | .nil=>0
 | .node _ _ _ l _=>leftLen l+1
def OnWay (w:World) (r:BT Nd) (x:It) (k:Nat) (p:Value):Prop:=
 ∃(fb:Nat) (fa:Nd) (fl fr:BT Nd),p= .pointer (some ⟨fb,0,none⟩)/\treeIn w (.node fb 0 fa fl fr)/\firstT x r=firstT (itN fa) fl/\leftLen fl<=k/\ ∀k∈blocksT (.node fb 0 fa fl fr),k∈blocksT r
theorem S_far {W:World} {b fb:Nat} {fa:Nd} (hbf:b≠fb) (h:W.cell? ⟨fb,0,none⟩=some (.int .i64 fa.id)/\W.cell? ⟨fb,1,none⟩=some (.int .i64 fa.f)/\W.cell? ⟨fb,2,none⟩=some (.int .i64 fa.t)) (i:Nat) (v:Value):
  (W.setCell ⟨b,i,none⟩ v).cell? ⟨fb,0,none⟩=some (.int .i64 fa.id)/\(W.setCell ⟨b,i,none⟩ v).cell? ⟨fb,1,none⟩=some (.int .i64 fa.f)/\(W.setCell ⟨b,i,none⟩ v).cell? ⟨fb,2,none⟩=some (.int .i64 fa.t):=by
 have e: ∀j,(W.setCell ⟨b,i,none⟩ v).cell? ⟨fb,j,none⟩=W.cell? ⟨fb,j,none⟩:=fun j=>World.cell?_setCell_far _ _ _ _ hbf
 exact⟨(e 0).trans h.1,(e 1).trans h.2.1,(e 2).trans h.2.2⟩
structure MidW (w:World) (b:Nat) (a:Nd) (lp rp:Addr) (l r:BT Nd) (W:World):Prop where
 hb:W.heap[b]? =some (nodeO a (.pointer (some lp)) (.pointer (some rp)))
 tl:treeIn W l
 tr:treeIn W r
 fr:Fr (· ∈blocksT (.node b 0 a l r)) w W
theorem node_set0 {w:World} {b:Nat} {a:Nd} {l r:Value} (h:w.heap[b]? =some (nodeO a l r)) (v:Int):(w.setCell ⟨b,0,none⟩ (.int .i64 v)).heap[b]? =some (nodeO { a with id:=v } l r):=block_set h 0 _
theorem node_set1 {w:World} {b:Nat} {a:Nd} {l r:Value} (h:w.heap[b]? =some (nodeO a l r)) (v:Int):(w.setCell ⟨b,1,none⟩ (.int .i64 v)).heap[b]? =some (nodeO { a with f:=v } l r):=block_set h 1 _
theorem node_set2 {w:World} {b:Nat} {a:Nd} {l r:Value} (h:w.heap[b]? =some (nodeO a l r)) (v:Int):(w.setCell ⟨b,2,none⟩ (.int .i64 v)).heap[b]? =some (nodeO { a with t:=v } l r):=block_set h 2 _
set_option maxRecDepth 100000 in
set_option maxHeartbeats 8000000 in
theorem drop_mid (id f tz:Int) (b:Nat) (a:Nd) (l r:BT Nd) (ihr: ∀(y:It) w,treeIn w r->DropOk r y->Calls Tryz.prog 222 #[r.ptr,.int .i64 y.2.1,.agg #[.int .i64 y.1,.int .i64 y.2.2]] w (DropPost y r w))
  (w:World) (hin:treeIn w (.node b 0 a l r)) (hsep:(blocksT (.node b 0 a l r)).Nodup) (hl:FitT l) (hr:FitT r) (hc:(itemsT l).length+(itemsT r).length<549755813888)
  (hnl:l≠ .nil) (hnr:r≠ .nil) (hD:DropOk r (firstT (f,id,tz) r)) (hid:(a.id==id)=true):
  Calls Tryz.prog 222 #[.pointer (some ⟨b,0,none⟩),.int .i64 id,.agg #[.int .i64 f,.int .i64 tz]] w (DropPost (f,id,tz) (.node b 0 a l r) w):=by
 obtain⟨_,hb,hll,hrr⟩:=hin.parts
 obtain⟨n1,n2,n3,n4,n5⟩:=sep_node hsep
 have hfin:=dropT_mid (b:=b) (o:=0) (x:=(f,id,tz)) hid hnl hnr
 obtain⟨lp,el⟩:=ptr_ne hnl
 obtain⟨rp,er⟩:=ptr_ne hnr
 rw[el,er] at hb
 rw[er] at ihr
 have HF:=Lib.hid hfin
 have EL:=Lib.hid el
 have ER:=Lib.hid er
 have IHR:=Lib.hid ihr
 have HDD:=Lib.hid hD
 have HINN:=Lib.hid hin
 clear el er ihr hfin hD hin
 have hbl:=lt_of_block hb
 obtain⟨d0,_,_,_,_,d5,d6⟩:=node_cells hb
 have HB:=Lib.hid hb
 clear hb
 have hw0:OnWay (w.alloc (.cells #[.int .i64 f,.int .i64 tz] 107)) r (f,id,tz) (leftLen r) (.pointer (some rp)):=by
  cases r with
  | nil=>exact absurd rfl hnr
  | node rb ro ra rl rr=>
    have h0:ro=0:=hr.1
    subst h0
    have e:=ER.out
    cases e
    exact⟨rb,ra,rl,rr,rfl,treeIn.frame (F:=fun _=>False) (Fr.alloc (Fr.refl _ w) _) hrr (fun _ _ e=>e),rfl,by simp[leftLen],fun k hk=>hk⟩
 go_enter Tryz.func222,Tryz.ntmps222
 go_wp2_with fail
 have hM:MidW w b a lp rp l r (w.alloc (.cells #[.int .i64 f,.int .i64 tz] 107)):=
  ⟨block_alloc HB.out _,treeIn.frame (F:=fun _=>False) (Fr.alloc (Fr.refl _ w) _) hll (fun _ _ e=>e),treeIn.frame (F:=fun _=>False) (Fr.alloc (Fr.refl _ w) _) hrr (fun _ _ e=>e),Fr.alloc (Fr.refl _ w) _⟩
 go_loopg [7] (leftLen r) (fun k p wr=>OnWay wr r (f,id,tz) k p/\MidW w b a lp rp l r wr)
 case atStart=>exact⟨hw0,hM⟩
 case round=>
  obtain⟨hway,hM1⟩:=hrel
  obtain⟨fb,fa,fl,fr,rfl,hfi,hfe,hk,hfb⟩:=hway
  obtain⟨_,hfh,hfl,hfr⟩:=hfi.parts
  have HFE:=Lib.hid hfe
  have HFI:=Lib.hid hfi
  have HM1:=Lib.hid hM1
  clear hfe hfi hM1 hw0 hM
  cases fl with
  | node xb xo xa xl xr=>
    have h0:xo=0:=hfl.parts.1
    subst h0
    have hfh' :wr.heap[fb]? =some (nodeO fa (.pointer (some ⟨xb,0,none⟩)) fr.ptr):=hfh
    obtain⟨_,_,_,_,_,g5,_⟩:=node_cells hfh'
    clear hfh hfh'
    go_wp2_with fail
    go_roundg (leftLen xl)
    case measure=>simp[leftLen] at hk;omega
    case rel=>exact⟨⟨xb,xa,xl,xr,rfl,hfl,HFE.out,Nat.le_refl _,fun k hk=>hfb k (by simp only[blocksT,List.mem_cons,List.mem_append] at hk ⊢;exact Or.inr (Or.inl hk))⟩,HM1.out⟩
  | nil =>
    have hfh' :wr.heap[fb]? =some (nodeO fa (.pointer none) fr.ptr):=hfh
    obtain⟨g0,g1,g2,_,_,g5,_⟩:=node_cells hfh'
    have hbf:b≠fb:=fun e=>n2 (by rw[e];exact hfb fb (by simp[blocksT]))
    have hb1:=HM1.out.hb
    obtain⟨d0',d1',d2',_,_,d5',d6'⟩:=node_cells hb1
    have f0:=node_free hb1 0
    have f1:=node_free hb1 1
    have f2:=node_free hb1 2
    have HB1:=Lib.hid hb1
    have HFH:=Lib.hid hfh'
    clear hfh hfh' hb1 d0 d5 d6
    go_wp2_with fail
    go_region_held3 (fun W=>W.cell? ⟨fb,0,none⟩=some (.int .i64 fa.id)/\W.cell? ⟨fb,1,none⟩=some (.int .i64 fa.f)/\W.cell? ⟨fb,2,none⟩=some (.int .i64 fa.t))
     (first|exact⟨g0,g1,g2⟩|exact S_far (W:=wr) hbf ⟨g0,g1,g2⟩ 0 _|exact S_far hbf (S_far hbf (S_far (W:=wr) hbf ⟨g0,g1,g2⟩ 0 _) 1 _) 2 _) (fail)
    obtain⟨W2,hW2⟩: ∃W2,W2=(((wr.setCell ⟨b,0,none⟩ (.int .i64 fa.id)).setCell ⟨b,1,none⟩ (.int .i64 fa.f)).setCell ⟨b,2,none⟩ (.int .i64 fa.t)).drew:=⟨_,rfl⟩
    rw[<-hW2]
    have FS:Fr (· =b) wr W2:=by
     rw[hW2]
     exact Fr.drew (Fr.setCell (F:=(· =b)) (Fr.setCell (F:=(· =b)) (Fr.setCell (F:=(· =b)) (Fr.refl _ wr) (p:=⟨b,0,none⟩) (fun _=>rfl) _) (p:=⟨b,1,none⟩) (fun _=>rfl) _) (p:=⟨b,2,none⟩) (fun _=>rfl) _)
    have B2:W2.heap[b]? =some (nodeO ⟨fa.id,fa.f,fa.t,a.last,a.high⟩ (.pointer (some lp)) (.pointer (some rp))):=by rw[hW2];exact node_set2 (node_set1 (node_set0 HB1.out _) _) _
    have X2:=FS.keeps HFH.out (fun e=>hbf e.symm)
    have T2:=treeIn.frame FS HM1.out.tl (fun k hk e=>by subst e;exact n1 hk)
    have U2:=treeIn.frame FS HM1.out.tr (fun k hk e=>by subst e;exact n2 hk)
    have F2:=HM1.out.fr.next FS (fun k _ e=>show k∈blocksT (.node b 0 a l r) from by simp[blocksT,e])
    clear hW2 g0 g1 g2 g5 d0' d1' d2' d5' d6' f0 f1 f2 FS
    obtain⟨_,_,_,_,_,_,c6⟩:=node_cells B2
    obtain⟨x0,x1,x2,_,_,_,_⟩:=node_cells X2
    have hx:firstT (f,id,tz) r=itN fa:=HFE.out
    have hD' :DropOk r (itN fa):=hx▸HDD.out
    have hdd:=hD'.out
    have hfin:=HF.out
    rw[hx] at hfin
    obtain⟨R',hR'⟩: ∃R',R' =dropT r (itN fa):=⟨_,rfl⟩
    have ih2: ∀w,treeIn w r->Calls Tryz.prog 222 #[.pointer (some rp),.int .i64 fa.id,.agg #[.int .i64 fa.f,.int .i64 fa.t]] w fun e w' =>e= .returned R'.ptr/\treeIn w' R' /\Fr (· ∈blocksT r) w w' :=fun w h=>by rw[hR'];exact IHR.out (itN fa) w h hD'
    rw[<-hR'] at hfin hdd
    have hfin:dropT (.node b 0 a l r) (f,id,tz)=levelT b ⟨fa.id,fa.f,fa.t,a.last,a.high⟩ l R' :=hfin
    have HFIN:=Lib.hid hfin
    have HD2:=Lib.hid hdd
    have IH2:=Lib.hid ih2
    clear hfin hdd ih2 hR' hx hD' X2
    go_wp2_with fail
    go_region_with ((go_at_call 222;refine(IH2.out _ (by exact U2)).mono ?_;rintro e w3 ⟨rfl,T3,F3⟩;obtain⟨u,hu⟩:=ptr_some R';rw[hu];have HU:=Lib.hid hu;clear hu;have hb3:=F3.keeps (b:=b) B2 (fun h=>n2 h);have f6:=node_free hb3 6;obtain⟨_,_,_,_,_,_,c6'⟩:=node_cells hb3))
    all_goals
     have F3' :Fr (· ∈blocksT (.node b 0 a l r)) w w3:=F2.drew.next F3 (fun k _ e=>List.mem_cons_of_mem _ (List.mem_append_right _ e))
     have T3' :treeIn w3 l:=treeIn.frame F3 T2 (fun k hk e=>n5 k hk e)
     have hnt:b∉blocksT R' :=fun h=>n2 (HD2.out.sub b h)
     have hnd:(blocksT (.node b 0 a l R')).Nodup:=by
      refine List.nodup_cons.2 ⟨fun h=> ?_,List.nodup_append.2 ⟨n3,HD2.out.sep,fun y h1 z h2 e=>n5 y h1 (by rw[e];exact HD2.out.sub z h2)⟩⟩
      rcases List.mem_append.1 h with h|h
      · exact n1 h
      · exact hnt h
     have FS:Fr (· =b) w3 (w3.setCell ⟨b,6,none⟩ (.pointer u)):=Fr.setCell (F:=(· =b)) (Fr.refl _ w3) (p:=⟨b,6,none⟩) (fun _=>rfl) _
     have T4:=treeIn.frame FS T3 (fun k hk e=>by subst e;exact hnt hk)
     have U4:=treeIn.frame FS T3' (fun k hk e=>by subst e;exact n1 hk)
     have B4:=node_set6 hb3 (.pointer u)
     rw[<-EL.out, <-HU.out] at B4
     rw[<-HU.out] at T4 U4
     have F4:=F3'.next FS (fun k _ e=>show k∈blocksT (.node b 0 a l r) from by simp[blocksT,e])
     rw[<-HU.out] at F4
     clear FS T3 T3' hb3 c6' f6 F3 F3' T2 U2 B2 c6 x0 x1 x2
     go_wp2_with fail
     rw[<-HU.out]
     refine(level_any b ⟨fa.id,fa.f,fa.t,a.last,a.high⟩ l R' _ ⟨⟨rfl,B4⟩,U4,T4⟩ hnd hl HD2.out.fit (by have:=HD2.out.len;omega)).mono ?_
     rintro e w5 ⟨rfl,T5,F5⟩
     have F6:=F4.next F5 (fun k hk e=>by
      rcases List.mem_cons.1 e with e|e
      · simp[blocksT,e]
      · rcases List.mem_append.1 e with e|e
        · simp[blocksT,e]
        · simp[blocksT,HD2.out.sub k e])
     go_wp2_with fail
     go_ret
     exact⟨by rw[HFIN.out];rfl,by rw[HFIN.out];exact T5,F6⟩
theorem drop_any: ∀(t:BT Nd) (x:It) (w:World),treeIn w t->DropOk t x->Calls Tryz.prog 222 #[t.ptr,.int .i64 x.2.1,.agg #[.int .i64 x.1,.int .i64 x.2.2]] w (DropPost x t w)
 | .nil,x,_,_,h=>by have:=h.mem;cases this
 | .node b o a l r,(f,id,tz),w,hin,h=>by
   obtain⟨hsep,hf,hs,hu,hm,hc⟩:=h
   obtain rfl:o=0:=hf.1
   have hlen:(itemsT (.node b 0 a l r)).length=(itemsT l).length+1+(itemsT r).length:=by simp[itemsT];omega
   obtain⟨s1,s2,s3,s4⟩:=srt_parts hs
   obtain⟨u1,u2⟩:=nodup_parts hu
   obtain⟨n1,n2,n3,n4,n5⟩:=sep_node hsep
   show Calls Tryz.prog 222 #[.pointer (some ⟨b,0,none⟩),.int .i64 id,.agg #[.int .i64 f,.int .i64 tz]] w _
   cases hid:(a.id==id)
   · have hne:itN a≠(f,id,tz):=fun e=>by
      have:a.id=id:=congrArg (fun x:It=>x.2.1) e
      simp[this] at hid
     cases h:aheadB (f,id,tz) (itN a)
     · have hmr:(f,id,tz)∈itemsT r:=by
        rcases List.mem_append.1 (show(f,id,tz)∈itemsT l++itN a::itemsT r from hm) with h1|h1
        · have:=s3 _ h1;unfold aheadB at h;simp[this] at h
        · rcases List.mem_cons.1 h1 with h2|h2
          · exact absurd h2.symm hne
          · exact h2
       have ok:DropOk r (f,id,tz):=⟨n4,hf.2.2.2.2,s2,u2,hmr,by omega⟩
       exact drop_right id f tz b a l r (fun w h1=>drop_any r (f,id,tz) w h1 ok) w hin hsep hf.2.2.2.1 hf.2.2.2.2 (by omega) ok.out hid h
     · have hml:(f,id,tz)∈itemsT l:=by
        rcases List.mem_append.1 (show(f,id,tz)∈itemsT l++itN a::itemsT r from hm) with h1|h1
        · exact h1
        · rcases List.mem_cons.1 h1 with h2|h2
          · exact absurd h2.symm hne
          · unfold aheadB at h
            exact absurd (ahead_trans (by simpa using h) (s4 _ h2)) (ahead_irrefl _)
       have ok:DropOk l (f,id,tz):=⟨n3,hf.2.2.2.1,s1,u1,hml,by omega⟩
       exact drop_left id f tz b a l r (fun w h1=>drop_any l (f,id,tz) w h1 ok) w hin hsep hf.2.2.2.1 hf.2.2.2.2 (by omega) ok.out hid h
   · by_cases hl:l= .nil
     · subst hl
       exact drop_lnil id f tz b a r w hin hid
     · by_cases hr:r= .nil
       · subst hr
         exact drop_rnil id f tz b a l w hin hl hid
       · obtain⟨rest,hrest⟩:=first_spec (f,id,tz) hr
         exact drop_mid id f tz b a l r (fun y w h1 ok=>drop_any r y w h1 ok) w hin hsep hf.2.2.2.1 hf.2.2.2.2 (by omega) hl hr ⟨n4,hf.2.2.2.2,s2,u2,by rw[hrest];simp,by omega⟩ hid
end Go.Proofs.YtpgkjnebklknjaaGreatDoor
