/-A range over an iterator that keeps a string of its own in a cell (strings.SplitSeq's),over any program:what the iterator owes,and the statement's walk out of one walk of its body. -/
import Derived.RangeFuncBox
import Derived.RangeFuncNested
import Derived.RangeFuncBound
import Derived.RangeFuncCalls
import Derived.RangeFuncLeaves
import Derived.Test.YtpgkjnebklknjaaGreatDoorFactMJr
import Derived.Test.YtpgkjnebklknjaaGreatDoorKitJr
namespace Go.Proofs.YtpgkjnebklknjaaGreatDoor
open Go.RowKit
def KeepB (b:Nat) (W W' :World):Prop:= ∀k,b<=k->k<=b+2->W'.heap[k]? =W.heap[k]?
theorem KeepB.trans {b:Nat} {A B C:World} (h:KeepB b A B) (k:KeepB b B C):KeepB b A C:=fun i h1 h2=>(k i h1 h2).trans (h i h1 h2)
theorem KeepB.cell {b:Nat} {W W' :World} (h:KeepB b W W') {k:Nat} {v:Value} (h1:b<=k) (h2:k<=b+2) (hc:W.cell? ⟨k,0,none⟩=some v):W'.cell? ⟨k,0,none⟩=some v:=
 (World.cell?_of_block (w:=W) (a:=⟨k,0,none⟩) (h k h1 h2)).trans hc
theorem KeepB.frozen {b:Nat} {W W' :World} (h:KeepB b W W') {k:Nat} {v:Bool} (h1:b<=k) (h2:k<=b+2) (hc:W.frozen? ⟨k,0,none⟩=v):W'.frozen? ⟨k,0,none⟩=v:=
 (World.frozen?_of_block (w:=W) (a:=⟨k,0,none⟩) (h k h1 h2)).trans hc
structure ItBox (b:Nat) (c:UInt8) (s:List UInt8) (W:World):Prop where
 s0:W.cell? ⟨b,0,none⟩=some (.string ⟨s.toArray⟩)
 f0:W.frozen? ⟨b,0,none⟩=false
 s1:W.cell? ⟨b+1,0,none⟩=some (.string ⟨#[c]⟩)
 s2:W.cell? ⟨b+2,0,none⟩=some (.int .i64 0)
theorem ItBox.keep {b:Nat} {c:UInt8} {s:List UInt8} {W W' :World} (h:ItBox b c s W) (k:KeepB b W W'):ItBox b c s W' :=
 ⟨k.cell (Nat.le_refl _) (by omega) h.s0,k.frozen (Nat.le_refl _) (by omega) h.f0,k.cell (by omega) (by omega) h.s1,k.cell (by omega) (by omega) h.s2⟩
def SplitIt (F:Fence) (n:Nat) (P:Program) (gf:Nat) (b:Nat) (c:UInt8) (s:List UInt8):Prop:=
 ∀ (l :Nat) (J Jx:List (List UInt8)->World->Prop) (W:World),
   (∀pre W v,J pre W->J pre (W.setCell ⟨b,0,none⟩ v))->(∀pre W W',J pre W->Below W.heap.size W W' ->J pre W')→
   (∀ pre x q W1,J pre W1->pre++x::q=cutC c s->YieldAt F (n-1) P l #[.string ⟨x.toArray⟩] W1 fun e W' =>
    (e= .returned (.bool true)/\J (pre++ [x]) W' /\KeepB b W1 W')\/(e= .returned (.bool false)/\Jx (pre++ [x]) W'))→
   ItBox b c s W->J [] W→
   CallsIn F n P gf #[.func (.yield l) #[] #[],.pointer (some ⟨b+1,0,none⟩),.pointer (some ⟨b,0,none⟩),.pointer (some ⟨b+2,0,none⟩)] W fun e W' =>
    (∃v,e= .returned v)/\(J (cutC c s) W' \/ ∃pre,Jx pre W')
def splPost (b:Nat) (I Ix:List (List UInt8)->World->Prop) (xs:List (List UInt8)) (W:World):Exit->Act->World->Prop
 | .normal,_,W' =>KeepsOthers W W' /\KeepB b W W' /\I xs W'
 | .ret,_,W' =>KeepsOthers W W' /\Ix xs W'
 | _,_,_=>False
variable {F:Fence} {n:Nat} {P:Program}
theorem wp_splitRange {g:Operand} {t:Tmp} {assign body:Code} {Q:Exit->Act->World->Prop} {a:Act} {w:World} (hro:F.round=none) (h1:1<=n) {gf b:Nat} {c:UInt8} {s:List UInt8}
  (hg:a.eval g= .func (.func gf) #[] #[.pointer (some ⟨b+1,0,none⟩),.pointer (some ⟨b,0,none⟩),.pointer (some ⟨b+2,0,none⟩)]) (hFg:F.fn gf) (eg: ∀args w,(callFunc gf args).run P w= .ok (.enter gf args) w)
  (hseq:SplitIt F (n-1) P gf b c s) (hb:b+2<w.heap.size) (hbox:ItBox b c s w)
  (I Ix:List (List UInt8)->World->Prop) (hIs: ∀pre W v,I pre W->I pre (W.setCell ⟨b,0,none⟩ v)) (hIb: ∀pre W W',I pre W->Below W.heap.size W W' ->I pre W')
  (hIp: ∀pre W l o o',I pre W->w.heap.size<=l->W.heap[l]? =some o->o.isCells=false->I pre (W.putObj l o')) (hIxp: ∀pre W l o o',Ix pre W->w.heap.size<=l->W.heap[l]? =some o->o.isCells=false->Ix pre (W.putObj l o'))
  (h0:I [] w) (a₁:List UInt8->Act)
  (hassign: ∀(l:Nat) (x:List UInt8) (W:World) (K:Act->World->Prop),K (a₁ x) W→
   assign.wpIn (F.inRound l) (n-1-1) P (Exit.then K (fun _ _ _=>False)) { tmps:=a.tmps.setIfInBounds t (.string ⟨x.toArray⟩),defers:= [] } W)
  (hbody: ∀(l:Nat) (pre:List (List UInt8)) (x:List UInt8) (q:List (List UInt8)) (W:World),I pre W->pre++x::q=cutC c s->body.wpIn (F.inRound l) (n-1-1) P (splPost b I Ix (pre++ [x]) W) (a₁ x) W)
  (hdone: ∀(D:Nat) (W:World),w.heap.size<=D->I (cutC c s) W->W.heap[D]? =some (.deferred (some []))->Q .normal { a with defers:={ target:= .collected D,args:= #[] }::a.defers } W)
  (hstop: ∀(D:Nat) (pre:List (List UInt8)) (W:World),w.heap.size<=D->Ix pre W->W.heap[D]? =some (.deferred (some []))->Code.ret.wpIn F n P Q { a with defers:={ target:= .collected D,args:= #[] }::a.defers } W):
  (Code.rangeFunc g #[t] assign body).wpIn F n P Q a w:=by
 refine wpIn_rangeFunc fun fn hfn=> ?_
 rw[hro]
 --the record of the loop,at each state
 obtain⟨R,hR⟩: ∃R:LoopState->Option Code->Loop,R=fun st pe=>⟨st,pe,fn,a.tmps,#[t],assign,body,w.heap.size⟩:=⟨_,rfl⟩
 have hR1: ∀st pe st',{ R st pe with state:=st' }=R st' pe:=fun st pe st' =>by rw[hR]
 have hR2: ∀st pe st' pe',{ R st pe with state:=st',pending:=pe' }=R st' pe' :=fun st pe st' pe' =>by rw[hR]
 obtain⟨l,hl0⟩: ∃l,l=w.heap.size+1:=⟨_,rfl⟩
 obtain⟨V,hV⟩: ∃V,(w.alloc (.deferred (some []))).alloc (.loop (R .ready none))=V:=⟨_,rfl⟩
 have bV:Below w.heap.size w V:=by rw[<-hV];exact((Below.refl _ w).alloc (Nat.le_refl _) _).alloc (by simp) _
 have vL:V.heap[l]? =some (.loop (R .ready none)):=by
  rw[<-hV,hl0];have:=World.alloc_heap_new (w.alloc (.deferred (some []))) (.loop (R .ready none));rwa [World.size_alloc] at this
 have vD:V.heap[w.heap.size]? =some (.deferred (some [])):=by
  rw[<-hV];exact(Below.heap_alloc _ _ _ (by simp)).trans (World.alloc_heap_new w _)
 have keepL: ∀ {W:World} {k:Nat} {o:Obj} (u:Value),W.heap[k]? =some o->w.heap.size<=k->(W.setCell ⟨b,0,none⟩ u).heap[k]? =some o:=fun u h hk=>(Below.heap_setCell _ _ _ _ (by simp;omega)).trans h
 have belL: ∀ {W W' :World} {k:Nat} {o:Obj},W.heap[k]? =some o->Below W.heap.size W W' ->W'.heap[k]? =some o:=fun h hB=>(hB.block _ (Array.getElem?_eq_some_iff.1 h).1).trans h
 refine⟨l,[{ target:= .collected w.heap.size,args:= #[] }],V,{ target:= .fn (.func gf) #[.pointer (some ⟨b+1,0,none⟩),.pointer (some ⟨b,0,none⟩),.pointer (some ⟨b+2,0,none⟩)],args:= #[.func (.yield l) #[] #[]] },V,gf,
  #[.func (.yield l) #[] #[],.pointer (some ⟨b+1,0,none⟩),.pointer (some ⟨b,0,none⟩),.pointer (some ⟨b+2,0,none⟩)],V,?_,?_,?_,?_,fun _=>h1,?_⟩
 · rw[<-hV,hR,hl0];exact run_enterLoop_outer _ _ _ _ _
 · simp only[resolve,hg];simp[go_sem]
 · intro f' hf';simp[Target.leads] at hf';subst hf';exact hFg
 · simp[invoke,go_sem,eg]
 refine(hseq l (fun pre W=>I pre W/\W.heap[l]? =some (.loop (R .ready none))/\W.heap[w.heap.size]? =some (.deferred (some [])))
  (fun pre W=>Ix pre W/\W.heap[l]? =some (.loop (R .done (some .ret)))/\W.heap[w.heap.size]? =some (.deferred (some []))) V
  (fun pre W v h=>⟨hIs pre W v h.1,keepL v h.2.1 (by omega),keepL v h.2.2 (Nat.le_refl _)⟩) (fun pre W W' h hB=>⟨hIb pre W W' h.1 hB,belL h.2.1 hB,belL h.2.2 hB⟩) ?_
  (hbox.keep fun k h2 h3=>bV.block k (by omega)) ⟨hIb [] w V h0 bV,vL,vD⟩).mono ?_
 · rintro pre x q W ⟨hi,hl,hd⟩ hq
   have hlt:l<W.heap.size:=(Array.getElem?_eq_some_iff.1 hl).1
   have hy:(Instr.yield l #[.string ⟨x.toArray⟩]).run P W= .ok (.round l fn (a.tmps.setIfInBounds t (.string ⟨x.toArray⟩)) assign body) W:=by
    have hy:=run_yield (P:=P) (args:= #[.string ⟨x.toArray⟩]) hl (by rw[hR];rfl)
    rw[hR] at hy
    simpa using hy
   refine⟨fn,_,assign,body,hy,roundIn_of_wpIn hfn (hassign l x W _ ?_)⟩
   refine⟨_,run_beginRound hl (by rw[hR]),?_⟩
   rw[hR1]
   obtain⟨W2,hW2⟩: ∃W2,W.putObj l (.loop (R .busy none))=W2:=⟨_,rfl⟩
   rw[hW2]
   have l2:W2.heap[l]? =some (.loop (R .busy none)):=by rw[<-hW2];exact World.putObj_heap_same hlt
   have d2:W2.heap[w.heap.size]? =some (.deferred (some [])):=by rw[<-hW2];exact(World.putObj_heap_other (by omega)).trans hd
   have i2:I pre W2:=by rw[<-hW2];exact hIp pre W l _ _ hi (by omega) hl rfl
   have k2:KeepB b W W2:=fun k h2 h3=>by rw[<-hW2];exact World.putObj_heap_other (by omega)
   refine wpIn_mono (hbody l pre x q W2 i2 hq) ?_
   rintro e a3 W3 hp
   cases e with
   | normal=>
     obtain⟨ko,kb,hi3⟩:=hp
     have l3:=ko.same _ _ l2 rfl
     have d3:=ko.same _ _ d2 rfl
     have he:=run_endRound (P:=P) none l3
     rw[hR2] at he
     refine⟨_,_,he,.inl ⟨rfl,⟨hIp _ W3 l _ _ hi3 (by omega) l3 rfl,World.putObj_heap_same (Array.getElem?_eq_some_iff.1 l3).1,(World.putObj_heap_other (by omega)).trans d3⟩,?_⟩⟩
     exact(k2.trans kb).trans fun k h2 h3=>World.putObj_heap_other (by omega)
   | ret =>
     obtain⟨ko,hi3⟩:=hp
     have l3:=ko.same _ _ l2 rfl
     have d3:=ko.same _ _ d2 rfl
     have he:=run_endRound (P:=P) (some .ret) l3
     rw[hR2] at he
     exact⟨_,_,he,.inr ⟨rfl,hIxp _ W3 l _ _ hi3 (by omega) l3 rfl,World.putObj_heap_same (Array.getElem?_eq_some_iff.1 l3).1,(World.putObj_heap_other (by omega)).trans d3⟩⟩
   | exit id=>exact hp.elim
   | goto t=>exact hp.elim
   | panic ch=>exact hp.elim
   | outgrown=>exact hp.elim
 · rintro e W2 ⟨⟨v,rfl⟩,(⟨hi,hl,hd⟩|⟨pre,hi,hl,hd⟩)⟩
   · have he:=run_endLoop (P:=P) hl (by rw[hR];simp)
     rw[hR1] at he
     have hp:(R .ready none).pending=none:=by rw[hR]
     rw[hp] at he
     refine⟨none,_,he,?_⟩
     exact hdone _ _ (Nat.le_refl _) (hIp _ W2 l _ _ hi (by omega) hl rfl) ((World.putObj_heap_other (by omega)).trans hd)
   · have he:=run_endLoop (P:=P) hl (by rw[hR];simp)
     rw[hR1] at he
     have hp:(R .done (some .ret)).pending=some .ret:=by rw[hR]
     rw[hp] at he
     refine⟨some .ret,_,he,?_⟩
     exact hstop _ pre _ (Nat.le_refl _) (hIxp _ W2 l _ _ hi (by omega) hl rfl) ((World.putObj_heap_other (by omega)).trans hd)
end Go.Proofs.YtpgkjnebklknjaaGreatDoor
