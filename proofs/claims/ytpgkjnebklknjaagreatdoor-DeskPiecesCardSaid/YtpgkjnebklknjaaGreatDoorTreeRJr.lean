/-Who has a time of a span (Meets),and who has a time (At). -/
import Derived.BigQuiet
import Derived.StillTailTactics
import Derived.Maps.OwnSet
import Derived.Laws.EntriesVeiled
import Derived.Test.YtpgkjnebklknjaaGreatDoorTreeNJr
import Derived.Test.YtpgkjnebklknjaaGreatDoorKitJr
import Derived.Test.YtpgkjnebklknjaaGreatDoorFrameJr
import Derived.Test.YtpgkjnebklknjaaGreatDoorTreeHJr
import Derived.Test.YtpgkjnebklknjaaGreatDoorAppJr
namespace Go.Proofs.YtpgkjnebklknjaaGreatDoor
open Go.Deep
def BalT:BT Nd->Prop
 | .nil=>True
 | .node _ _ _ l r=>hiT l-hiT r<=1/\hiT r-hiT l<=1/\BalT l/\BalT r
theorem hi_nil:hiT .nil=0:=rfl
theorem hi_mk (b:Nat) (a:Nd) (l r:BT Nd):hiT (mkT b a l r)=1+max (hiT l) (hiT r):=rfl
theorem bal_mk {b:Nat} {a:Nd} {l r:BT Nd} (h1:hiT l-hiT r<=1) (h2:hiT r-hiT l<=1) (hl:BalT l) (hr:BalT r):BalT (mkT b a l r):=⟨h1,h2,hl,hr⟩
theorem hi_node {b o:Nat} {a:Nd} {l r:BT Nd} (h:FitT (.node b o a l r)):hiT (.node b o a l r)=1+max (hiT l) (hiT r):=h.2.2.1
theorem turnR_bal {b:Nat} {a:Nd} {l r:BT Nd} (fl:FitT l) (fr:FitT r) (hl:BalT l) (hr:BalT r) (hd:hiT l-hiT r=2):
  BalT (turnR b a (upL l) r)/\hiT l<=hiT (turnR b a (upL l) r)/\hiT (turnR b a (upL l) r)<=1+hiT l:=by
 cases l with
 | nil=>have:=hi_nonneg fr;rw[hi_nil] at hd;omega
 | node xb xo xa xl xr=>
   have e:=hi_node fl
   obtain⟨b1,b2,b3,b4⟩:=hl
   rw[e] at hd ⊢
   unfold upL
   dsimp only
   split
   · rename_i hc
     cases xr with
     | nil=>have:=hi_nonneg fl.2.2.2.1;rw[hi_nil] at hc;omega
     | node yb yo ya yl yr=>
       have e2:=hi_node fl.2.2.2.2
       obtain⟨c1,c2,c3,c4⟩:=b4
       rw[e2] at b1 b2 hc hd ⊢
       refine⟨bal_mk ?_ ?_ (bal_mk ?_ ?_ b3 c3) (bal_mk ?_ ?_ c4 hr),?_,?_⟩<;>simp only[turnL,turnR,mkT,hiT,fitN] at* <;>omega
   · rename_i hc
     refine⟨bal_mk ?_ ?_ b3 (bal_mk ?_ ?_ b4 hr),?_,?_⟩<;>simp only[turnR,mkT,hiT,fitN] at* <;>omega
theorem turnL_bal {b:Nat} {a:Nd} {l r:BT Nd} (fl:FitT l) (fr:FitT r) (hl:BalT l) (hr:BalT r) (hd:hiT r-hiT l=2):
  BalT (turnL b a l (upR r))/\hiT r<=hiT (turnL b a l (upR r))/\hiT (turnL b a l (upR r))<=1+hiT r:=by
 cases r with
 | nil=>have:=hi_nonneg fl;rw[hi_nil] at hd;omega
 | node xb xo xa xl xr=>
   have e:=hi_node fr
   obtain⟨b1,b2,b3,b4⟩:=hr
   rw[e] at hd ⊢
   unfold upR
   dsimp only
   split
   · rename_i hc
     cases xl with
     | nil=>have:=hi_nonneg fr.2.2.2.2;rw[hi_nil] at hc;omega
     | node yb yo ya yl yr=>
       have e2:=hi_node fr.2.2.2.1
       obtain⟨c1,c2,c3,c4⟩:=b3
       rw[e2] at b1 b2 hc hd ⊢
       refine⟨bal_mk ?_ ?_ (bal_mk ?_ ?_ hl c3) (bal_mk ?_ ?_ c4 b4),?_,?_⟩<;>simp only[turnL,turnR,mkT,hiT,fitN] at* <;>omega
   · rename_i hc
     refine⟨bal_mk ?_ ?_ (bal_mk ?_ ?_ hl b3) b4,?_,?_⟩<;>simp only[turnL,mkT,hiT,fitN] at* <;>omega
theorem level_bal {b:Nat} {a:Nd} {l r:BT Nd} (fl:FitT l) (fr:FitT r) (hl:BalT l) (hr:BalT r) (h1:hiT l-hiT r<=2) (h2:hiT r-hiT l<=2):
  BalT (levelT b a l r)/\max (hiT l) (hiT r)<=hiT (levelT b a l r)/\hiT (levelT b a l r)<=1+max (hiT l) (hiT r)∧
  (hiT l-hiT r<=1->hiT r-hiT l<=1->hiT (levelT b a l r)=1+max (hiT l) (hiT r)):=by
 unfold levelT
 split
 · obtain⟨p,q,s⟩:=turnR_bal (b:=b) (a:=fitN a l r) fl fr hl hr (by omega)
   exact⟨p,by omega,by omega,fun _ _=>by omega⟩
 · split
   · obtain⟨p,q,s⟩:=turnL_bal (b:=b) (a:=fitN a l r) fl fr hl hr (by omega)
     exact⟨p,by omega,by omega,fun _ _=>by omega⟩
   · exact⟨bal_mk (by omega) (by omega) hl hr,by rw[hi_mk];omega,by rw[hi_mk];omega,fun _ _=>hi_mk _ _ _ _⟩
theorem add_bal (nb:Nat) (x:It): ∀ {t:BT Nd},FitT t->BalT t->BalT (addT nb x t)/\hiT t<=hiT (addT nb x t)/\hiT (addT nb x t)<=1+hiT t
 | .nil,_,_=>⟨⟨by decide,by decide,trivial,trivial⟩,by simp only[addT,mkT,hiT,fitN];omega,by simp only[addT,mkT,hiT,fitN];omega⟩
 | .node b o a l r,h,hb=>by
   have e:=hi_node h
   obtain⟨b1,b2,b3,b4⟩:=hb
   obtain⟨p1,p2,p3⟩:=add_bal nb x h.2.2.2.1 b3
   obtain⟨q1,q2,q3⟩:=add_bal nb x h.2.2.2.2 b4
   rw[e]
   unfold addT
   split
   · obtain⟨s1,s2,s3,s4⟩:=level_bal (b:=b) (a:=a) (add_fit nb x h.2.2.2.1) h.2.2.2.2 p1 b4 (by omega) (by omega)
     refine⟨s1,?_,?_⟩
     · by_cases c:hiT (addT nb x l)-hiT r<=1
       · rw[s4 c (by omega)];omega
       · omega
     · by_cases c:hiT (addT nb x l)-hiT r<=1
       · rw[s4 c (by omega)];omega
       · omega
   · obtain⟨s1,s2,s3,s4⟩:=level_bal (b:=b) (a:=a) h.2.2.2.1 (add_fit nb x h.2.2.2.2) b3 q1 (by omega) (by omega)
     refine⟨s1,?_,?_⟩
     · by_cases c:hiT (addT nb x r)-hiT l<=1
       · rw[s4 (by omega) c];omega
       · omega
     · by_cases c:hiT (addT nb x r)-hiT l<=1
       · rw[s4 (by omega) c];omega
       · omega
theorem drop_bal: ∀ {t:BT Nd} (x:It),FitT t->BalT t->FitT (dropT t x)/\BalT (dropT t x)/\hiT (dropT t x)<=hiT t/\hiT t<=1+hiT (dropT t x)
 | .nil,_,_,_=>⟨trivial,trivial,by simp only[dropT,hiT];omega,by simp only[dropT,hiT];omega⟩
 | .node b o a l r,x,h,hb=>by
   have e:=hi_node h
   have n1:=hi_nonneg h.2.2.2.1
   have n2:=hi_nonneg h.2.2.2.2
   obtain⟨b1,b2,b3,b4⟩:=hb
   rw[e]
   unfold dropT
   split
   · split
     · rename_i hn
       rw[isNil_iff] at hn
       subst hn
       simp only[hiT] at*
       exact⟨h.2.2.2.2,b4,by omega,by omega⟩
     · split
       · rename_i hn
         rw[isNil_iff] at hn
         subst hn
         simp only[hiT] at*
         exact⟨h.2.2.2.1,b3,by omega,by omega⟩
       · obtain⟨q0,q1,q2,q3⟩:=drop_bal (firstT x r) h.2.2.2.2 b4
         obtain⟨s1,s2,s3,s4⟩:=level_bal (b:=b) (a:=⟨(firstT x r).2.1,(firstT x r).1,(firstT x r).2.2,a.last,a.high⟩) h.2.2.2.1 q0 b3 q1 (by omega) (by omega)
         refine⟨level_fit h.2.2.2.1 q0,s1,?_,?_⟩
         · by_cases c:hiT l-hiT (dropT r (firstT x r))<=1
           · rw[s4 c (by omega)];omega
           · omega
         · by_cases c:hiT l-hiT (dropT r (firstT x r))<=1
           · rw[s4 c (by omega)];omega
           · omega
   · split
     · obtain⟨q0,q1,q2,q3⟩:=drop_bal x h.2.2.2.1 b3
       obtain⟨s1,s2,s3,s4⟩:=level_bal (b:=b) (a:=a) q0 h.2.2.2.2 q1 b4 (by omega) (by omega)
       refine⟨level_fit q0 h.2.2.2.2,s1,?_,?_⟩
       · by_cases c:hiT r-hiT (dropT l x)<=1
         · rw[s4 (by omega) c];omega
         · omega
       · by_cases c:hiT r-hiT (dropT l x)<=1
         · rw[s4 (by omega) c];omega
         · omega
     · obtain⟨q0,q1,q2,q3⟩:=drop_bal x h.2.2.2.2 b4
       obtain⟨s1,s2,s3,s4⟩:=level_bal (b:=b) (a:=a) h.2.2.2.1 q0 b3 q1 (by omega) (by omega)
       refine⟨level_fit h.2.2.2.1 q0,s1,?_,?_⟩
       · by_cases c:hiT l-hiT (dropT r x)<=1
         · rw[s4 c (by omega)];omega
         · omega
       · by_cases c:hiT l-hiT (dropT r x)<=1
         · rw[s4 c (by omega)];omega
         · omega
open Go.RowKit
structure InC (S:World->Prop) where
 w:World
 ok:S w
theorem wp_region_in {P:Program} {S:World->Prop} {id:Nat} {Q:Exit->Act->World->Prop} {a:Act} {w:World} {l:List Oper} (hm:P.follows .mixedOrders=true) (hB:Region.lexB .any l.toArray=true) (hS:S w.drew)
  (h:Nonempty (InC S)->wpQuiet P l.toArray (fun w' => ∃X:InC S,w' =X.w) (fun a' => ∀w',(∃X:InC S,w' =X.w)->Q .normal a' w') l a):(Code.region id l.toArray true).wp P Q a w:=
 wp_region_quiet (C:=fun w' => ∃X:InC S,w' =X.w) hm hB ⟨⟨w.drew,hS⟩,rfl⟩ (by simpa using h ⟨⟨w.drew,hS⟩⟩)
def Bel (w:World):World->Prop:=fun W=>Below w.heap.size w W
theorem bel_drew {w v:World} (h:Below w.heap.size w v):Bel w v.drew:=h.drew
theorem InC.cell {w:World} (X:InC (Bel w)) {b o:Nat} {v:Value} (h:w.cell? ⟨b,o,none⟩=some v):X.w.cell? ⟨b,o,none⟩=some v:=
 (X.ok.cell (p:=⟨b,o,none⟩) (World.block_lt_of_cell? w _ h)).trans h
theorem InC.call {P:Program} {f:FuncId} {args:Array Value} {v:Value} {w:World} {X:InC (Bel w)} (h:Calls P f args X.w fun e w' =>e= .returned v/\Below X.w.heap.size X.w w'):
  Calls P f args X.w fun e w'' =>e= .returned v/\ ∃Y:InC (Bel w),w'' =Y.w:=
 h.mono fun _ w' ⟨he,hb⟩=>⟨he,⟨w',X.ok.trans (hb.mono X.ok.size)⟩,rfl⟩
theorem InC.call_same {P:Program} {f:FuncId} {args:Array Value} {v:Value} {S:World->Prop} {X:InC S} (h:Calls P f args X.w fun e w' =>e= .returned v/\w' =X.w):
  Calls P f args X.w fun e w'' =>e= .returned v/\ ∃Y:InC S,w'' =Y.w:=
 h.mono fun _ _ ⟨he,hb⟩=>⟨he,X,hb⟩
theorem wp_region_tail {P:Program} {id:Nat} {Q:Exit->Act->World->Prop} {a:Act} {w:World} {l:List Oper} (n:Nat) (hm:P.follows .mixedOrders=true) (hB:Region.lexTailB .any l.toArray n=true)
  (h:wpStill P l.toArray w.drew (fun a' =>wpList P l.toArray Q (l.drop n) a' w.drew) (l.take n) a):(Code.region id l.toArray true).wp P Q a w:=
 wp_region_still_tail n hm hB h
open Go.RowKit Go.Maps
def spanD (f t:Int):DataW Unit:= .agg [.lit (.int .i64 f),.lit (.int .i64 t)]
def spanR:Value->Option (DataW Unit×List MemPlace)
 | .agg ⟨[.int .i64 f,.int .i64 t]⟩=>some (spanD f t,[])
 | _=>none
theorem spanR_inv {v:Value} {z:DataW Unit×List MemPlace} (h:spanR v=some z): ∃f t,v= .agg #[.int .i64 f,.int .i64 t]/\z=(spanD f t,[]):=by
 unfold spanR at h
 split at h
 · rename_i f t;cases h;exact⟨f,t,rfl,rfl⟩
 · cases h
theorem spanD_inj {f t f' t' :Int} (h:spanD f t=spanD f' t'):f=f' /\t=t' :=by
 simp[spanD] at h;exact h
def kI (id:Int):Lit:= .int .i64 id
theorem kI_ne {a b:Int} (h:a≠b):kI a≠kI b:=fun e=>h (by simp[kI] at e;exact e)
def i64 (n:Int):Prop:= -9223372036854775808<=n/\n<=9223372036854775807
theorem wfI {n:Int} (h:i64 n):(Lit.int .i64 n).wf=true:=WalkArith.wf_i64 h
theorem kI_key {n:Int}:WideAt.IsKeyLit (kI n):=by trivial
structure MapIs (D:DataW Unit) (L:List It):Prop where
 tidy:Tidy D
 size:Maps.size D=L.length
 has: ∀id,Maps.has D (kI id)=L.any (fun x=>x.2.1==id)
 at' : ∀x∈L,∀d,D.atKey (kI x.2.1) d=spanD x.1 x.2.2
theorem mapIs_nil:MapIs (.map []) []:=⟨tidy_empty,rfl,fun _=>rfl,fun x hx=>by cases hx⟩
theorem MapIs.perm {D:DataW Unit} {L L' :List It} (h:MapIs D L) (hp:L.Perm L'):MapIs D L' :=
 ⟨h.tidy,by rw[h.size,hp.length_eq],fun id=>by rw[h.has id];rw[Bool.eq_iff_iff];simp only[List.any_eq_true];exact⟨fun⟨x,hx,e⟩=>⟨x,hp.mem_iff.1 hx,e⟩,fun⟨x,hx,e⟩=>⟨x,hp.mem_iff.2 hx,e⟩⟩,fun x hx=>h.at' x (hp.mem_iff.2 hx)⟩
theorem MapIs.put {D:DataW Unit} {L:List It} (h:MapIs D L) (x:It) (hn:L.any (fun y=>y.2.1==x.2.1)=false):MapIs (D.put (kI x.2.1) (spanD x.1 x.2.2)) (x::L):=by
 refine⟨h.tidy.put kI_key _,?_,fun id=> ?_,fun y hy d=> ?_⟩
 · rw[size_put h.tidy,h.has,hn,h.size];simp
 · by_cases e:id=x.2.1
   · subst e;rw[has_put_same h.tidy.isMap kI_key];simp
   · rw [has_put_other (kI_ne e),h.has,List.any_cons]
     have:(x.2.1==id)=false:=by simpa using fun e' =>e e'.symm
     rw[this,Bool.false_or]
 · rcases List.mem_cons.1 hy with rfl|hy
   · exact atKey_put_same h.tidy.isMap kI_key _ _
   · have :y.2.1≠x.2.1:=fun e=>by
      have:L.any (fun z=>z.2.1==x.2.1)=true:=List.any_eq_true.2 ⟨y,hy,by simp[e]⟩
      rw[hn] at this;cases this
     rw[atKey_put_other (kI_ne this)];exact h.at' y hy d
theorem MapIs.del {D:DataW Unit} {L:List It} (x:It) (h:MapIs D (x::L)) (hn:L.any (fun y=>y.2.1==x.2.1)=false):MapIs (D.del (kI x.2.1)) L:=by
 have hx:Maps.has D (kI x.2.1)=true:=by rw[h.has];simp
 refine⟨h.tidy.del _,?_,fun id=> ?_,fun y hy d=> ?_⟩
 · have:=size_del (k:=kI x.2.1) h.tidy
   rw[hx,h.size] at this
   simp at this;omega
 · by_cases e:id=x.2.1
   · subst e;rw[has_del_same,hn]
   · rw [has_del_other (kI_ne e),h.has,List.any_cons]
     have:(x.2.1==id)=false:=by simpa using fun e' =>e e'.symm
     rw[this,Bool.false_or]
 · have :y.2.1≠x.2.1:=fun e=>by
    have:L.any (fun z=>z.2.1==x.2.1)=true:=List.any_eq_true.2 ⟨y,hy,by simp[e]⟩
    rw[hn] at this;cases this
   rw[atKey_del_other (kI_ne this)];exact h.at' y (List.mem_cons_of_mem _ hy) d
def mapAt (w:World) (L:List It):Option Nat->Prop
 | none=>L= []
 | some m=> ∃D,w.ownsMap Tryz.prog 3 spanR m L.length D/\MapIs D L
theorem owns_tight {P:Program} {k:TypeId} {R:Value->Option (DataW Unit×List MemPlace)} {w:World} {b n:Nat} {D:DataW Unit} (h:w.ownsMap P k R b n D):w.ownsMap P k R b (Maps.size D) D:=by
 obtain⟨es,clock,hb,F,hs,rfl⟩:=h
 refine⟨es,clock,hb,F,?_,rfl⟩
 show es.size<=(List.foldr DataW.insert [] _).length
 rw[length_sorted];simp
theorem owns_frame {P:Program} {k:TypeId} {R:Value->Option (DataW Unit×List MemPlace)} {F:Nat->Prop} {w w' :World} {b n:Nat} {D:DataW Unit} (h:w.ownsMap P k R b n D) (hf:Fr F w w') (hn: ¬F b):w'.ownsMap P k R b n D:=by
 obtain⟨es,clock,hb,r⟩:=h
 exact⟨es,clock,hf.keeps hb hn,r⟩
theorem mapAt.frame {F:Nat->Prop} {w w' :World} {L:List It} {mb:Option Nat} (h:mapAt w L mb) (hf:Fr F w w') (hn: ∀m,mb=some m-> ¬F m):mapAt w' L mb:=by
 cases mb with
 | none=>exact h
 | some m=>obtain⟨D,h1,h2⟩:=h;exact⟨D,owns_frame h1 hf (hn m rfl),h2⟩
theorem intLaw:Keyed Tryz.prog 3:=int_keyed Tryz.underlying3
theorem zeroSpan (w:World):(zeroValue 107).run Tryz.prog w= .ok (.agg #[.int .i64 0,.int .i64 0]) w:=by kernel_rfl
open Go.RowKit Go.Deep Go.Shelf Go.Sort Go.Maps
structure TreeAt (w:World) (tb:Nat) (L:List It) (t:BT Nd) (mb:Option Nat):Prop where
 cells:w.heap[tb]? =some (.cells #[t.ptr,.map mb] 285 (0,0))
 tin:treeIn w t
 sep:(blocksT t).Nodup
 fit:FitT t
 bal:BalT t
 srt:SrtT (itemsT t)
 ids:((itemsT t).map (·.2.1)).Nodup
 perm:(itemsT t).Perm L
 mp:mapAt w L mb
 nt:tb∉blocksT t
 nm: ∀m,mb=some m->m∉blocksT t/\m≠tb
def foot (tb:Nat) (t:BT Nd) (mb:Option Nat) (k:Nat):Prop:=k=tb\/k∈blocksT t\/mb=some k
theorem TreeAt.lt {w:World} {tb:Nat} {L:List It} {t:BT Nd} {mb:Option Nat} (h:TreeAt w tb L t mb): ∀k,foot tb t mb k->k<w.heap.size:=by
 intro k hk
 rcases hk with rfl|hk|rfl
 · exact lt_of_block h.cells
 · exact h.tin.lt k hk
 · obtain⟨D,h1,_⟩:=h.mp;exact h1.lt
theorem TreeAt.frame {F:Nat->Prop} {w w' :World} {tb:Nat} {L:List It} {t:BT Nd} {mb:Option Nat} (h:TreeAt w tb L t mb) (hf:Fr F w w') (hn: ∀k,foot tb t mb k-> ¬F k):TreeAt w' tb L t mb:=
 ⟨hf.keeps h.cells (hn _ (Or.inl rfl)),treeIn.frame hf h.tin (fun k hk=>hn k (Or.inr (Or.inl hk))),h.sep,h.fit,h.bal,h.srt,h.ids,h.perm,h.mp.frame hf (fun m e=>hn m (Or.inr (Or.inr e))),h.nt,h.nm⟩
theorem TreeAt.below {w w' :World} {tb:Nat} {L:List It} {t:BT Nd} {mb:Option Nat} (h:TreeAt w tb L t mb) (hb:Below w.heap.size w w'):TreeAt w' tb L t mb:=
 h.frame (F:=fun _=>False) (Fr.new hb) (fun _ _ e=>e)
theorem tree_cells {w:World} {tb:Nat} {x y:Value} (h:w.heap[tb]? =some (.cells #[x,y] 285 (0,0))):w.cell? ⟨tb,0,none⟩=some x/\w.cell? ⟨tb,1,none⟩=some y/\w.frozen? ⟨tb,0,none⟩=false/\w.frozen? ⟨tb,1,none⟩=false:=
 ⟨block_cell h 0,block_cell h 1,block_free h 0,block_free h 1⟩
theorem tree_set0 {w:World} {tb:Nat} {x y:Value} (h:w.heap[tb]? =some (.cells #[x,y] 285 (0,0))) (v:Value):(w.setCell ⟨tb,0,none⟩ v).heap[tb]? =some (.cells #[v,y] 285 (0,0)):=block_set h 0 v
theorem tree_set1 {w:World} {tb:Nat} {x y:Value} (h:w.heap[tb]? =some (.cells #[x,y] 285 (0,0))) (v:Value):(w.setCell ⟨tb,1,none⟩ v).heap[tb]? =some (.cells #[x,v] 285 (0,0)):=block_set h 1 v
theorem lookNil (id:Int) (hi:i64 id) (w:World):(Instr.lookup 283 (.map none) (.int .i64 id) true).run Tryz.prog w= .ok (.tuple #[.agg #[.int .i64 0,.int .i64 0],.bool false]) w:=
 Maps.look_nil true intLaw Tryz.underlying283 (zeroSpan w) (keyOf_int_mk Tryz.underlying3 (wfI hi))
theorem lenNil (ty:TypeId) (w:World):(Builtin.len_ #[283] ty #[.map none]).run Tryz.prog w= .ok (.int .i64 0) w:=Maps.len_nil Tryz.underlying283 ty
def TAdded (tb:Nat) (L:List It) (t:BT Nd) (mb:Option Nat) (x:It) (w:World) (e:Ending) (w' :World):Prop:=
 ∃t' mb',e= .returned .nilIface/\TreeAt w' tb (x::L) t' mb' /\Fr (foot tb t mb) w w' /\ ∀k,foot tb t' mb' k->foot tb t mb k\/w.heap.size<=k
theorem tadded {w w3 w4:World} {tb:Nat} {L:List It} {t:BT Nd} {mb:Option Nat} {m:Nat} {x:It} {nb:Nat} {u:Option Addr} (h:TreeAt w tb L t mb) (hm:mb=some m\/w.heap.size<=m)
  (hx:L.any (fun y=>y.2.1==x.2.1)=false) (hf3:Fr (foot tb t mb) w w3) (hc3:w3.heap[tb]? =some (.cells #[t.ptr,.map (some m)] 285 (0,0))) (hmp:mapAt w3 (x::L) (some m))
  (hnb:w3.heap.size<=nb) (hT:treeIn w4 (addT nb x t)) (hF:Fr (· ∈blocksT t) w3 w4) (hu:(addT nb x t).ptr= .pointer u) (hmt:m∉blocksT t):
  TAdded tb L t mb x w (.returned .nilIface) (w4.setCell ⟨tb,0,none⟩ (.pointer u)):=by
 have hp:=add_blocks nb x h.fit
 have hi:=add_perm nb x h.fit
 have htb:tb<w.heap.size:=h.lt tb (Or.inl rfl)
 have hm3:m<w3.heap.size:=by obtain⟨D,h1,_⟩:=hmp;exact h1.lt
 have hmtb:m≠tb:=by
  rcases hm with e|e
  · exact(h.nm m e).2
  · omega
 have hs:=hf3.size
 have FS:Fr (· =tb) w4 (w4.setCell ⟨tb,0,none⟩ (.pointer u)):=Fr.setCell (F:=(· =tb)) (Fr.refl _ w4) (p:=⟨tb,0,none⟩) (fun _=>rfl) _
 have hnt:tb∉blocksT (addT nb x t):=fun e=>by
  rcases List.mem_cons.1 (hp.mem_iff.1 e) with e|e
  · omega
  · exact h.nt e
 have hids: ∀y∈itemsT t,y.2.1≠x.2.1:=fun y hy e=>by
  have:L.any (fun y=>y.2.1==x.2.1)=true:=List.any_eq_true.2 ⟨y,h.perm.mem_iff.1 hy,by simp[e]⟩
  rw[hx] at this;cases this
 refine⟨addT nb x t,some m,rfl,⟨?_,treeIn.frame FS hT (fun k hk e=>by subst e;exact hnt hk),?_,add_fit nb x h.fit,(add_bal nb x h.fit h.bal).1,add_srt nb x h.fit h.srt hids,?_,hi.trans (h.perm.cons x),?_,hnt,?_⟩,?_,?_⟩
 · rw[hu];exact tree_set0 (hF.keeps hc3 h.nt) _
 · refine hp.nodup_iff.2 (List.nodup_cons.2 ⟨fun e=> ?_,h.sep⟩)
   have:=h.lt nb (Or.inr (Or.inl e));omega
 · refine(hi.map _).nodup_iff.2 ?_
   rw[List.map_cons,List.nodup_cons]
   exact⟨fun e=>by obtain⟨y,hy,e⟩:=List.mem_map.1 e;exact hids y hy e,h.ids⟩
 · exact(hmp.frame hF (fun k e=>by cases e;exact hmt)).frame FS (fun k e=>by cases e;exact hmtb)
 · rintro k e
   cases e
   refine⟨fun e=> ?_,hmtb⟩
   rcases List.mem_cons.1 (hp.mem_iff.1 e) with e|e
   · omega
   · exact hmt e
 · exact(hf3.next hF (fun k _ e=>Or.inr (Or.inl e))).next FS (fun k _ e=>Or.inl e)
 · intro k hk
   rcases hk with e|e|e
   · exact Or.inl (Or.inl e)
   · rcases List.mem_cons.1 (hp.mem_iff.1 e) with e|e
     · exact Or.inr (by omega)
     · exact Or.inl (Or.inr (Or.inl e))
   · cases e
     rcases hm with e|e
     · exact Or.inl (Or.inr (Or.inr e))
     · exact Or.inr e
set_option maxRecDepth 100000 in
set_option maxHeartbeats 4000000 in
theorem tadd_some (id f tz:Int) (w:World) (tb:Nat) (L:List It) (t:BT Nd) (m:Nat) (h:TreeAt w tb L t (some m)) (h0:0<=id) (h1:id<=1048576) (hr:rightB f tz=true)
  (hx:L.any (fun y=>y.2.1==id)=false) (hl:L.length<4000):
  Calls Tryz.prog 279 #[.pointer (some ⟨tb,0,none⟩),.int .i64 id,.agg #[.int .i64 f,.int .i64 tz]] w (TAdded tb L t (some m) (f,id,tz) w):=by
 have hR:=fun W=>right_any f tz W
 rw[hr] at hR
 obtain⟨tp,et⟩:=ptr_some t
 have ET:=Lib.hid et
 have hi:i64 id:=⟨by omega,by omega⟩
 have HI:=Lib.hid hi
 have HH:=Lib.hid h
 have htb:tb<w.heap.size:=h.lt tb (Or.inl rfl)
 have HX:=Lib.hid hx
 have hc:=h.cells
 rw[et] at hc
 clear hr et hi h hx
 have hqm:=fun(w:World)=>run_eql_map_nil (P:=Tryz.prog) w 283 3 107 (some m) Tryz.underlying283
 go_enter Tryz.func279,Tryz.ntmps279
 go_wp2_with fail
 refine(hR _).mono ?_
 rintro e w1 ⟨rfl,b1⟩
 have B1:Below w.heap.size w w1:=((Below.refl _ w).alloc (Nat.le_refl _) _).trans (b1.mono (by simp))
 have k1:w1.cell? ⟨w.heap.size,0,none⟩=some (.int .i64 f):=(b1.cell (p:=⟨w.heap.size,0,none⟩) (by simp)).trans (by simp)
 have k2:w1.cell? ⟨w.heap.size,1,none⟩=some (.int .i64 tz):=(b1.cell (p:=⟨w.heap.size,1,none⟩) (by simp)).trans (by simp)
 have s1:w.heap.size<w1.heap.size:=by have:=b1.size;simp at this;omega
 have hc1:=(B1.block tb htb).trans hc
 have H1:=HH.out.below B1
 obtain⟨D,hown,hD⟩:=H1.mp
 have hhas:Maps.has D (.int .i64 id)=false:=(hD.has id).trans HX.out
 have hsz:Maps.size D<4000:=by rw[hD.size];exact hl
 have HHAS:=Lib.hid hhas
 have HD:=Lib.hid hD
 have HH1:=Lib.hid H1
 have HB1:=Lib.hid B1
 obtain⟨c0,c1,f0,f1⟩:=tree_cells hc1
 have htb1:tb<w1.heap.size:=by omega
 have HC1:=Lib.hid hc1
 clear b1 B1 hc hc1 hhas hD H1 hR
 go_wp2_with (first
  | (at_lookup;refine wpList_lookup_own_ok _ rfl _ _ 283 rfl 3 107 intLaw Tryz.underlying283 spanR (zeroSpan _) (spanD 0 0) [] rfl m L.length D rfl hown _ _ rfl (keyOf_int_mk Tryz.underlying3 (wfI HI.out)) ?_;intro v ps hv;obtain⟨vf,vt,rfl,hv2⟩:=spanR_inv hv;rw[HHAS.out];clear hv hv2)
  | (at_len;refine wpList_len_own _ rfl _ 283 rfl 3 107 Tryz.underlying283 _ m L.length D rfl (hown.alloc _) ?_))
 obtain⟨W2,hW2⟩: ∃W2,W2=w1.alloc (.cells #[.int .i64 vf,.int .i64 vt] 107):=⟨_,rfl⟩
 rw[<-hW2]
 have B2:Below w1.heap.size w1 W2:=by rw[hW2];exact(Below.refl _ _).alloc (Nat.le_refl _) _
 have hown2:W2.ownsMap Tryz.prog 3 spanR m L.length D:=by rw[hW2];exact hown.alloc _
 have hc2:=(B2.block tb htb1).trans HC1.out
 have k1' :W2.cell? ⟨w.heap.size,0,none⟩=some (.int .i64 f):=(B2.cell (p:=⟨w.heap.size,0,none⟩) s1).trans k1
 have k2' :W2.cell? ⟨w.heap.size,1,none⟩=some (.int .i64 tz):=(B2.cell (p:=⟨w.heap.size,1,none⟩) s1).trans k2
 obtain⟨c0',c1',_,_⟩:=tree_cells hc2
 have HC2:=Lib.hid hc2
 have HHB:=Lib.hid (HB1.out.trans (B2.mono (by omega)))
 clear hW2 hc2 k1 k2 c0 c1 f0 f1 hown
 refine wp_region_tail 6 (by kernel_rfl) (by kernel_rfl) ?_
 simp only[List.take_succ_cons,List.take_zero,List.drop_succ_cons,List.drop_zero]
 repeat still_step
 refine wpStill_nil ?_
 go_wp2_with (at_mapUpdate;refine wpList_mapUpdate_own _ rfl _ _ _ 283 rfl 3 107 intLaw Tryz.underlying283 spanR m L.length D rfl (World.ownsMap.drew hown2) (by unfold maxLen;omega) _ _ _ rfl rfl (keyOf_int_mk Tryz.underlying3 (wfI HI.out)) (spanD f tz) [] rfl ?_;intro w3 hown3 hgrow3)
 have G3:=Fr.ofGrown hgrow3
 have hm:=HH.out.nm m rfl
 have hml:m<w.heap.size:=HH.out.lt m (Or.inr (Or.inr rfl))
 have F3:Fr (foot tb t (some m)) w w3:=(Fr.new (HHB.out.drew)).next G3 (fun k _ e=>Or.inr (Or.inr (by rw[e])))
 have T3:treeIn w3 t:=treeIn.frame G3 ((HH.out.below HHB.out).tin) (fun k hk e=>by subst e;exact hm.1 hk)
 have hc3:=G3.keeps HC2.out (fun e=>hm.2 e.symm)
 have hb0:w.heap.size<W2.heap.size:=by have:=B2.size;omega
 have k1:w3.cell? ⟨w.heap.size,0,none⟩=some (.int .i64 f):=by
  have e:=G3.block w.heap.size hb0 (by omega)
  exact(World.cell?_of_block (w:=W2.drew) (a:=⟨w.heap.size,0,none⟩) e).trans k1'
 have k2:w3.cell? ⟨w.heap.size,1,none⟩=some (.int .i64 tz):=by
  have e:=G3.block w.heap.size hb0 (by omega)
  exact(World.cell?_of_block (w:=W2.drew) (a:=⟨w.heap.size,1,none⟩) e).trans k2'
 have hmp:mapAt w3 ((f,id,tz)::L) (some m):=⟨_,hown3,HD.out.put (f,id,tz) HX.out⟩
 have HMP:=Lib.hid hmp
 have HC3:=Lib.hid hc3
 obtain⟨c0,_,f0,_⟩:=tree_cells hc3
 clear hown3 hgrow3 G3 hmp hc3 k1' k2' c0' c1' hown2 B2
 go_wp2_with fail
 go_region_with ((go_at_call 310;rw[<-ET.out];refine(add_any id f tz t _ (by exact T3) HH.out.sep HH.out.fit (by have:=HH.out.perm.length_eq;omega)).mono ?_;rintro e w4 ⟨nb,hnb,rfl,T4,F4⟩;obtain⟨u,hu⟩:=ptr_some (addT nb (f,id,tz) t);rw[hu];have HU:=Lib.hid hu;clear hu;have hc4:=F4.keeps (b:=tb) HC3.out HH.out.nt;obtain⟨c0',_,f0',_⟩:=tree_cells hc4))
 all_goals
  have hend:=tadded (w4:=w4) HH.out (Or.inl rfl) HX.out F3.drew (by rw[ET.out];exact HC3.out) HMP.out hnb T4 F4 HU.out hm.1
  have HE:=Lib.hid hend
  clear hend
  go_wp2_with fail
  go_ret
  exact HE.out
set_option maxRecDepth 100000 in
set_option maxHeartbeats 4000000 in
theorem tadd_none (id f tz:Int) (w:World) (tb:Nat) (t:BT Nd) (h:TreeAt w tb [] t none) (h0:0<=id) (h1:id<=1048576) (hr:rightB f tz=true):
  Calls Tryz.prog 279 #[.pointer (some ⟨tb,0,none⟩),.int .i64 id,.agg #[.int .i64 f,.int .i64 tz]] w (TAdded tb [] t none (f,id,tz) w):=by
 have hR:=fun W=>right_any f tz W
 rw[hr] at hR
 obtain⟨tp,et⟩:=ptr_some t
 have ET:=Lib.hid et
 have hi:i64 id:=⟨by omega,by omega⟩
 have HI:=Lib.hid hi
 have HH:=Lib.hid h
 have htb:tb<w.heap.size:=h.lt tb (Or.inl rfl)
 have hc:=h.cells
 rw[et] at hc
 have hln:=fun W=>lookNil id hi W
 have hle:=fun W=>lenNil 3 W
 have hqm:=fun(w:World)=>run_eql_map_nil (P:=Tryz.prog) w 283 3 107 none Tryz.underlying283
 have hmm:= @run_makeMap Tryz.prog
 clear hr et hi h
 go_enter Tryz.func279,Tryz.ntmps279
 go_wp2_with fail
 refine(hR _).mono ?_
 rintro e w1 ⟨rfl,b1⟩
 have B1:Below w.heap.size w w1:=((Below.refl _ w).alloc (Nat.le_refl _) _).trans (b1.mono (by simp))
 have k1:w1.cell? ⟨w.heap.size,0,none⟩=some (.int .i64 f):=(b1.cell (p:=⟨w.heap.size,0,none⟩) (by simp)).trans (by simp)
 have k2:w1.cell? ⟨w.heap.size,1,none⟩=some (.int .i64 tz):=(b1.cell (p:=⟨w.heap.size,1,none⟩) (by simp)).trans (by simp)
 have s1:w.heap.size<w1.heap.size:=by have:=b1.size;simp at this;omega
 have hc1:=(B1.block tb htb).trans hc
 have HB1:=Lib.hid B1
 obtain⟨c0,c1,f0,f1⟩:=tree_cells hc1
 have htb1:tb<w1.heap.size:=by omega
 have HC1:=Lib.hid hc1
 clear b1 B1 hc hc1 hR
 go_wp2_with fail
 obtain⟨m,hm⟩: ∃m,m=w1.heap.size+1:=⟨_,rfl⟩
 rw[<-hm]
 obtain⟨W2,hW2⟩: ∃W2,W2=((w1.setCell ⟨tb,1,none⟩ (.map (some m))).alloc (.cells #[.int .i64 0,.int .i64 0] 107)).alloc (.map #[] 0):=⟨_,rfl⟩
 rw[<-hW2]
 have F2:Fr (· =tb) w1 W2:=by rw[hW2];exact((Fr.setCell (F:=(· =tb)) (Fr.refl _ w1) (p:=⟨tb,1,none⟩) (fun _=>rfl) _).alloc _).alloc _
 have hs2:W2.heap.size=w1.heap.size+2:=by rw[hW2];simp
 have hown2:W2.ownsMap Tryz.prog 3 spanR m 0 (.map []):=by
  have e:((w1.setCell ⟨tb,1,none⟩ (.map (some m))).alloc (.cells #[.int .i64 0,.int .i64 0] 107)).heap.size=m:=by simp[hm]
  rw[hW2]
  have:=World.ownsMap_made ((w1.setCell ⟨tb,1,none⟩ (.map (some m))).alloc (.cells #[.int .i64 0,.int .i64 0] 107)) Tryz.prog 3 spanR
  rw[e] at this
  exact this
 have hc2:W2.heap[tb]? =some (.cells #[.pointer tp,.map (some m)] 285 (0,0)):=by rw[hW2];exact block_alloc (block_alloc (tree_set1 HC1.out _) _) _
 have hne:w.heap.size≠tb:=by omega
 have k1' :W2.cell? ⟨w.heap.size,0,none⟩=some (.int .i64 f):=(World.cell?_of_block (w:=w1) (a:=⟨w.heap.size,0,none⟩) (F2.block w.heap.size s1 hne)).trans k1
 have k2' :W2.cell? ⟨w.heap.size,1,none⟩=some (.int .i64 tz):=(World.cell?_of_block (w:=w1) (a:=⟨w.heap.size,1,none⟩) (F2.block w.heap.size s1 hne)).trans k2
 obtain⟨c0',c1',_,_⟩:=tree_cells hc2
 have HC2:=Lib.hid hc2
 have HF2:=Lib.hid ((Fr.new (F:=foot tb t none) HB1.out).next F2 (fun k _ e=>Or.inl e))
 have HT2:=Lib.hid (treeIn.frame F2 ((HH.out.below HB1.out).tin) (fun k hk e=>by subst e;exact HH.out.nt hk))
 have hmge:w.heap.size<=m:=by omega
 have hml:m<W2.heap.size:=by omega
 have hmg:w.heap.size<m:=by omega
 have HM:=Lib.hid hm
 clear hW2 hc2 k1 k2 c0 c1 f0 f1 F2 hln hle hqm hmm hm hs2
 refine wp_region_tail 6 (by kernel_rfl) (by kernel_rfl) ?_
 simp only[List.take_succ_cons,List.take_zero,List.drop_succ_cons,List.drop_zero]
 repeat still_step
 refine wpStill_nil ?_
 go_wp2_with (at_mapUpdate;refine wpList_mapUpdate_own _ rfl _ _ _ 283 rfl 3 107 intLaw Tryz.underlying283 spanR m 0 (.map []) rfl (World.ownsMap.drew hown2) (by unfold maxLen;omega) _ _ _ rfl rfl (keyOf_int_mk Tryz.underlying3 (wfI HI.out)) (spanD f tz) [] rfl ?_;intro w3 hown3 hgrow3)
 have G3:=Fr.ofGrown hgrow3
 have F3:Fr (foot tb t none) w w3:=⟨G3.os.trans HF2.out.os,G3.tape.trans HF2.out.tape,G3.output.trans HF2.out.output,Nat.le_trans HF2.out.size G3.size,fun k hk hn=>(G3.block k (Nat.lt_of_lt_of_le hk HF2.out.size) (by omega)).trans (HF2.out.block k hk hn)⟩
 have hmt:m∉blocksT t:=fun e=>by have:=HH.out.lt m (Or.inr (Or.inl e));omega
 have T3:treeIn w3 t:=treeIn.frame G3 HT2.out (fun k hk e=>by subst e;exact hmt hk)
 have hc3:=G3.keeps HC2.out (fun e=>by omega)
 have hb0:w.heap.size<W2.heap.size:=by omega
 have k1:w3.cell? ⟨w.heap.size,0,none⟩=some (.int .i64 f):=by
  have e:=G3.block w.heap.size hb0 (by omega)
  exact(World.cell?_of_block (w:=W2.drew) (a:=⟨w.heap.size,0,none⟩) e).trans k1'
 have k2:w3.cell? ⟨w.heap.size,1,none⟩=some (.int .i64 tz):=by
  have e:=G3.block w.heap.size hb0 (by omega)
  exact(World.cell?_of_block (w:=W2.drew) (a:=⟨w.heap.size,1,none⟩) e).trans k2'
 have hmp:mapAt w3 [(f,id,tz)] (some m):=⟨_,hown3,mapIs_nil.put (f,id,tz) rfl⟩
 have HMP:=Lib.hid hmp
 have HC3:=Lib.hid hc3
 obtain⟨c0,_,f0,_⟩:=tree_cells hc3
 clear hown3 hgrow3 G3 hmp hc3 k1' k2' c0' c1' hown2
 go_wp2_with fail
 go_region_with ((go_at_call 310;rw[<-ET.out];refine(add_any id f tz t _ (by exact T3) HH.out.sep HH.out.fit (by rw[HH.out.perm.length_eq];decide)).mono ?_;rintro e w4 ⟨nb,hnb,rfl,T4,F4⟩;obtain⟨u,hu⟩:=ptr_some (addT nb (f,id,tz) t);rw[hu];have HU:=Lib.hid hu;clear hu;have hc4:=F4.keeps (b:=tb) HC3.out HH.out.nt;obtain⟨c0',_,f0',_⟩:=tree_cells hc4))
 all_goals
  have hend:=tadded (w4:=w4) HH.out (Or.inr hmge) rfl F3.drew (by rw[ET.out];exact HC3.out) HMP.out hnb T4 F4 HU.out hmt
  have HE:=Lib.hid hend
  clear hend
  go_wp2_with fail
  go_ret
  exact HE.out
theorem tadd_ok (id f tz:Int) (w:World) (tb:Nat) (L:List It) (t:BT Nd) (mb:Option Nat) (h:TreeAt w tb L t mb) (h0:0<=id) (h1:id<=1048576) (hr:rightB f tz=true)
  (hx:L.any (fun y=>y.2.1==id)=false) (hl:L.length<4000):
  Calls Tryz.prog 279 #[.pointer (some ⟨tb,0,none⟩),.int .i64 id,.agg #[.int .i64 f,.int .i64 tz]] w (TAdded tb L t mb (f,id,tz) w):=by
 cases mb with
 | some m=>exact tadd_some id f tz w tb L t m h h0 h1 hr hx hl
 | none=>
   have hL:L= []:=h.mp
   subst hL
   exact tadd_none id f tz w tb t h h0 h1 hr
def errV (n:Int):Value:= .iface 56 (.int .i64 n)
def TDropped (tb:Nat) (L:List It) (t:BT Nd) (mb:Option Nat) (w:World) (e:Ending) (w' :World):Prop:=
 ∃t' mb',e= .returned .nilIface/\TreeAt w' tb L t' mb' /\Fr (foot tb t mb) w w' /\ ∀k,foot tb t' mb' k->foot tb t mb k
theorem tdropped {w w3 w4:World} {tb:Nat} {L:List It} {t:BT Nd} {m:Nat} {x:It} {u:Option Addr} (h:TreeAt w tb (x::L) t (some m)) (hf3:Fr (foot tb t (some m)) w w3)
  (hc3:w3.heap[tb]? =some (.cells #[t.ptr,.map (some m)] 285 (0,0))) (hmp:mapAt w3 L (some m)) (hT:treeIn w4 (dropT t x)) (hF:Fr (· ∈blocksT t) w3 w4) (hu:(dropT t x).ptr= .pointer u):
  TDropped tb L t (some m) w (.returned .nilIface) (w4.setCell ⟨tb,0,none⟩ (.pointer u)):=by
 have hx:x∈itemsT t:=h.perm.mem_iff.2 (by simp)
 obtain⟨d1,d2,d3⟩:=drop_spec x h.fit h.srt h.ids hx
 obtain⟨e1,e2⟩:=drop_blocks x h.fit h.srt h.ids hx h.sep
 have hm:=h.nm m rfl
 have FS:Fr (· =tb) w4 (w4.setCell ⟨tb,0,none⟩ (.pointer u)):=Fr.setCell (F:=(· =tb)) (Fr.refl _ w4) (p:=⟨tb,0,none⟩) (fun _=>rfl) _
 have hnt:tb∉blocksT (dropT t x):=fun e=>h.nt (e2 _ e)
 refine⟨dropT t x,some m,rfl,⟨?_,treeIn.frame FS hT (fun k hk e=>by subst e;exact hnt hk),e1,d1,(drop_bal x h.fit h.bal).2.1,d2,?_,List.Perm.cons_inv (d3.symm.trans h.perm),?_,hnt,?_⟩,?_,?_⟩
 · rw[hu];exact tree_set0 (hF.keeps hc3 h.nt) _
 · have:=(d3.map (·.2.1)).nodup_iff.1 h.ids
   rw[List.map_cons,List.nodup_cons] at this
   exact this.2
 · exact(hmp.frame hF (fun k e=>by cases e;exact hm.1)).frame FS (fun k e=>by cases e;exact hm.2)
 · rintro k e
   cases e
   exact⟨fun e=>hm.1 (e2 _ e),hm.2⟩
 · exact(hf3.next hF (fun k _ e=>Or.inr (Or.inl e))).next FS (fun k _ e=>Or.inl e)
 · intro k hk
   rcases hk with e|e|e
   · exact Or.inl e
   · exact Or.inr (Or.inl (e2 _ e))
   · exact Or.inr (Or.inr e)
set_option maxRecDepth 100000 in
set_option maxHeartbeats 4000000 in
theorem tdrop_ok (id f tz:Int) (hi:i64 id) (w:World) (tb:Nat) (L:List It) (t:BT Nd) (mb:Option Nat) (h:TreeAt w tb ((f,id,tz)::L) t mb) (hlen:L.length<4000):
  Calls Tryz.prog 161 #[.pointer (some ⟨tb,0,none⟩),.int .i64 id] w (TDropped tb L t mb w):=by
 cases mb with
 | none=>have:=h.mp;cases this
 | some m=>
   obtain⟨tp,et⟩:=ptr_some t
   have ET:=Lib.hid et
   have HI:=Lib.hid hi
   have htb:tb<w.heap.size:=h.lt tb (Or.inl rfl)
   have hx:(f,id,tz)∈itemsT t:=h.perm.mem_iff.2 (by simp)
   have hok:DropOk t (f,id,tz):=⟨h.sep,h.fit,h.srt,h.ids,hx,by rw[h.perm.length_eq];simp;omega⟩
   have hLn:L.any (fun y=>y.2.1==id)=false:=by
    have:=(h.perm.map (·.2.1)).nodup_iff.1 h.ids
    rw[List.map_cons,List.nodup_cons] at this
    rw[Bool.eq_false_iff];intro e
    obtain⟨y,hy,e⟩:=List.any_eq_true.1 e
    exact this.1 (List.mem_map.2 ⟨y,hy,by simpa using e⟩)
   obtain⟨D,hown,hD⟩:=h.mp
   have hhas:Maps.has D (.int .i64 id)=true:=(hD.has id).trans (by simp)
   have hat:D.atKey (.int .i64 id) (spanD 0 0)=spanD f tz:=hD.at' (f,id,tz) (by simp) _
   have hc:=h.cells
   rw[et] at hc
   have HHAS:=Lib.hid hhas
   have HAT:=Lib.hid hat
   have HD:=Lib.hid hD
   have HH:=Lib.hid h
   have HOK:=Lib.hid hok
   have HLN:=Lib.hid hLn
   have HC:=Lib.hid hc
   obtain⟨c0,c1,f0,f1⟩:=tree_cells hc
   clear et hi hx hok hLn hhas hat hD hc h
   go_enter Tryz.func161,Tryz.ntmps161
   go_wp2_with (first
    | (at_lookup;refine wpList_lookup_own_ok _ rfl _ _ 283 rfl 3 107 intLaw Tryz.underlying283 spanR (zeroSpan _) (spanD 0 0) [] rfl m (L.length+1) D rfl hown _ _ rfl (keyOf_int_mk Tryz.underlying3 (wfI HI.out)) ?_;intro v ps hv;obtain⟨vf,vt,rfl,hv2⟩:=spanR_inv hv;rw[HHAS.out];have hv3:=spanD_inj (HAT.out.symm.trans (congrArg Prod.fst hv2));obtain⟨rfl,rfl⟩:=hv3;clear hv hv2)
    | (at_delete;refine wpList_delete_own _ rfl _ _ 283 3 rfl 107 intLaw Tryz.underlying283 spanR m (L.length+1) D rfl (hown.alloc _) _ _ rfl (keyOf_int_mk Tryz.underlying3 (wfI HI.out)) ?_;intro w3 hown3 hturn3))
   have G3:=Fr.ofGrown hturn3.grown
   have hm:=HH.out.nm m rfl
   have hml:m<w.heap.size:=HH.out.lt m (Or.inr (Or.inr rfl))
   have F3:Fr (foot tb t (some m)) w w3:=(Fr.alloc (Fr.refl (foot tb t (some m)) w) _).next G3 (fun k _ e=>Or.inr (Or.inr (by rw[e])))
   have T3:treeIn w3 t:=treeIn.frame G3 (treeIn.frame (F:=fun _=>False) (Fr.alloc (Fr.refl _ w) _) HH.out.tin (fun _ _ e=>e)) (fun k hk e=>by subst e;exact hm.1 hk)
   have hc3:=G3.keeps (block_alloc HC.out _) (fun e=>hm.2 e.symm)
   have k1:w3.cell? ⟨w.heap.size,0,none⟩=some (.int .i64 f):=by
    have e:=G3.block w.heap.size (by simp) (by omega)
    exact(World.cell?_of_block (a:=⟨w.heap.size,0,none⟩) e).trans (by simp)
   have k2:w3.cell? ⟨w.heap.size,1,none⟩=some (.int .i64 tz):=by
    have e:=G3.block w.heap.size (by simp) (by omega)
    exact(World.cell?_of_block (a:=⟨w.heap.size,1,none⟩) e).trans (by simp)
   have hD2:=MapIs.del (f,id,tz) HD.out HLN.out
   have hmp:mapAt w3 L (some m):=⟨_,by have:=owns_tight hown3;rw[show Maps.size (D.del (.int .i64 id))=L.length from hD2.size] at this;exact this,hD2⟩
   have HMP:=Lib.hid hmp
   have HC3:=Lib.hid hc3
   obtain⟨c0',_,f0',_⟩:=tree_cells hc3
   clear hown3 hturn3 G3 hmp hc3 hD2 c0 c1 f0 f1 hown
   go_wp2_with fail
   go_region_with ((go_at_call 222;rw[<-ET.out];refine(drop_any t (f,id,tz) _ (by exact T3) HOK.out).mono ?_;rintro e w4 ⟨rfl,T4,F4⟩;obtain⟨u,hu⟩:=ptr_some (dropT t (f,id,tz));rw[hu];have HU:=Lib.hid hu;clear hu;have hc4:=F4.keeps (b:=tb) HC3.out HH.out.nt;obtain⟨c0'',_,f0'',_⟩:=tree_cells hc4))
   all_goals
    have hend:=tdropped (w4:=w4) HH.out F3.drew (by rw[ET.out];exact HC3.out) HMP.out T4 F4 HU.out
    have HE:=Lib.hid hend
    clear hend
    go_wp2_with fail
    go_ret
    exact HE.out
structure MeetW (base sb kb ob:Nat) (f t:Int) (v:Value) (out:List Int) (w:World):Prop where
 hs:w.heap[sb]? =some (.cells #[.int .i64 f,.int .i64 t] 107 (0,0))
 hk:w.heap[kb]? =some (.cells #[.func (.func 244) #[] #[.pointer (some ⟨sb,0,none⟩),.pointer (some ⟨kb,0,none⟩),.pointer (some ⟨ob,0,none⟩)]] 312 (0,0))
 ho:w.heap[ob]? =some (.cells #[v] 93 (0,0))
 own:w.ownsRow base 3 1 v out.length (out.map (Value.int .i64))
 ls:sb<base
 lk:kb<base
 lo:ob<base
 so:sb≠ob
 ko:kb≠ob
 hb:base<=w.heap.size
theorem MeetW.frame {base sb kb ob:Nat} {f t:Int} {v:Value} {out:List Int} {w w' :World} (h:MeetW base sb kb ob f t v out w) (hf:Fr (fun k=>k=ob\/base<=k) w w') {v' :Value} {out' :List Int}
  (ho:w'.heap[ob]? =some (.cells #[v'] 93 (0,0))) (own:w'.ownsRow base 3 1 v' out'.length (out'.map (Value.int .i64))):MeetW base sb kb ob f t v' out' w' :=
 ⟨hf.keeps h.hs (fun e=>by rcases e with e|e;exact h.so e;exact absurd h.ls (by omega)),hf.keeps h.hk (fun e=>by rcases e with e|e;exact h.ko e;exact absurd h.lk (by omega)),ho,own,h.ls,h.lk,h.lo,h.so,h.ko,Nat.le_trans h.hb hf.size⟩
theorem MeetW.drew {base sb kb ob:Nat} {f t:Int} {v:Value} {out:List Int} {w:World} (h:MeetW base sb kb ob f t v out w):MeetW base sb kb ob f t v out w.drew:=
 ⟨h.hs,h.hk,h.ho,h.own,h.ls,h.lk,h.lo,h.so,h.ko,h.hb⟩
theorem MeetW.drewN {base sb kb ob:Nat} {f t:Int} {v:Value} {out:List Int} {w:World} (h:MeetW base sb kb ob f t v out w) (n:Nat):MeetW base sb kb ob f t v out (w.drewN n):=
 ⟨h.hs,h.hk,h.ho,h.own,h.ls,h.lk,h.lo,h.so,h.ko,h.hb⟩
theorem Fr.ofRow {w w' :World} {base:Nat} {row:Option Nat} (h:w.grownBy w' row) (hr: ∀k,row=some k->base<=k):Fr (fun k=>base<=k) w w' :=⟨h.os,h.tape,h.output,h.size,fun k hk hn=>h.block k hk (fun e=>hn (hr k e.symm))⟩
def Met (base sb kb ob:Nat) (f t:Int) (out:List Int) (w:World) (e:Ending) (w' :World):Prop:=
 e= .returned (.tuple #[])/\(∃v',MeetW base sb kb ob f t v' out w')/\Fr (fun k=>k=ob\/base<=k) w w'
set_option maxRecDepth 100000 in
set_option maxHeartbeats 1000000 in
theorem meets1_nil (base sb kb ob:Nat) (f t:Int) (v:Value) (out:List Int) (w:World) (h:MeetW base sb kb ob f t v out w):
  Calls Tryz.prog 244 #[.pointer none,.pointer (some ⟨sb,0,none⟩),.pointer (some ⟨kb,0,none⟩),.pointer (some ⟨ob,0,none⟩)] w (Met base sb kb ob f t out w):=by
 go_enter Tryz.func244,Tryz.ntmps244
 go_wp2_with fail
 go_quiet (fail)
 go_wp2_with fail
 refine bodyPost_ret (results_none rfl _ _ _) rfl ?_
 exact⟨rfl,⟨v,h.drewN _⟩,(Fr.refl _ w).drewN _⟩
theorem find_le (f t:Int): ∀(T:BT Nd),(findT f t T).length<=(itemsT T).length
 | .nil=>Nat.le_refl _
 | .node b o a l r=>by
   have h1:=find_le f t l
   have h2:=find_le f t r
   have h3:(itemsT (.node b o a l r)).length=(itemsT l).length+1+(itemsT r).length:=by simp[itemsT];omega
   unfold findT
   split
   · simp
   · split
     · split<;>simp<;>omega
     · simp;omega
theorem one_new (W:World) (x:Int): ∀j u,([.int .i64 x]:List Value)[j]? =some u->(W.alloc (.cells #[.int .i64 x] 3)).cell? ((⟨W.heap.size,0,none⟩:Addr).add j)=some u:=by
 intro j u hu
 match j,hu with
 | 0,hu=>simp at hu;subst hu;simp[Addr.add]
set_option maxRecDepth 100000 in
set_option maxHeartbeats 8000000 in
theorem meets1_node (base sb kb ob:Nat) (f t:Int) (b:Nat) (a:Nd) (l r:BT Nd)
  (ihl: ∀v out w,MeetW base sb kb ob f t v out w->treeIn w l->out.length+(itemsT l).length<549755813888->Calls Tryz.prog 244 #[l.ptr,.pointer (some ⟨sb,0,none⟩),.pointer (some ⟨kb,0,none⟩),.pointer (some ⟨ob,0,none⟩)] w (Met base sb kb ob f t (out++findT f t l) w))
  (ihr: ∀v out w,MeetW base sb kb ob f t v out w->treeIn w r->out.length+(itemsT r).length<549755813888->Calls Tryz.prog 244 #[r.ptr,.pointer (some ⟨sb,0,none⟩),.pointer (some ⟨kb,0,none⟩),.pointer (some ⟨ob,0,none⟩)] w (Met base sb kb ob f t (out++findT f t r) w))
  (v:Value) (out:List Int) (w:World) (h:MeetW base sb kb ob f t v out w) (hin:treeIn w (.node b 0 a l r)) (hlt: ∀k∈blocksT (.node b 0 a l r),k<base/\k≠ob) (hc:out.length+(itemsT (.node b 0 a l r)).length<549755813888):
  Calls Tryz.prog 244 #[.pointer (some ⟨b,0,none⟩),.pointer (some ⟨sb,0,none⟩),.pointer (some ⟨kb,0,none⟩),.pointer (some ⟨ob,0,none⟩)] w (Met base sb kb ob f t (out++findT f t (.node b 0 a l r)) w):=by
 have hlen:(itemsT (.node b 0 a l r)).length=(itemsT l).length+1+(itemsT r).length:=by simp[itemsT];omega
 rw[hlen] at hc
 have hfl:=find_le f t l
 obtain⟨_,hb,hll,hrr⟩:=hin.parts
 obtain⟨lp,el⟩:=ptr_some l
 obtain⟨rp,er⟩:=ptr_some r
 rw[el,er] at hb
 rw[el] at ihl
 rw[er] at ihr
 have hbl:b<base/\b≠ob:=hlt b (by simp[blocksT])
 have hl1: ∀k∈blocksT l,k<base/\k≠ob:=fun k hk=>hlt k (by simp[blocksT,hk])
 have hr1: ∀k∈blocksT r,k<base/\k≠ob:=fun k hk=>hlt k (by simp[blocksT,hk])
 have IHL:=Lib.hid ihl
 have IHR:=Lib.hid ihr
 have HB:=Lib.hid hb
 obtain⟨_,d1,d2,d3,_,d5,d6⟩:=node_cells hb
 have s0:=block_cell h.hs 0
 have s1:=block_cell h.hs 1
 have q0:=cell_of_one h.hk
 have HM:=Lib.hid h
 simp only[List.getElem?_toArray,List.getElem?_cons_zero,List.getElem?_cons_succ] at s0 s1
 obtain⟨hb1,hb2⟩:=hbl
 clear hlen el er ihl ihr hb hin hlt h
 by_cases hla:a.last<=f
 · have hf:findT f t (.node b 0 a l r)= []:=by show(if a.last<=f then _ else _)=_;rw[if_pos hla]
   have HF:=Lib.hid hf
   clear hf
   go_enter Tryz.func244,Tryz.ntmps244
   go_wp2_with fail
   go_quiet (fail)
   go_wp2_with fail
   refine bodyPost_ret (results_none rfl _ _ _) rfl ?_
   rw[HF.out,List.append_nil]
   exact⟨rfl,⟨v,HM.out.drewN _⟩,(Fr.refl _ w).drewN _⟩
 · have hf:findT f t (.node b 0 a l r)=findT f t l++if a.f<t then (if f<a.t then [a.id] else [])++findT f t r else []:=by show(if a.last<=f then _ else _)=_;rw[if_neg hla]
   have HF:=Lib.hid hf
   clear hf
   go_enter Tryz.func244,Tryz.ntmps244
   go_wp2_with fail
   go_quiet (fail)
   obtain⟨w1,hw1⟩: ∃w1,w1=w.drewN nq:=⟨_,rfl⟩
   rw[<-hw1]
   have M1:MeetW base sb kb ob f t v out w1:=by rw[hw1];exact HM.out.drewN _
   have T1:treeIn w1 l:=by rw[hw1];exact hll
   have U1:treeIn w1 r:=by rw[hw1];exact hrr
   have B1:w1.heap[b]? =some (nodeO a (.pointer lp) (.pointer rp)):=by rw[hw1];exact HB.out
   have F1:Fr (fun k=>k=ob\/base<=k) w w1:=by rw[hw1];exact(Fr.refl _ w).drewN _
   have q0' :w1.cell? ⟨kb,0,none⟩=some (.func (.func 244) #[] #[.pointer (some ⟨sb,0,none⟩),.pointer (some ⟨kb,0,none⟩),.pointer (some ⟨ob,0,none⟩)]):=by rw[hw1];exact q0
   have d5' :w1.cell? ⟨b,5,none⟩=some (.pointer lp):=by rw[hw1];exact d5
   clear hw1 d1 d2 d3 d5 d6 s0 s1 q0 hll hrr
   go_wp2_with fail
   go_region_held3 (fun W=>W.cell? ⟨kb,0,none⟩=some (.func (.func 244) #[] #[.pointer (some ⟨sb,0,none⟩),.pointer (some ⟨kb,0,none⟩),.pointer (some ⟨ob,0,none⟩)])/\W.cell? ⟨b,5,none⟩=some (.pointer lp))
    (first|exact⟨q0',d5'⟩|exact hS3)
    ((go_at_call 244;refine(IHL.out v out _ (by exact M1.drew) (by exact T1) (by omega)).mono ?_;rintro e w3 ⟨rfl,⟨v3,M3⟩,F3⟩;have hb3:=F3.keeps B1 (fun e=>by rcases e with e|e;exact hb2 e;omega);have hS3:w3.cell? ⟨kb,0,none⟩=some (.func (.func 244) #[] #[.pointer (some ⟨sb,0,none⟩),.pointer (some ⟨kb,0,none⟩),.pointer (some ⟨ob,0,none⟩)])/\w3.cell? ⟨b,5,none⟩=some (.pointer lp):=⟨cell_of_one M3.hk,block_cell hb3 5⟩))
   have F3' :Fr (fun k=>k=ob\/base<=k) w w3:=F1.drew.next F3 (fun k _ e=>e)
   have U3:treeIn w3 r:=treeIn.frame F3 U1 (fun k hk e=>by rcases e with e|e;exact(hr1 k hk).2 e;have:=(hr1 k hk).1;omega)
   obtain⟨out1,ho1⟩: ∃o,o=out++findT f t l:=⟨_,rfl⟩
   have hlo:out1.length<=out.length+(itemsT l).length:=by rw[ho1,List.length_append];omega
   rw[<-ho1] at M3
   have HO1:=Lib.hid ho1
   clear ho1 M1 T1 U1 B1 F1 q0' d5' hS3 F3
   obtain⟨d0,d1,d2,_,_,_,d6⟩:=node_cells hb3
   have s0:=block_cell M3.hs 0
   have s1:=block_cell M3.hs 1
   simp only[List.getElem?_toArray,List.getElem?_cons_zero,List.getElem?_cons_succ] at s0 s1
   have HM3:=Lib.hid M3
   have HB3:=Lib.hid hb3
   clear M3 hb3
   by_cases h2:a.f<t
   · by_cases h3:f<a.t
     · have hres:findT f t (.node b 0 a l r)=findT f t l++(a.id::findT f t r):=by rw[HF.out,if_pos h2,if_pos h3];rfl
       have HR:=Lib.hid hres
       clear hres
       go_wp2_with fail
       go_quiet (fail)
       revert nq;intro n1
       go_wp2_with fail
       go_quiet (fail)
       revert nq;intro n2
       obtain⟨w4,hw4⟩: ∃w4,w4=(w3.drewN n1).drewN n2:=⟨_,rfl⟩
       rw[<-hw4]
       have M4:MeetW base sb kb ob f t v3 out1 w4:=by rw[hw4];exact(HM3.out.drewN n1).drewN n2
       have U4:treeIn w4 r:=by rw[hw4];exact U3
       have hb4:w4.heap[b]? =some (nodeO a (.pointer lp) (.pointer rp)):=by rw[hw4];exact HB3.out
       have F4:Fr (fun k=>k=ob\/base<=k) w w4:=by rw[hw4];exact(F3'.drewN _).drewN _
       clear hw4 d0 d1 d2 d6 s0 s1 U3 F3'
       obtain⟨d0,_,_,_,_,_,_⟩:=node_cells hb4
       have o0:=cell_of_one M4.ho
       have of0:=free_of_one M4.ho
       have hobl:ob<w4.heap.size:=lt_of_block M4.ho
       have hown:=M4.own
       have hbs:=M4.hb
       have hbb:b<w4.heap.size:=lt_of_block hb4
       have HM4:=Lib.hid M4
       have HB4:=Lib.hid hb4
       clear M4 hb4
       obtain⟨i0,hi,hz0,hz1,hz2⟩:=info_parts infoInt
       go_wp2_with fail
       go_region_law (refine step_append_own rfl _ _ 93 rfl base 3 i0 (.int .i64 0) 1 8 Tryz.underlying93 hi hz0 hz1 hz2 rfl (by decide) v3 out1.length _ rfl (hown.alloc _) ⟨w4.heap.size,0,none⟩ 1 1 [.int .i64 a.id] rfl rfl (one_new w4 a.id) (by simp[Value.oneCell']) (by unfold maxLen;omega) (by omega) (by simp;omega) ?_;intro v5 w5 hown5 hgrow5 _;obtain⟨g5,c5,rfl⟩:=ownsRow_succ hown5;have F5:=Fr.ofRow hgrow5 (fun k hk=>(hown.lt k hk).1);have ho5:=F5.keeps (b:=ob) (block_alloc HM4.out.ho _) (by have:=HM4.out.lo;omega);have o0' :=cell_of_one ho5;have of0' :=free_of_one ho5)
       all_goals
        have hg5:=(hown5.lt g5 rfl).1
        have FS:Fr (fun k=>k=ob\/base<=k) w5 (w5.setCell ⟨ob,0,none⟩ (.slice (some ⟨g5,0,none⟩) (out1.length+1) c5)):=Fr.setCell (F:=fun k=>k=ob\/base<=k) (Fr.refl _ w5) (p:=⟨ob,0,none⟩) (fun _=>Or.inl rfl) _
        have F46:Fr (fun k=>k=ob\/base<=k) w4 (w5.setCell ⟨ob,0,none⟩ (.slice (some ⟨g5,0,none⟩) (out1.length+1) c5)):=
         ((Fr.alloc (Fr.refl (fun k=>k=ob\/base<=k) w4) _).drew.next F5 (fun k _ e=>Or.inr e)).next FS (fun k _ e=>e)
        obtain⟨w6,hw6⟩: ∃w6,w6=w5.setCell ⟨ob,0,none⟩ (.slice (some ⟨g5,0,none⟩) (out1.length+1) c5):=⟨_,rfl⟩
        rw[<-hw6] at F46 ⊢
        have M6:MeetW base sb kb ob f t (.slice (some ⟨g5,0,none⟩) (out1.length+1) c5) (out1++ [a.id]) w6:=by
         refine HM4.out.frame F46 (by rw[hw6];exact one_setCell ho5) ?_
         have:=ownsRow_setCell_other hown5 (a:=⟨ob,0,none⟩) (by have:=HM4.out.lo;simp[Value.ownBlock];omega) (.slice (some ⟨g5,0,none⟩) (out1.length+1) c5)
         rw[hw6,List.length_append,List.map_append]
         exact this
        have U6:treeIn w6 r:=treeIn.frame F46 U4 (fun k hk e=>by rcases e with e|e;exact(hr1 k hk).2 e;have:=(hr1 k hk).1;omega)
        have hb6:=F46.keeps HB4.out (fun e=>by rcases e with e|e;exact hb2 e;omega)
        have F6:=F4.next F46 (fun k _ e=>e)
        obtain⟨_,_,_,_,_,_,d6⟩:=node_cells hb6
        have q0:=cell_of_one M6.hk
        clear hw6 hown5 hgrow5 F5 ho5 o0' of0' FS F46 hown o0 of0 d0
        go_wp2_with fail
        go_region_held3 (fun W=>W.cell? ⟨kb,0,none⟩=some (.func (.func 244) #[] #[.pointer (some ⟨sb,0,none⟩),.pointer (some ⟨kb,0,none⟩),.pointer (some ⟨ob,0,none⟩)])/\W.cell? ⟨b,6,none⟩=some (.pointer rp))
         (first|exact⟨q0,d6⟩|exact hS3)
         ((go_at_call 244;refine(IHR.out _ (out1++ [a.id]) _ (by exact M6.drew) (by exact U6) (by rw[List.length_append,List.length_singleton];omega)).mono ?_;rintro e w7 ⟨rfl,⟨v7,M7⟩,F7⟩;have hb7:=F7.keeps hb6 (fun e=>by rcases e with e|e;exact hb2 e;omega);have hS3:w7.cell? ⟨kb,0,none⟩=some (.func (.func 244) #[] #[.pointer (some ⟨sb,0,none⟩),.pointer (some ⟨kb,0,none⟩),.pointer (some ⟨ob,0,none⟩)])/\w7.cell? ⟨b,6,none⟩=some (.pointer rp):=⟨cell_of_one M7.hk,block_cell hb7 6⟩))
        have HM7:=Lib.hid M7
        clear M7 hS3
        go_wp2_with fail
        refine bodyPost_end (results_none rfl _ _ _) rfl ?_
        rw[HR.out, <-List.singleton_append, <-List.append_assoc, <-List.append_assoc, <-HO1.out]
        exact⟨rfl,⟨_,HM7.out⟩,F6.drew.next F7 (fun k _ e=>e)⟩
     · have hres:findT f t (.node b 0 a l r)=findT f t l++findT f t r:=by rw[HF.out,if_pos h2,if_neg h3,List.nil_append]
       have HR:=Lib.hid hres
       clear hres
       go_wp2_with fail
       go_quiet (fail)
       revert nq;intro n1
       go_wp2_with fail
       go_quiet (fail)
       revert nq;intro n2
       obtain⟨w4,hw4⟩: ∃w4,w4=(w3.drewN n1).drewN n2:=⟨_,rfl⟩
       rw[<-hw4]
       have M4:MeetW base sb kb ob f t v3 out1 w4:=by rw[hw4];exact(HM3.out.drewN n1).drewN n2
       have U4:treeIn w4 r:=by rw[hw4];exact U3
       have hb4:w4.heap[b]? =some (nodeO a (.pointer lp) (.pointer rp)):=by rw[hw4];exact HB3.out
       have F4:Fr (fun k=>k=ob\/base<=k) w w4:=by rw[hw4];exact(F3'.drewN _).drewN _
       clear hw4 d0 d1 d2 d6 s0 s1 U3 F3'
       obtain⟨_,_,_,_,_,_,d6⟩:=node_cells hb4
       have q0:=cell_of_one M4.hk
       go_wp2_with fail
       go_region_held3 (fun W=>W.cell? ⟨kb,0,none⟩=some (.func (.func 244) #[] #[.pointer (some ⟨sb,0,none⟩),.pointer (some ⟨kb,0,none⟩),.pointer (some ⟨ob,0,none⟩)])/\W.cell? ⟨b,6,none⟩=some (.pointer rp))
        (first|exact⟨q0,d6⟩|exact hS3)
        ((go_at_call 244;refine(IHR.out v3 out1 _ (by exact M4.drew) (by exact U4) (by omega)).mono ?_;rintro e w5 ⟨rfl,⟨v5,M5⟩,F5⟩;have hb5:=F5.keeps hb4 (fun e=>by rcases e with e|e;exact hb2 e;omega);have hS3:w5.cell? ⟨kb,0,none⟩=some (.func (.func 244) #[] #[.pointer (some ⟨sb,0,none⟩),.pointer (some ⟨kb,0,none⟩),.pointer (some ⟨ob,0,none⟩)])/\w5.cell? ⟨b,6,none⟩=some (.pointer rp):=⟨cell_of_one M5.hk,block_cell hb5 6⟩))
       have HM5:=Lib.hid M5
       clear M5 hS3
       go_wp2_with fail
       refine bodyPost_end (results_none rfl _ _ _) rfl ?_
       rw[HR.out, <-List.append_assoc, <-HO1.out]
       exact⟨rfl,⟨_,HM5.out⟩,F4.drew.next F5 (fun k _ e=>e)⟩
   · have hres:findT f t (.node b 0 a l r)=findT f t l:=by rw[HF.out,if_neg h2,List.append_nil]
     have HR:=Lib.hid hres
     clear hres
     go_wp2_with fail
     go_quiet (fail)
     go_wp2_with fail
     refine bodyPost_ret (results_none rfl _ _ _) rfl ?_
     rw[HR.out, <-HO1.out]
     exact⟨rfl,⟨_,HM3.out.drewN _⟩,F3'.drewN _⟩
theorem meets1_any (base sb kb ob:Nat) (f t:Int): ∀(T:BT Nd) (v:Value) (out:List Int) (w:World),MeetW base sb kb ob f t v out w->treeIn w T->(∀k∈blocksT T,k<base/\k≠ob)->FitT T->out.length+(itemsT T).length<549755813888→
  Calls Tryz.prog 244 #[T.ptr,.pointer (some ⟨sb,0,none⟩),.pointer (some ⟨kb,0,none⟩),.pointer (some ⟨ob,0,none⟩)] w (Met base sb kb ob f t (out++findT f t T) w)
 | .nil,v,out,w,h,_,_,_,_=>by
   have:=meets1_nil base sb kb ob f t v out w h
   rw[show findT f t .nil= [] from rfl,List.append_nil]
   exact this
 | .node b o a l r,v,out,w,h,hin,hlt,hf,hc=>by
   obtain rfl:o=0:=hf.1
   exact meets1_node base sb kb ob f t b a l r
    (fun v out w h1 h2 h3=>meets1_any base sb kb ob f t l v out w h1 h2 (fun k hk=>hlt k (by simp[blocksT,hk])) hf.2.2.2.1 h3)
    (fun v out w h1 h2 h3=>meets1_any base sb kb ob f t r v out w h1 h2 (fun k hk=>hlt k (by simp[blocksT,hk])) hf.2.2.2.2 h3)
    v out w h hin hlt hc
theorem sortSlice_own (base:Nat) (l:List Int) (v:Value) (w:World) (hown:w.ownsRow base 3 1 v l.length (l.map (Value.int .i64))) (hb:base<=w.heap.size) (hsz:l.length<4611686018427387904):
  Calls Tryz.prog 157 #[v] w fun e w' =>e= .returned (.tuple #[])/\w'.ownsRow base 3 1 v l.length ((sortI l).map (Value.int .i64))/\Below base w w' :=by
 rcases hown.2 with ⟨rfl,hn⟩|⟨g,cap,cur,rfl,hbg,hh,hnc,hcm,hcs,htk⟩
 · have hl:l= []:=List.eq_nil_of_length_eq_zero hn
   subst hl
   refine(Tryz.slices_Sort_int_none none 0 w).mono ?_
   rintro e w' ⟨rfl,rfl⟩
   exact⟨rfl,by simpa [sortI] using hown,Below.refl _ _⟩
 · have hH:Holds (Value.int .i64) w g 0 l.toArray:=holds_of_blockI hh (by rw[Nat.mul_one] at htk;exact htk)
   have hgl:g<w.heap.size:=(Array.getElem?_eq_some_iff.1 hh).1
   refine(Tryz.slices_Sort_int g 0 cap l w hH hgl hsz).mono ?_
   rintro e w' ⟨rfl,n,os,rfl⟩
   refine⟨rfl,?_,?_⟩
   · exact ownsRow_sortedI (by simp) hbg hh hnc hcm hcs
   · exact(Below.refl base w).grown (grownBy_sortedI _) hb (fun k hk=>by cases hk;exact hbg)
theorem sortI_perm {l m:List Int} (h:l.Perm m):sortI l=sortI m:=by
 refine List.Perm.eq_of_pairwise (le:=(· <= ·)) (fun a b _ _ h1 h2=>Int.le_antisymm h1 h2) (sortI_sorted l) (sortI_sorted m) ?_
 exact((List.mergeSort_perm l _).trans h).trans (List.mergeSort_perm m _).symm
def meetsL (L:List It) (f t:Int):List Int:=if rightB f t then sortI ((L.filter (meetsT f t)).map (·.2.1)) else []
theorem ownsRow_base {w:World} {base base' :Nat} {e:TypeId} {size:Nat} {v:Value} {n:Nat} {xs:List Value} (h:w.ownsRow base e size v n xs) (hb:base' <=base):w.ownsRow base' e size v n xs:=
 ⟨h.1,h.2.imp id fun⟨g,cap,cur,h1,h2,h3⟩=>⟨g,cap,cur,h1,Nat.le_trans hb h2,h3⟩⟩
theorem meet_start (w:World) (f t:Int):MeetW (w.heap.size+1+1+1) w.heap.size (w.heap.size+1+1) (w.heap.size+1) f t (.slice none 0 0) []
  (((w.alloc (.cells #[.int .i64 f,.int .i64 t] 107)).alloc (.cells #[.slice none 0 0] 93)).alloc (.cells #[.func (.func 244) #[] #[.pointer (some ⟨w.heap.size,0,none⟩),.pointer (some ⟨w.heap.size+1+1,0,none⟩),.pointer (some ⟨w.heap.size+1,0,none⟩)]] 312)):=by
 refine⟨block_alloc (block_alloc (block_alloc_new w _) _) _,?_,block_alloc (new_node w _ _ rfl) _,World.ownsRow_nil _ _ _ _,by omega,by omega,by omega,by omega,by omega,by simp⟩
 have h:((w.alloc (.cells #[.int .i64 f,.int .i64 t] 107)).alloc (.cells #[.slice none 0 0] 93)).heap.size=w.heap.size+1+1:=by simp
 have:=block_alloc_new ((w.alloc (.cells #[.int .i64 f,.int .i64 t] 107)).alloc (.cells #[.slice none 0 0] 93)) (.cells #[.func (.func 244) #[] #[.pointer (some ⟨w.heap.size,0,none⟩),.pointer (some ⟨w.heap.size+1+1,0,none⟩),.pointer (some ⟨w.heap.size+1,0,none⟩)]] 312)
 rw[h] at this
 exact this
theorem meetsL_length (L:List It) (f t:Int):(meetsL L f t).length<=L.length:=by
 unfold meetsL
 split
 · rw[sortI_length,List.length_map];exact List.length_filter_le _ _
 · simp
set_option maxRecDepth 100000 in
set_option maxHeartbeats 4000000 in
theorem tmeets_any (f t:Int) (w:World) (tb:Nat) (L:List It) (T:BT Nd) (mb:Option Nat) (h:TreeAt w tb L T mb) (hl:L.length<4294967296):
  Calls Tryz.prog 188 #[.pointer (some ⟨tb,0,none⟩),.agg #[.int .i64 f,.int .i64 t]] w fun e w' => ∃v,e= .returned v/\w'.ownsRow w.heap.size 3 1 v (meetsL L f t).length ((meetsL L f t).map (Value.int .i64))/\Below w.heap.size w w' :=by
 have hmf: ∀(fn:Fn) (first cap:Array Value) (w:World),(Instr.makeFunc fn first cap).run Tryz.prog w= .ok (.func fn first cap) w:=fun _ _ _ _=>rfl
 obtain⟨tp,et⟩:=ptr_some T
 have htb:tb<w.heap.size:=h.lt tb (Or.inl rfl)
 have hc:=h.cells
 rw[et] at hc
 have ET:=Lib.hid et
 have HH:=Lib.hid h
 have HC:=Lib.hid hc
 have hR:=fun W=>right_any f t W
 have hST:=meet_start w f t
 obtain⟨W0,hW0⟩: ∃W0,W0=(((w.alloc (.cells #[.int .i64 f,.int .i64 t] 107)).alloc (.cells #[.slice none 0 0] 93)).alloc (.cells #[.func (.func 244) #[] #[.pointer (some ⟨w.heap.size,0,none⟩),.pointer (some ⟨w.heap.size+1+1,0,none⟩),.pointer (some ⟨w.heap.size+1,0,none⟩)]] 312)):=⟨_,rfl⟩
 rw[<-hW0] at hST
 have hB0:Below w.heap.size w W0:=by rw[hW0];exact(((Below.refl _ w).alloc (Nat.le_refl _) _).alloc (by simp) _).alloc (by simp;omega) _
 have hs0:W0.heap.size=w.heap.size+1+1+1:=by rw[hW0];simp
 have HW0:=Lib.hid hW0
 have HST:=Lib.hid hST
 have HB0:=Lib.hid hB0
 have HS0:=Lib.hid hs0
 clear et h hc hST hB0 hW0 hs0
 cases hr:rightB f t
 · rw [hr] at hR
   have hm:meetsL L f t= []:=by unfold meetsL;rw[if_neg (by simp[hr])]
   have HM:=Lib.hid hm
   clear hr hm
   go_enter Tryz.func188,Tryz.ntmps188
   go_wp2_with fail
   rw[<-HW0.out]
   refine(hR _).mono ?_
   rintro e w1 ⟨rfl,b1⟩
   have M1:MeetW (w.heap.size+1+1+1) w.heap.size (w.heap.size+1+1) (w.heap.size+1) f t (.slice none 0 0) [] w1:=HST.out.frame (Fr.new b1) ((Fr.new (F:=fun _=>False) b1).keeps HST.out.ho (fun e=>e)) (World.ownsRow_nil _ _ _ _)
   have B1:=HB0.out.trans (b1.mono (by rw[HS0.out];omega))
   have HB1:=Lib.hid B1
   have o0:=cell_of_one M1.ho
   have HM1:=Lib.hid M1
   have hbs:=M1.hb
   clear b1 B1 M1 hR hmf
   go_wp2_with fail
   refine(sortSlice_own (w.heap.size+1+1+1) [] (.slice none 0 0) w1 (World.ownsRow_nil _ _ _ _) (by omega) (by simp)).mono ?_
   rintro e w2 ⟨rfl,own2,b2⟩
   have o2:=(b2.cell (p:=⟨w.heap.size+1,0,none⟩) (by simp)).trans o0
   have HB2:=Lib.hid (HB1.out.trans (b2.mono (by omega)))
   clear own2 b2 o0
   go_wp2_with fail
   go_ret
   refine⟨_,rfl,?_,HB2.out⟩
   rw[HM.out]
   exact World.ownsRow_nil _ _ _ _
 · rw [hr] at hR
   have hm:meetsL L f t=sortI (findT f t T):=by
    unfold meetsL
    rw[if_pos hr,find_spec f t HH.out.fit HH.out.srt]
    exact(sortI_perm ((HH.out.perm.filter _).map _)).symm
   have hlen:(findT f t T).length<4294967296:=by have:=find_le f t T;have:=HH.out.perm.length_eq;omega
   have hmt: ∀W,MeetW (w.heap.size+1+1+1) w.heap.size (w.heap.size+1+1) (w.heap.size+1) f t (.slice none 0 0) [] W->treeIn W T→
     Calls Tryz.prog 244 #[.pointer tp,.pointer (some ⟨w.heap.size,0,none⟩),.pointer (some ⟨w.heap.size+1+1,0,none⟩),.pointer (some ⟨w.heap.size+1,0,none⟩)] W (Met (w.heap.size+1+1+1) w.heap.size (w.heap.size+1+1) (w.heap.size+1) f t (findT f t T) W):=fun W h1 h2=>by
    rw[<-ET.out]
    exact meets1_any _ _ _ _ f t T _ [] W h1 h2 (fun k hk=>by have:=HH.out.lt k (Or.inr (Or.inl hk));omega) HH.out.fit (by have:=HH.out.perm.length_eq;simp;omega)
   have HM:=Lib.hid hm
   have HMT:=Lib.hid hmt
   clear hr hm hmt
   go_enter Tryz.func188,Tryz.ntmps188
   go_wp2_with fail
   rw[<-HW0.out]
   refine(hR _).mono ?_
   rintro e w1 ⟨rfl,b1⟩
   have M1:MeetW (w.heap.size+1+1+1) w.heap.size (w.heap.size+1+1) (w.heap.size+1) f t (.slice none 0 0) [] w1:=HST.out.frame (Fr.new b1) ((Fr.new (F:=fun _=>False) b1).keeps HST.out.ho (fun e=>e)) (World.ownsRow_nil _ _ _ _)
   have B1:=HB0.out.trans (b1.mono (by rw[HS0.out];omega))
   have HB1:=Lib.hid B1
   have k0:=cell_of_one M1.hk
   have hc1:=(B1.block tb htb).trans HC.out
   have HC1:=Lib.hid hc1
   obtain⟨c0,_,_,_⟩:=tree_cells hc1
   have T1:=(HH.out.below B1).tin
   clear b1 B1 hR hmf hc1
   go_wp2_with fail
   go_region_held3 (fun W=>W.cell? ⟨w.heap.size+1+1,0,none⟩=some (.func (.func 244) #[] #[.pointer (some ⟨w.heap.size,0,none⟩),.pointer (some ⟨w.heap.size+1+1,0,none⟩),.pointer (some ⟨w.heap.size+1,0,none⟩)])/\W.cell? ⟨tb,0,none⟩=some (.pointer tp))
    (first|exact⟨k0,c0⟩|exact hS3)
    ((go_at_call 244;refine(HMT.out _ (by exact M1.drew) (by exact T1)).mono ?_;rintro e w3 ⟨rfl,⟨v3,M3⟩,F3⟩;have hc3:=F3.keeps HC1.out (fun e=>by omega);have hS3:w3.cell? ⟨w.heap.size+1+1,0,none⟩=some (.func (.func 244) #[] #[.pointer (some ⟨w.heap.size,0,none⟩),.pointer (some ⟨w.heap.size+1+1,0,none⟩),.pointer (some ⟨w.heap.size+1,0,none⟩)])/\w3.cell? ⟨tb,0,none⟩=some (.pointer tp):=⟨cell_of_one M3.hk,block_cell hc3 0⟩))
   have o0:=cell_of_one M3.ho
   have HM3:=Lib.hid M3
   have hbs:=M3.hb
   have HB3:=Lib.hid (HB1.out.drew.trans (F3.below (B:=w.heap.size) (fun k _ e=>by rcases e with e|e<;>omega) (by have:=M1.hb;simp;omega)))
   have hw3:w.heap.size+1<w3.heap.size:=by omega
   clear M3 hS3 F3 M1 k0 c0 T1 hc3
   go_wp2_with fail
   refine(sortSlice_own (w.heap.size+1+1+1) (findT f t T) v3 w3 HM3.out.own hbs (by omega)).mono ?_
   rintro e w4 ⟨rfl,own4,b4⟩
   have o4:=(b4.cell (p:=⟨w.heap.size+1,0,none⟩) (by simp)).trans o0
   have HB4:=Lib.hid (HB3.out.trans (b4.mono (by omega)))
   have HO4:=Lib.hid own4
   clear own4 b4 o0
   go_wp2_with fail
   go_ret
   refine⟨_,rfl,?_,HB4.out⟩
   rw[HM.out,sortI_length]
   exact ownsRow_base HO4.out (by omega)
def atL (L:List It) (x:Int):List Int:=if-1099511627776<=x/\x<1099511627776 then meetsL L x (x+1) else []
theorem atL_length (L:List It) (x:Int):(atL L x).length<=L.length:=by
 unfold atL
 split
 · exact meetsL_length _ _ _
 · simp
set_option maxRecDepth 100000 in
set_option maxHeartbeats 1000000 in
theorem tat_any (x:Int) (w:World) (tb:Nat) (L:List It) (T:BT Nd) (mb:Option Nat) (h:TreeAt w tb L T mb) (hl:L.length<4294967296):
  Calls Tryz.prog 172 #[.pointer (some ⟨tb,0,none⟩),.int .i64 x] w fun e w' => ∃v,e= .returned v/\w'.ownsRow w.heap.size 3 1 v (atL L x).length ((atL L x).map (Value.int .i64))/\Below w.heap.size w w' :=by
 have HH:=Lib.hid h
 clear h
 by_cases h1: -1099511627776<=x
 · by_cases h2:x<1099511627776
   · have e:atL L x=meetsL L x (x+1):=by unfold atL;rw[if_pos ⟨h1,h2⟩]
     have HE:=Lib.hid e
     clear e
     go_enter Tryz.func172,Tryz.ntmps172
     go_wp2_with fail
     refine(tmeets_any x (x+1) w tb L T mb HH.out hl).mono ?_
     rintro e w1 ⟨v,rfl,own1,b1⟩
     have HO:=Lib.hid own1
     clear own1
     go_wp2_with fail
     go_ret
     refine⟨_,rfl,?_,b1⟩
     rw[HE.out]
     exact HO.out
   · have e:atL L x= []:=by unfold atL;rw[if_neg (fun c=>h2 c.2)]
     have HE:=Lib.hid e
     clear e
     go_enter Tryz.func172,Tryz.ntmps172
     go_wp2_with fail
     go_ret
     refine⟨_,rfl,?_,Below.refl _ _⟩
     rw[HE.out]
     exact World.ownsRow_nil _ _ _ _
 · have e:atL L x= []:=by unfold atL;rw[if_neg (fun c=>h1 c.1)]
   have HE:=Lib.hid e
   clear e
   go_enter Tryz.func172,Tryz.ntmps172
   go_wp2_with fail
   go_ret
   refine⟨_,rfl,?_,Below.refl _ _⟩
   rw[HE.out]
   exact World.ownsRow_nil _ _ _ _
end Go.Proofs.YtpgkjnebklknjaaGreatDoor
