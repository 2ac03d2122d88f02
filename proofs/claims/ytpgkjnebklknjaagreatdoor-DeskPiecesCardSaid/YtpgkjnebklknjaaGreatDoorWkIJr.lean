/-The graph of a time (walk.At):the walk. -/
import Derived.Deep.DeepCutAuto
import Derived.Deep.CutBlock
import Derived.Lib.SliceRun
import Derived.Laws.IdiomCopy
import Derived.Laws.EntriesVeiled
import Derived.Deep.RegionHeld3
import Derived.Deep.RegionWith
import Derived.Deep.RegionLaw
import Derived.Test.YtpgkjnebklknjaaGreatDoorPsAJr
import Derived.Test.YtpgkjnebklknjaaGreatDoorRpIJr
import Derived.Test.YtpgkjnebklknjaaGreatDoorTreeRJr
import Derived.Test.YtpgkjnebklknjaaGreatDoorRowJr
import Derived.Test.YtpgkjnebklknjaaGreatDoorPwMJr
import Derived.Test.YtpgkjnebklknjaaGreatDoorApFJr
import Derived.Test.YtpgkjnebklknjaaGreatDoorInLJr
import Derived.Test.YtpgkjnebklknjaaGreatDoorAppMJr
import Derived.Test.YtpgkjnebklknjaaGreatDoorPwEJr
import Derived.Test.YtpgkjnebklknjaaGreatDoorAppJr
namespace Go.Proofs.YtpgkjnebklknjaaGreatDoor
def wordIs (word:ByteArray) (k:KeyP):Bool:=decide (word.size=0)||decide (k.word=word)
def nextP (E:List KeyP) (x:Int) (word:ByteArray):List Int:=E.filterMap fun k=>if k.a=x/\wordIs word k=true then some k.b else none
def hopIn (c:List Int×List Int) (y:Int):List Int×List Int:=if y∈c.1 then c else (c.1++ [y],c.2++ [y])
def hopTo (E:List KeyP) (word:ByteArray) (c:List Int×List Int) (x:Int):List Int×List Int:=(nextP E x word).foldl hopIn c
def hopLine (E:List KeyP) (word:ByteArray) (had line:List Int):List Int×List Int:=line.foldl (hopTo E word) (had,[])
def hopS (E:List KeyP) (word:ByteArray) (x:Int):Nat->List Int×List Int
 | 0=>([x],[x])
 | n+1=>if (hopS E word x n).2= [] then hopS E word x n else hopLine E word (hopS E word x n).1 (hopS E word x n).2
theorem hopS_stay {E:List KeyP} {word:ByteArray} {x:Int} {n:Nat} (h:(hopS E word x n).2= []): ∀m,hopS E word x (n+m)=hopS E word x n
 | 0=>rfl
 | m + 1=>by
   have ih:=hopS_stay h m
   show(if (hopS E word x (n+m)).2= [] then hopS E word x (n+m) else _)=_
   rw[ih,if_pos h]
def hopP (E:List KeyP) (word:ByteArray) (x:Int) (n:Nat):List Int:=(hopS E word x n).1
def farIn (word:ByteArray) (x:Int) (c:List (Int×Int)×List Int) (k:KeyP):List (Int×Int)×List Int:=
 if k.b=x/\(c.1.lookup k.a).isNone=true/\wordIs word k=true then (c.1++ [(k.a,(c.1.lookup x).getD 0+1)],c.2++ [k.a]) else c
def farTo (E:List KeyP) (word:ByteArray) (c:List (Int×Int)×List Int) (x:Int):List (Int×Int)×List Int:=E.foldl (farIn word x) c
def farLine (E:List KeyP) (word:ByteArray) (far:List (Int×Int)) (line:List Int):List (Int×Int)×List Int:=line.foldl (farTo E word) (far,[])
def farS (E:List KeyP) (word:ByteArray) (tz:Int):Nat->List (Int×Int)×List Int
 | 0=>([(tz,0)],[tz])
 | n+1=>if (farS E word tz n).2= [] then farS E word tz n else farLine E word (farS E word tz n).1 (farS E word tz n).2
theorem farS_stay {E:List KeyP} {word:ByteArray} {tz:Int} {n:Nat} (h:(farS E word tz n).2= []): ∀m,farS E word tz (n+m)=farS E word tz n
 | 0=>rfl
 | m + 1=>by
   have ih:=farS_stay h m
   show(if (farS E word tz (n+m)).2= [] then farS E word tz (n+m) else _)=_
   rw[ih,if_pos h]
def bestIn (far:List (Int×Int)) (d:Int) (best y:Int):Int:=match far.lookup y with
 | some e=>if e=d-1/\(best<0\/y<best) then y else best
 | none=>best
def bestP (E:List KeyP) (word:ByteArray) (far:List (Int×Int)) (x:Int):Int:=(nextP E x word).foldl (bestIn far ((far.lookup x).getD 0)) (-1)
def wayL (E:List KeyP) (word:ByteArray) (far:List (Int×Int)) (tz:Int):Nat->Int->List Int
 | 0,x=> [x]
 | n+1,x=>if x=tz then [x] else x::wayL E word far tz n (bestP E word far x)
def wayP (E:List KeyP) (word:ByteArray) (far:List (Int×Int)) (x tz:Int):Option (List Int):=match far.lookup x with
 | some d=>some (wayL E word far tz d.toNat x)
 | none=>none
def nodesP (L:List KeyP):List Int:=(L.filter fun k=>decide (k.kind=1)).map (·.a)
def edgesP (L:List KeyP):List KeyP:=L.filter fun k=>decide (k.kind=2) && (decide (k.a∈nodesP L) && decide (k.b∈nodesP L))
open Go.RowKit Go.Deep Go.Shelf Go.Sort Go.Maps
structure VT {β:Type} (R:Value->Option (DataW Unit×List MemPlace)) (dv:β->DataW Unit) (vv:β->Value):Prop where
 put: ∀b,R (vv b)=some (dv b,[])
 inv: ∀v z,R v=some z-> ∃b,v=vv b/\z=(dv b,[])
 inj: ∀a b,dv a=dv b->a=b
def strR:Value->Option (DataW Unit×List MemPlace)
 | .string s=>some (.lit (.string s.data.toList),[])
 | _=>none
def strD (s:ByteArray):DataW Unit:= .lit (.string s.data.toList)
theorem strVT:VT strR strD Value.string:=by
 refine⟨fun b=>rfl,fun v z h=> ?_,fun a b h=>bytes_ext (by simpa [strD] using h)⟩
 unfold strR at h
 split at h
 · rename_i s;cases h;exact⟨s,rfl,rfl⟩
 · cases h
def intR:Value->Option (DataW Unit×List MemPlace)
 | .int .i64 n=>some (.lit (.int .i64 n),[])
 | _=>none
def intD (n:Int):DataW Unit:= .lit (.int .i64 n)
theorem intVT:VT intR intD (Value.int .i64):=by
 refine⟨fun b=>rfl,fun v z h=> ?_,fun a b h=>by simpa [intD] using h⟩
 unfold intR at h
 split at h
 · rename_i n;cases h;exact⟨n,rfl,rfl⟩
 · cases h
def booR:Value->Option (DataW Unit×List MemPlace)
 | .bool b=>some (.lit (.bool b),[])
 | _=>none
def booD (b:Bool):DataW Unit:= .lit (.bool b)
theorem booVT:VT booR booD Value.bool:=by
 refine⟨fun b=>rfl,fun v z h=> ?_,fun a b h=>by simpa [booD] using h⟩
 unfold booR at h
 split at h
 · rename_i n;cases h;exact⟨n,rfl,rfl⟩
 · cases h
theorem lookup_mem {α β:Type} [BEq α] [LawfulBEq α] {x:α} {v:β}: ∀ {L:List (α×β)},L.lookup x=some v->(x,v)∈L
 | [],h=>by cases h
 | (a, b)::L,h=>by
   rw[List.lookup_cons] at h
   split at h
   · rename_i e;cases h;rw[eq_of_beq e];simp
   · exact List.mem_cons_of_mem _ (lookup_mem h)
theorem lookup_no {α β:Type} [BEq α] [LawfulBEq α] {x:α}: ∀ {L:List (α×β)},L.lookup x=none-> ∀p∈L,p.1≠x
 | [],_,p,hp=>by cases hp
 | (a, b)::L,h,p,hp=>by
   rw[List.lookup_cons] at h
   split at h
   · cases h
   · rename_i e
     rcases List.mem_cons.1 hp with rfl|hp
     · intro e';subst e';simp at e
     · exact lookup_no h p hp
theorem lookup_snoc {α β:Type} [BEq α] [LawfulBEq α] {x y:α} {v:β}: ∀ {L:List (α×β)},(L++ [(y,v)]).lookup x=match L.lookup x with|some u=>some u|none=>if x==y then some v else none
 | []=>by simp[List.lookup_cons];split<;>simp_all
 | (a, b)::L=>by
   rw[List.cons_append,List.lookup_cons,List.lookup_cons]
   split
   · rfl
   · exact lookup_snoc
section
variable {β:Type} {R:Value->Option (DataW Unit×List MemPlace)} {dv:β->DataW Unit} {vv:β->Value}
structure IM (R:Value->Option (DataW Unit×List MemPlace)) (dv:β->DataW Unit) (w:World) (b n:Nat) (L:List (Int×β)):Prop where
 rng: ∀p∈L,i64 p.1
 own: ∃D,w.ownsMap Tryz.prog 3 R b n D/\MapOf (fun p:Int×β=>kI p.1) (fun p=>dv p.2) D L
theorem IM.frame {F:Nat->Prop} {w w' :World} {b n:Nat} {L:List (Int×β)} (h:IM R dv w b n L) (hf:Fr F w w') (hn: ¬F b):IM R dv w' b n L:=by
 obtain⟨D,h1,h2⟩:=h.own
 exact⟨h.rng,D,owns_frame h1 hf hn,h2⟩
theorem IM.below {w w' :World} {b n:Nat} {L:List (Int×β)} (h:IM R dv w b n L) (hb:Below w.heap.size w w'):IM R dv w' b n L:=h.frame (F:=fun _=>False) (Fr.new hb) (fun e=>e)
theorem IM.lt {w:World} {b n:Nat} {L:List (Int×β)} (h:IM R dv w b n L):b<w.heap.size:=by obtain⟨D,h1,_⟩:=h.own;exact h1.lt
theorem at_lookup {D:DataW Unit} {L:List (Int×β)} (h:MapOf (fun p:Int×β=>kI p.1) (fun p=>dv p.2) D L) (x:Int) (z0:β):D.atKey (kI x) (dv z0)=dv ((L.lookup x).getD z0)/\Maps.has D (kI x)=(L.lookup x).isSome:=by
 cases hx:L.lookup x with
 | some v=>
   have hm:=lookup_mem hx
   exact⟨h.at' (x,v) hm _,by rw[(h.has (kI x) kI_key).2 ⟨(x,v),hm,rfl⟩];rfl⟩
 | none=>
   have hn:=lookup_no hx
   have h0:Maps.has D (kI x)=false:=h.none kI_key fun y hy e=>hn y hy (by simp[kI] at e;exact e)
   exact⟨atKey_of_not_has h0 _,by rw[h0];rfl⟩
theorem IM.look {w:World} {b n:Nat} {L:List (Int×β)} (h:IM R dv w b n L) (hV:VT R dv vv) {t e:TypeId} (ht:Tryz.prog.underlying t=some (.map 3 e)) (z0:β) (hz:(zeroValue e).run Tryz.prog w= .ok (vv z0) w) {x:Int} (hx:i64 x):
  (Instr.lookup t (.map (some b)) (.int .i64 x) false).run Tryz.prog w= .ok (vv ((L.lookup x).getD z0)) w:=by
 obtain⟨D,hown,hD⟩:=h.own
 obtain⟨u,ps,hr,hu⟩:=hown.lookup intLaw ht hz (hV.put z0) (keyOf_int_mk Tryz.underlying3 (wfI hx))
 obtain⟨b',rfl,e1⟩:=hV.inv _ _ hu
 have e2:=(at_lookup hD x z0).1
 simp only[Prod.mk.injEq] at e1
 have e3:b' =(L.lookup x).getD z0:=hV.inj _ _ (e1.1.symm.trans e2)
 rw[e3] at hr
 exact hr
theorem IM.look_ok {w:World} {b n:Nat} {L:List (Int×β)} (h:IM R dv w b n L) (hV:VT R dv vv) {t e:TypeId} (ht:Tryz.prog.underlying t=some (.map 3 e)) (z0:β) (hz:(zeroValue e).run Tryz.prog w= .ok (vv z0) w) {x:Int} (hx:i64 x):
  (Instr.lookup t (.map (some b)) (.int .i64 x) true).run Tryz.prog w= .ok (.tuple #[vv ((L.lookup x).getD z0),.bool (L.lookup x).isSome]) w:=by
 obtain⟨D,hown,hD⟩:=h.own
 obtain⟨u,ps,hr,hu⟩:=hown.look_ok intLaw ht hz (hV.put z0) (keyOf_int_mk Tryz.underlying3 (wfI hx))
 obtain⟨b',rfl,e1⟩:=hV.inv _ _ hu
 obtain⟨e2,e4⟩:=at_lookup hD x z0
 simp only[Prod.mk.injEq] at e1
 have e3:b' =(L.lookup x).getD z0:=hV.inj _ _ (e1.1.symm.trans e2)
 have e5:Maps.has D (.int .i64 x)=(L.lookup x).isSome:=e4
 rw[e3,e5] at hr
 exact hr
theorem IM.put {w' :World} {b n:Nat} {L:List (Int×β)} (hr: ∀p∈L,i64 p.1) {D:DataW Unit} (hD:MapOf (fun p:Int×β=>kI p.1) (fun p=>dv p.2) D L) {x:Int} {v:β} (hx:i64 x) (hn:L.lookup x=none) (hown:w'.ownsMap Tryz.prog 3 R b (n+1) (D.put (kI x) (dv v))):IM R dv w' b (n+1) (L++ [(x,v)]):=by
 refine⟨fun p hp=> ?_,_,hown,?_⟩
 · rcases List.mem_append.1 hp with h|h
   · exact hr p h
   · simp at h;subst h;exact hx
 · have:=hD.put (x,v) kI_key (fun y hy e=>lookup_no hn y hy (by simpa [kI] using e))
   exact this.perm (List.perm_append_comm (l₁:= [(x,v)]) (l₂:=L))
end
end Go.Proofs.YtpgkjnebklknjaaGreatDoor
namespace Go.Proofs.YtpgkjnebklknjaaGreatDoor
open Go.RowKit Go.Deep Go.Shelf Go.Sort Go.Maps
theorem appInt {W:World} {ops:Array Oper} {rest:List Oper} {o:Oper} {a:Act} {Q:Exit->Act->World->Prop} (hgd:o.guard=none) (s x:Operand)
  (ho:o.op= .call { callee:= .builtin .append,args:= #[s,x],argTypes:= #[93,93] }) (base:Nat) (v:Value) (l:List Int) (hs:a.eval s=v) (hown:W.ownsRow base 3 1 v l.length (l.map (Value.int .i64)))
  (b:Nat) (t:Int) (hx:a.eval x= .slice (some ⟨b,0,none⟩) 1 1) (hc1:W.cell? ⟨b,0,none⟩=some (.int .i64 t))
  (hbytes:(l.length+1)*8<=140737488355328) (hbase:base<=W.heap.size) (w0:World) (hB:Below base w0 W)
  (h: ∀v' w',w'.ownsRow base 3 1 v' (l++ [t]).length ((l++ [t]).map (Value.int .i64))->Below base w0 w' ->W.heap.size<=w'.heap.size->W.grownBy w' v.ownBlock->wpList Tryz.prog ops Q rest (a.put o.dst v') w'):wpList Tryz.prog ops Q (o::rest) a W:=by
 refine app1 hgd s x _ ho base 3 Tryz.underlying93 infoInt rfl (by decide) (by decide) v l.length (l.map (Value.int .i64)) hs hown b [.int .i64 t] hx rfl (fun u hu=> ?_) (fun j u hu=> ?_) hbytes hbase w0 hB fun v' w' h2 h3 h4 h5 h6=>h v' w' ?_ h3 h4 h6
 · simp at hu;subst hu;rfl
 · match j,hu with
   | 0,hu=>simp at hu;subst hu;exact hc1
 · rw[List.map_append,List.length_append];exact h2
theorem keysIn_get {w:World} {ao:Option Addr} {l:List KeyP} (h:KeysIn w ao l) {i:Nat} (hi:i<l.length): ∃b k,ao=some ⟨b,0,none⟩/\Hid (l[i]? =some k)/\b<w.heap.size/\w.cell? ⟨b,i*4,none⟩=some (.int .i64 k.kind)/\w.cell? ⟨b,i*4+1,none⟩=some (.int .i64 k.a)/\w.cell? ⟨b,i*4+2,none⟩=some (.string k.word)/\w.cell? ⟨b,i*4+3,none⟩=some (.int .i64 k.b):=by
 obtain⟨k,hk⟩: ∃k,l[i]? =some k:=⟨_,List.getElem?_eq_getElem hi⟩
 obtain⟨b,e,c0,c1,c2,c3⟩:=h i k hk
 exact⟨b,k,e,Lib.hid hk,World.block_lt_of_cell? w _ c0,c0,c1,c2,c3⟩
structure GAt (w:World) (gb nb:Nat) (eo:Option Addr) (N:List (Int×ByteArray)) (E:List KeyP):Prop where
 blk: ∃ec pb,w.heap[gb]? =some (.cells #[.map (some nb),.slice eo E.length ec,.map pb] 187 (0,0))
 nod: ∃n,IM strR strD w nb n N
 edg:KeysIn w eo E
 elen:E.length<=4000
 eok: ∀k∈E,i64 k.a/\i64 k.b
 enil:eo=none->E= []
 eblk: ∀p,eo=some p-> ∃b,p=⟨b,0,none⟩
 nnd:(N.map (·.1)).Nodup
 nlen:N.length<=4000
theorem GAt.below {w w' :World} {gb nb:Nat} {eo:Option Addr} {N:List (Int×ByteArray)} {E:List KeyP} (h:GAt w gb nb eo N E) (hb:Below w.heap.size w w'):GAt w' gb nb eo N E:=by
 obtain⟨ec,pb,h1⟩:=h.blk
 obtain⟨n,h2⟩:=h.nod
 exact⟨⟨ec,pb,(hb.block _ (lt_of_block h1)).trans h1⟩,⟨n,h2.below hb⟩,h.edg.below hb,h.elen,h.eok,h.enil,h.eblk,h.nnd,h.nlen⟩
theorem GAt.cells {w:World} {gb nb:Nat} {eo:Option Addr} {N:List (Int×ByteArray)} {E:List KeyP} (h:GAt w gb nb eo N E): ∃ec,w.cell? ⟨gb,0,none⟩=some (.map (some nb))/\w.cell? ⟨gb,1,none⟩=some (.slice eo E.length ec)/\gb<w.heap.size:=by
 obtain⟨ec,pb,h1⟩:=h.blk
 exact⟨ec,block_cell h1 0,block_cell h1 1,lt_of_block h1⟩
theorem nextP_snoc (l:List KeyP) (k:KeyP) (x:Int) (word:ByteArray):nextP (l++ [k]) x word=nextP l x word++(if k.a=x/\wordIs word k=true then [k.b] else []):=by
 unfold nextP
 rw[List.filterMap_append]
 congr 1
 by_cases h:k.a=x/\wordIs word k=true
 · simp[h]
 · simp[h]
theorem nextP_len (l:List KeyP) (x:Int) (word:ByteArray):(nextP l x word).length<=l.length:=List.length_filterMap_le _ _
set_option maxRecDepth 100000 in
set_option maxHeartbeats 4000000 in
theorem next_any {gb nb:Nat} {eo:Option Addr} {N:List (Int×ByteArray)} {E:List KeyP} (x:Int) (word:ByteArray) (w:World) (h:GAt w gb nb eo N E):
  Calls Tryz.prog 191 #[.pointer (some ⟨gb,0,none⟩),.int .i64 x,.string word] w fun e w' => ∃v,e= .returned v/\w'.ownsRow w.heap.size 3 1 v (nextP E x word).length ((nextP E x word).map (Value.int .i64))/\Below w.heap.size w w' :=by
 obtain⟨ec,c0,c1,hgl⟩:=h.cells
 have HE:=Lib.hid h.edg
 have hlen:=h.elen
 clear h c0
 go_enter Tryz.func191,Tryz.ntmps191
 go_wp2_with fail
 go_loopw [7,15] (fun v vi X=> ∃i:Nat,i<=E.length/\vi= .int .i64 i/\X.ownsRow w.heap.size 3 1 v (nextP (E.take i) x word).length ((nextP (E.take i) x word).map (Value.int .i64))/\Below w.heap.size w X) (fun _ vi _=>E.length-(intOf vi).toNat)
 case atStart=>exact⟨0,Nat.zero_le _,rfl,World.ownsRow_nil _ _ _ _,Below.refl _ _⟩
 case round=>
  obtain⟨i,hi,rfl,hown,hb⟩:=hrel
  have HB:=Lib.hid hb
  have hsz:=hb.size
  by_cases hlt:i<E.length
  · obtain⟨eb,k,rfl,hk,hebl,d0,d1,d2,d3⟩:=keysIn_get (HE.out.below hb) hlt
    obtain⟨kk,ka,kw,kb⟩:=k
    simp only[] at d0 d1 d2 d3
    have i0:(0:Int)<=(i:Int):=by omega
    have i1:(i:Int)<(E.length:Int):=by omega
    have hst:E.take (i+1)=E.take i++ [⟨kk,ka,kw,kb⟩]:=by rw[List.take_add_one,hk.out];rfl
    have hnx:nextP (E.take (i+1)) x word=nextP (E.take i) x word++(if ka=x/\wordIs word ⟨kk,ka,kw,kb⟩=true then [kb] else []):=by rw[hst];exact nextP_snoc _ _ _ _
    have hnl:(nextP (E.take i) x word).length<=4000:=by have:=nextP_len (E.take i) x word;rw[List.length_take] at this;omega
    have HNX:=Lib.hid hnx
    have HO:=Lib.hid hown
    obtain⟨l,hl⟩: ∃l,l=nextP (E.take i) x word:=⟨_,rfl⟩
    rw[<-hl] at HNX HO hnl
    clear hb hown hst hnx hk hl
    have no:wordIs word ⟨kk,ka,kw,kb⟩=false\/ka≠x->nextP (E.take (i+1)) x word=l:=fun hh=>by
     rw[HNX.out,if_neg (fun e=>hh.elim (fun h=>by rw[h] at e;exact absurd e.2 (by decide)) (fun h=>h e.1)),List.append_nil]
    have yes:wordIs word ⟨kk,ka,kw,kb⟩=true->ka=x->nextP (E.take (i+1)) x word=l++ [kb]:=fun h1 h2=>by
     rw[HNX.out,if_pos ⟨h2,h1⟩]
    have NO:=Lib.hid no
    have YES:=Lib.hid yes
    clear no yes
    by_cases ha:ka=x
    · have haz:(ka==x)=true:=by simpa using ha
      have HA:=Lib.hid ha
      clear ha
      by_cases h0:word.size=0
      · have hw0:=empty_true h0
        have HN:=Lib.hid (YES.out (by unfold wordIs;simp[h0]) HA.out)
        clear h0
        go_wp2_with (at_builtin;refine appInt rfl _ _ rfl w.heap.size _ l rfl ((HO.out.alloc _).alloc _) (wr.heap.size+1) kb rfl (by simp) (by omega) (by simp;omega) wr (((Below.refl _ _).alloc hsz _).alloc (by simp;omega) _) ?_;intro v' w6 hown6 hB6 hs6 hg6)
        exact⟨⟨i+1,by omega,by go_num,by rw[HN.out];exact hown6,HB.out.trans hB6⟩,by simp[intOf];omega⟩
      · have hw0:=empty_false h0
        by_cases hkw:kw=word
        · have hw1:(kw.toList==word.toList)=true:=by rw[hkw];simp
          have HN:=Lib.hid (YES.out (by unfold wordIs;simp[hkw]) HA.out)
          clear h0 hkw
          go_wp2_with (at_builtin;refine appInt rfl _ _ rfl w.heap.size _ l rfl ((HO.out.alloc _).alloc _) (wr.heap.size+1) kb rfl (by simp) (by omega) (by simp;omega) wr (((Below.refl _ _).alloc hsz _).alloc (by simp;omega) _) ?_;intro v' w6 hown6 hB6 hs6 hg6)
          exact⟨⟨i+1,by omega,by go_num,by rw[HN.out];exact hown6,HB.out.trans hB6⟩,by simp[intOf];omega⟩
        · have hw1:(kw.toList==word.toList)=false:=by
           have: ¬kw.toList=word.toList:=fun e=>hkw (bytes_ext (by rw[<-ByteArray.toList_eq, <-ByteArray.toList_eq];exact e))
           simpa using this
          have HN:=Lib.hid (NO.out (.inl (by unfold wordIs;simp[h0,hkw])))
          clear h0 hkw
          go_wp2_with fail
          exact⟨⟨i+1,by omega,by go_num,by rw[HN.out];exact HO.out.alloc _,HB.out.alloc hsz _⟩,by simp[intOf];omega⟩
    · have haz:(ka==x)=false:=by simpa using ha
      have HN:=Lib.hid (NO.out (.inr ha))
      clear ha
      go_wp2_with fail
      exact⟨⟨i+1,by omega,by go_num,by rw[HN.out];exact HO.out.alloc _,HB.out.alloc hsz _⟩,by simp[intOf];omega⟩
  · obtain rfl:i=E.length:=by omega
    have HO:=Lib.hid hown
    clear hown hb
    go_wp2_with fail
    go_ret
    exact⟨_,rfl,by have:=HO.out;rw[List.take_of_length_le (Nat.le_refl _)] at this;exact this,HB.out⟩
theorem nodup_le {α:Type} [DecidableEq α]: ∀ {l m:List α},l.Nodup->(∀x∈l,x∈m)->l.length<=m.length
 | [],_,_,_=>Nat.zero_le _
 | x ::l,m,hn,hs=>by
   obtain⟨h1,h2⟩:=List.nodup_cons.1 hn
   have hx:=hs x (by simp)
   have :=nodup_le (m:=m.erase x) h2 fun y hy=>by
    have hne:y≠x:=fun e=>h1 (by rw[<-e];exact hy)
    exact(List.mem_erase_of_ne hne).2 (hs y (List.mem_cons_of_mem _ hy))
   rw[List.length_erase_of_mem hx] at this
   have h0:0<m.length:=List.length_pos_of_mem hx
   simp only[List.length_cons];omega
structure HI (E:List KeyP) (x:Int) (c:List Int×List Int):Prop where
 nod:c.1.Nodup
 sub: ∀y∈c.1,y=x\/y∈E.map (·.b)
 len:c.2.length<=c.1.length
 mor: ∀y∈c.2,y∈c.1
theorem HI.start (E:List KeyP) (x:Int):HI E x ([x],[x]):=⟨by simp,fun y hy=> .inl (by simpa using hy),Nat.le_refl _,fun y hy=>hy⟩
theorem HI.in' {E:List KeyP} {x:Int} {c:List Int×List Int} (h:HI E x c) {y:Int} (hy:y∈E.map (·.b)):HI E x (hopIn c y):=by
 unfold hopIn
 split
 · exact h
 · rename_i hn
   refine⟨List.nodup_append.2 ⟨h.nod,by simp,fun a ha b hb e=> ?_⟩,fun z hz=> ?_,by simp;exact h.len,fun z hz=> ?_⟩
   · simp at hb;subst hb;subst e;exact hn ha
   · rcases List.mem_append.1 hz with hz|hz
     · exact h.sub z hz
     · simp at hz;subst hz;exact .inr hy
   · rcases List.mem_append.1 hz with hz|hz
     · exact List.mem_append_left _ (h.mor z hz)
     · exact List.mem_append_right _ hz
theorem HI.fold {E:List KeyP} {x:Int}: ∀ {l:List Int} {c:List Int×List Int},HI E x c->(∀y∈l,y∈E.map (·.b))->HI E x (l.foldl hopIn c)
 | [],_,h,_=>h
 | y::l,c,h,hl=>HI.fold (l:=l) (h.in' (hl y (by simp))) fun z hz=>hl z (List.mem_cons_of_mem _ hz)
theorem next_sub {E:List KeyP} {x:Int} {word:ByteArray}: ∀y∈nextP E x word,y∈E.map (·.b):=fun y hy=>by
 unfold nextP at hy
 obtain⟨k,hk,e⟩:=List.mem_filterMap.1 hy
 split at e
 · cases e;exact List.mem_map.2 ⟨k,hk,rfl⟩
 · cases e
theorem HI.line {E:List KeyP} {x:Int} {word:ByteArray}: ∀ {l:List Int} {c:List Int×List Int},HI E x c->HI E x (l.foldl (hopTo E word) c)
 | [],_,h=>h
 | _y::l,_c,h=>HI.line (l:=l) (HI.fold h next_sub)
theorem HI.fresh {E:List KeyP} {x:Int} {c:List Int×List Int} (h:HI E x c):HI E x (c.1,[]):=⟨h.nod,h.sub,Nat.zero_le _,fun y hy=>by cases hy⟩
theorem hopS_ok (E:List KeyP) (word:ByteArray) (x:Int): ∀n,HI E x (hopS E word x n)
 | 0=>HI.start E x
 | n + 1=>by
   rw[hopS]
   split
   · exact hopS_ok E word x n
   · exact HI.line (hopS_ok E word x n).fresh
theorem HI.size {E:List KeyP} {x:Int} {c:List Int×List Int} (h:HI E x c):c.1.length<=E.length+1:=by
 have :=nodup_le (m:=x::E.map (·.b)) h.nod fun y hy=>by
  rcases h.sub y hy with e|e
  · rw[e];simp
  · exact List.mem_cons_of_mem _ e
 simpa using this
theorem foldl_take {α β:Type} {f:β->α->β} {l:List α} {s:β} {q:Nat} {y:α} (h:l[q]? =some y):(l.take (q+1)).foldl f s=f ((l.take q).foldl f s) y:=by
 rw[List.take_add_one,h];simp
theorem hop_lookup (H:List Int) (y:Int):((H.map fun z=>(z,true)).lookup y).getD false=decide (y∈H)/\((H.map fun z=>(z,true)).lookup y=none↔y∉H):=by
 induction H with
 | nil=>simp
 | cons a H ih=>
   rw[List.map_cons,List.lookup_cons]
   by_cases e:y=a
   · subst e;simp
   · have:(y==a)=false:=by simpa using e
     rw[this]
     simp only[List.mem_cons,e,false_or]
     exact ih
theorem appIntF {W:World} {ops:Array Oper} {rest:List Oper} {o:Oper} {a:Act} {Q:Exit->Act->World->Prop} (hgd:o.guard=none) (s x:Operand)
  (ho:o.op= .call { callee:= .builtin .append,args:= #[s,x],argTypes:= #[93,93] }) (base:Nat) (v:Value) (l:List Int) (hs:a.eval s=v) (hown:W.ownsRow base 3 1 v l.length (l.map (Value.int .i64)))
  (b:Nat) (t:Int) (hx:a.eval x= .slice (some ⟨b,0,none⟩) 1 1) (hc1:W.cell? ⟨b,0,none⟩=some (.int .i64 t))
  (hbytes:(l.length+1)*8<=140737488355328) (hbase:base<=W.heap.size) (w0:World) (hB:Below base w0 W)
  (h: ∀v' w',w'.ownsRow base 3 1 v' (l++ [t]).length ((l++ [t]).map (Value.int .i64))->Below base w0 w' ->W.grownBy w' v.ownBlock->(∀p,p<W.heap.size->Apart v p->Apart v' p)->wpList Tryz.prog ops Q rest (a.put o.dst v') w'):wpList Tryz.prog ops Q (o::rest) a W:=by
 obtain⟨i0,hi,hz0,hz1,hz2⟩:=info_parts infoInt
 have hn: ∀j u,[Value.int .i64 t][j]? =some u->W.cell? ((⟨b,0,none⟩:Addr).add j)=some u:=fun j u hu=>by
  have: ∀k,(⟨b,0,none⟩:Addr).add k=⟨b,k,none⟩:=fun k=>by unfold Addr.add;split<;>simp_all
  rw[this]
  match j,hu with
  | 0,hu=>simp at hu;subst hu;exact hc1
 obtain⟨v',w',hr,h2,h3,_⟩:=run_append_own (P:=Tryz.prog) W base 93 o.type 3 i0 (.int .i64 0) 1 8 Tryz.underlying93 hi hz0 hz1 hz2 rfl (by decide) v l.length (l.map (Value.int .i64)) hown ⟨b,0,none⟩ 1 1 [.int .i64 t] rfl hn (by simp[Value.oneCell']) (by unfold maxLen;omega) (by omega) hbase
 have hf:=append_fresh (P:=Tryz.prog) W base 93 o.type 3 i0 (.int .i64 0) 1 8 Tryz.underlying93 hi hz0 hz1 hz2 rfl (by decide) v l.length (l.map (Value.int .i64)) hown ⟨b,0,none⟩ 1 1 [.int .i64 t] rfl hn (by simp[Value.oneCell']) (by unfold maxLen;omega) (by omega) v' w' hr
 refine Lib.wpList_append_run W hgd s x 93 93 ho v (.slice (some ⟨b,0,none⟩) 1 1) hs hx v' w' hr (h v' w' ?_ (hB.grown h3 hbase (fun k hk=>(hown.lt k hk).1)) h3 hf)
 rw[List.map_append,List.length_append];exact h2
theorem IntsIn.grown {w w' :World} {ao:Option Addr} {l:List Int} (h:IntsIn w ao l) {r:Option Nat} (hg:w.grownBy w' r) (hr: ∀b,ao=some ⟨b,0,none⟩->r≠some b):IntsIn w' ao l:=fun j p hp=>by
 obtain⟨b,e,hc⟩:=h j p hp
 exact⟨b,e,hg.cell hc fun e' =>hr b e e'.symm⟩
theorem IntsIn.frame {F:Nat->Prop} {w w' :World} {ao:Option Addr} {l:List Int} (h:IntsIn w ao l) (hf:Fr F w w') (hn: ∀b,ao=some ⟨b,0,none⟩-> ¬F b):IntsIn w' ao l:=fun j p hp=>by
 obtain⟨b,e,hc⟩:=h j p hp
 exact⟨b,e,(World.cell?_of_block (a:=⟨b,j,none⟩) (hf.block b (World.block_lt_of_cell? w _ hc) (hn b e))).trans hc⟩
theorem intsIn_get {w:World} {ao:Option Addr} {l:List Int} (h:IntsIn w ao l) {i:Nat} (hi:i<l.length): ∃b y,ao=some ⟨b,0,none⟩/\l[i]? =some y/\b<w.heap.size/\w.cell? ⟨b,i,none⟩=some (.int .i64 y):=by
 obtain⟨k,hk⟩: ∃k,l[i]? =some k:=⟨_,List.getElem?_eq_getElem hi⟩
 obtain⟨b,e,c0⟩:=h i k hk
 exact⟨b,k,e,hk,World.block_lt_of_cell? w _ c0,c0⟩
set_option maxRecDepth 100000 in
theorem zeroStrW (w:World):(zeroValue 9).run Tryz.prog w= .ok (.string ⟨#[]⟩) w:=by kernel_rfl
set_option maxRecDepth 100000 in
theorem zeroIntW (w:World):(zeroValue 3).run Tryz.prog w= .ok (.int .i64 0) w:=by kernel_rfl
set_option maxRecDepth 100000 in
theorem zeroBooW (w:World):(zeroValue 4).run Tryz.prog w= .ok (.bool false) w:=by kernel_rfl
structure TI (M:List Int) (left:Lit->Bool) (U:List Int):Prop where
 nod:U.Nodup
 mem: ∀x,x∈U↔x∈M/\left (kI x)=false
theorem kI_sameK (x y:Int):(kI x).sameKey (kI y)=decide (x=y):=by
 rw[Bool.eq_iff_iff]
 simp only[decide_eq_true_eq]
 constructor
 · intro h;have:=WideAt.sameKey_eq h;simpa [kI] using this
 · intro h;subst h;exact WideAt.sameKey_self kI_key
theorem TI.start {M:List Int} {left:Lit->Bool} (h: ∀x∈M,left (kI x)=true):TI M left []:=
 ⟨List.nodup_nil,fun x=>⟨(fun h=>by cases h),(fun⟨hx,hl⟩=>by rw[h x hx] at hl;cases hl)⟩⟩
theorem ti_step {left:Lit->Bool} (x y:Int):(left (kI y) && !(kI y).sameKey (kI x))=false↔left (kI y)=false\/y=x:=by
 rw[kI_sameK]
 cases left (kI y)<;>simp
theorem TI.yes {M:List Int} {left:Lit->Bool} {U:List Int} (h:TI M left U) {x:Int} (hx:x∈M) (hl:left (kI x)=true):TI M (fun z=>left z && !z.sameKey (kI x)) (U++ [x]):=by
 refine⟨List.nodup_append.2 ⟨h.nod,by simp,fun a ha b hb e=> ?_⟩,fun y=> ?_⟩
 · simp at hb;subst hb;subst e
   have:=((h.mem _).1 ha).2
   rw[hl] at this;cases this
 · rw [List.mem_append,h.mem,List.mem_singleton]
   constructor
   · rintro(⟨h1,h2⟩|rfl)
     · exact⟨h1,(ti_step x y).2 (.inl h2)⟩
     · exact⟨hx,(ti_step y y).2 (.inr rfl)⟩
   · rintro⟨h1,h2⟩
     rcases(ti_step x y).1 h2 with e|e
     · exact .inl ⟨h1,e⟩
     · exact .inr e
theorem TI.done {M:List Int} {left:Lit->Bool} {U:List Int} (h:TI M left U) (hl: ∀z,left z=false) (hM:M.Nodup):U.Perm M:=
 (List.perm_ext_iff_of_nodup h.nod hM).2 fun x=>by rw[h.mem,hl];simp
set_option maxRecDepth 100000 in
set_option maxHeartbeats 1000000 in
theorem hops_bad (x h:Int) (word:ByteArray) (w:World) {gb nb:Nat} {eo:Option Addr} {N:List (Int×ByteArray)} {E:List KeyP} (hG:GAt w gb nb eo N E) (hx:i64 x) (hin:N.lookup x=none):
  Calls Tryz.prog 132 #[.pointer (some ⟨gb,0,none⟩),.int .i64 x,.string word,.int .i64 h] w fun e w' =>e= .returned (.tuple #[.slice none 0 0,errV 7])/\w=w' :=by
 obtain⟨ec,c0,c1,hgl⟩:=hG.cells
 obtain⟨nn,hN⟩:=hG.nod
 have hlk:=hN.look_ok strVT Tryz.underlying184 ⟨#[]⟩ (zeroStrW w) hx
 rw[hin] at hlk
 simp only[Option.getD_none,Option.isSome_none] at hlk
 clear hG hN hin c1
 unfold errV
 go_enter Tryz.func132,Tryz.ntmps132
 go_wp2_with fail
 go_ret2
 exact⟨rfl,rfl⟩
set_option maxRecDepth 100000 in
set_option maxHeartbeats 8000000 in
theorem hops_ok (x:Int) (h:Nat) (word:ByteArray) (w:World) {gb nb:Nat} {eo:Option Addr} {N:List (Int×ByteArray)} {E:List KeyP} (hG:GAt w gb nb eo N E) (hx:i64 x) (hin:(N.lookup x).isSome=true) (hh:h<=1048576):
  Calls Tryz.prog 132 #[.pointer (some ⟨gb,0,none⟩),.int .i64 x,.string word,.int .i64 (h:Nat)] w fun e w' => ∃v,e= .returned (.tuple #[v,.nilIface])/\w'.ownsRow w.heap.size 3 1 v (hopP E word x h).length ((sortI (hopP E word x h)).map (Value.int .i64))/\Below w.heap.size w w' :=by
 have hmm:= @run_makeMap Tryz.prog
 obtain⟨ec,c0,c1,hgl⟩:=hG.cells
 obtain⟨nn,hN⟩:=hG.nod
 have hlk:=hN.look_ok strVT Tryz.underlying184 ⟨#[]⟩ (zeroStrW w) hx
 rw[hin] at hlk
 obtain⟨v0,hv0⟩: ∃v0,v0=(N.lookup x).getD ⟨#[]⟩:=⟨_,rfl⟩
 rw[<-hv0] at hlk
 obtain⟨mb,hmb⟩: ∃mb,mb=w.heap.size:=⟨_,rfl⟩
 obtain⟨W1,hW1⟩: ∃W1,W1=w.alloc (.map #[] 0):=⟨_,rfl⟩
 have ho1:W1.ownsMap Tryz.prog 3 booR mb 0 (.map []):=by rw[hW1,hmb];exact World.ownsMap_made _ _ _ _
 obtain⟨W2,hrun2,ho2,hg2⟩:=ho1.update intLaw Tryz.underlying255 (by decide) (key:= .int .i64 x) (val:= .bool true) (keyOf_int_mk Tryz.underlying3 (wfI hx)) (booVT.put true)
 have hIM2:IM booR booD W2 mb 1 [(x,true)]:=by
  have:=IM.put (L:= []) (x:=x) (v:=true) (fun p hp=>by cases hp) (mapOf_nil (kl:=fun p:Int×Bool=>kI p.1) (dt:=fun p=>booD p.2)) hx rfl ho2
  simpa using this
 obtain⟨W3,hW3⟩: ∃W3,W3=W2.alloc (.cells #[.int .i64 x] 3):=⟨_,rfl⟩
 obtain⟨lb,hlb⟩: ∃lb,lb=W2.heap.size:=⟨_,rfl⟩
 have b01:Below w.heap.size w W1:=by rw[hW1];exact(Below.refl _ _).alloc (Nat.le_refl _) _
 have hs1:W1.heap.size=w.heap.size+1:=by rw[hW1];simp
 have b02:Below w.heap.size w W2:=b01.trans ((Fr.ofGrown hg2).below (fun k _ e=>by omega) b01.size)
 have hs2:W1.heap.size<=W2.heap.size:=hg2.size
 have b23:Below W2.heap.size W2 W3:=by rw[hW3];exact(Below.refl _ _).alloc (Nat.le_refl _) _
 have b03:Below w.heap.size w W3:=b02.trans (b23.mono b02.size)
 have hIM3:=hIM2.below b23
 have hli:IntsIn W3 (some ⟨lb,0,none⟩) [x]:=fun j p hp=>by
  match j,hp with
  | 0,hp=>simp at hp;subst hp;exact⟨lb,rfl,by rw[hW3,hlb];simp⟩
 have hlm:lb≠mb:=by omega
 have hh0: ¬(h:Int)<0:=by omega
 have hh1: ¬(h:Int)>1048576:=by omega
 have hEb: ∀y∈E.map (·.b),i64 y:=fun y hy=>by obtain⟨k,hk,e⟩:=List.mem_map.1 hy;rw[<-e];exact(hG.eok k hk).2
 have hel:=hG.elen
 have HG:=Lib.hid hG
 have HW1:=Lib.hid hW1
 have HW3:=Lib.hid hW3
 have HMB:=Lib.hid hmb
 have HLB:=Lib.hid hlb
 have HB3:=Lib.hid b03
 have HIM:=Lib.hid hIM3
 have HLI:=Lib.hid hli
 have HEB:=Lib.hid hEb
 have HX:=Lib.hid hx
 have hml3:mb<W3.heap.size:=hIM3.lt
 clear hG hN hin hv0 ho1 ho2 hg2 hIM2 hIM3 hli b01 b02 b23 b03 hs1 hs2 hW1 hW3 hmb hlb hEb c1 hx
 go_enter Tryz.func132,Tryz.ntmps132
 go_upto_block 0 with (first|(rw[<-HW1.out, <-HMB.out])|(rw[<-HW3.out, <-HLB.out]))
 go_cut [] (fun X=>IM booR booD X mb (hopP E word x h).length ((hopP E word x h).map fun z=>(z,true))/\Below w.heap.size w X)
 case first=>
  go_wp2_with fail
  go_loopw [3,13] (fun vh v X=> ∃(k:Nat) (ao:Option Addr) (cap:Nat),k<=h/\vh= .int .i64 ((h:Int)-(k:Int))/\v= .slice ao (hopS E word x k).2.length cap/\IntsIn X ao (hopS E word x k).2/\(∀b,ao=some ⟨b,0,none⟩->b≠mb)/\IM booR booD X mb (hopS E word x k).1.length ((hopS E word x k).1.map fun z=>(z,true))/\Below w.heap.size w X) (fun vh _ _=>(intOf vh).toNat)
  case atStart=>exact⟨0,_,_,Nat.zero_le _,by simp,rfl,HLI.out,(fun b e=>by cases e;exact hlm),HIM.out,HB3.out⟩
  case round=>
   obtain⟨k,ao,cap,hk,rfl,rfl,hin,hne,hIM,hB⟩:=hrel
   have hok:=hopS_ok E word x k
   have hstep:(hopS E word x k).2≠ []->hopS E word x (k+1)=hopLine E word (hopS E word x k).1 (hopS E word x k).2:=fun hn=>by rw[hopS,if_neg hn]
   have hend:(hopS E word x k).2= []\/k=h->hopP E word x h=(hopS E word x k).1:=fun hn=>by
    rcases hn with hn|hn
    · have:=hopS_stay hn (h-k)
      rw[show k+(h-k)=h by omega] at this
      unfold hopP;rw[this]
    · subst hn;rfl
   obtain⟨had,line,hst⟩: ∃a b,hopS E word x k=(a,b):=⟨_,_,rfl⟩
   rw[hst] at hok hin hIM hstep hend
   rw[hst]
   simp only[] at hin hIM hstep hend
   have HOK:=Lib.hid hok
   have HIN:=Lib.hid hin
   have HNE:=Lib.hid hne
   have HIM1:=Lib.hid hIM
   have HB1:=Lib.hid hB
   have HSTEP:=Lib.hid hstep
   have HEND:=Lib.hid hend
   clear HIM HLI HB3 hok hin hne hIM hB hstep hend hst
   by_cases hl:line= []
   · subst hl
     have hH:=Lib.hid (HEND.out (.inl rfl))
     go_wp2_with fail
     go_meet
     exact⟨by rw[hH.out];exact HIM1.out,HB1.out⟩
   · have hll:0<line.length:=List.length_pos_iff.2 hl
     have hlz:(line.length:Int)>0:=by omega
     by_cases hkh:k<h
     · have hkz:(h:Int)-(k:Int)>0:=by omega
       have HS1:=Lib.hid (HSTEP.out hl)
       have hmV:=HIM1.out.lt
       have hle4:line.length<=4001:=by have:=HOK.out.len;have:=HOK.out.size;simp only[] at*;omega
       generalize wr=V at*
       clear hl HSTEP HEND
       go_wp2_with fail
       go_loopw [14,56] (fun vm vj X=> ∃j:Nat,j<=line.length/\vj= .int .i64 j/\X.ownsRow V.heap.size 3 1 vm ((line.take j).foldl (hopTo E word) (had,[])).2.length (((line.take j).foldl (hopTo E word) (had,[])).2.map (Value.int .i64))/\IM booR booD X mb ((line.take j).foldl (hopTo E word) (had,[])).1.length (((line.take j).foldl (hopTo E word) (had,[])).1.map fun z=>(z,true))/\Fr (· =mb) V X) (fun _ vj _=>line.length-(intOf vj).toNat)
       case atStart=>exact⟨0,Nat.zero_le _,rfl,World.ownsRow_nil _ _ _ _,HIM1.out,Fr.refl _ _⟩
       case round=>
        obtain⟨j,hj,rfl,hown,hIM,hf⟩:=hrel
        have hokj:HI E x ((line.take j).foldl (hopTo E word) (had,[])):=HI.line HOK.out.fresh
        by_cases hjl:j<line.length
        · obtain⟨lbk,y0,rfl,hy0,hlbl,d0⟩:=intsIn_get (HIN.out.frame hf HNE.out) hjl
          have hnext:(line.take (j+1)).foldl (hopTo E word) (had,[])=(nextP E y0 word).foldl hopIn ((line.take j).foldl (hopTo E word) (had,[])):=foldl_take hy0
          obtain⟨c,hc⟩: ∃c,c=(line.take j).foldl (hopTo E word) (had,[]):=⟨_,rfl⟩
          rw[<-hc] at hown hIM hokj hnext
          have hBX:Below w.heap.size w wr:=HB1.out.trans (hf.below (fun k _ e=>by have:=HMB.out;omega) HB1.out.size)
          have hCN:=next_any y0 word wr (HG.out.below hBX)
          have j0:(0:Int)<=(j:Int):=by omega
          have j1:(j:Int)<(line.length:Int):=by omega
          have hmX:=hIM.lt
          have HOWN:=Lib.hid hown
          have HIM2:=Lib.hid hIM
          have HF:=Lib.hid hf
          have HOKJ:=Lib.hid hokj
          have HNEXT:=Lib.hid hnext
          clear hown hIM hf hokj hnext hy0 hc
          go_wp2_with (go_at_call 191;(with_reducible refine hCN.mono ?_);rintro e x1 ⟨vn,rfl,own1,b1⟩;obtain⟨an,cn,hvn,hin1⟩:=ownsRow_intsIn own1;have hap1: ∀b,an=some ⟨b,0,none⟩->wr.heap.size<=b/\b<x1.heap.size:=(fun b e=>by subst e;subst hvn;exact own1.lt b rfl);subst hvn;have HIN1:=Lib.hid hin1;have HAP1:=Lib.hid hap1;have HB4:=Lib.hid b1;clear own1 hin1 hap1 b1)
          obtain⟨nx,hnx⟩: ∃nx,nx=nextP E y0 word:=⟨_,rfl⟩
          have hnxs: ∀y∈nx,y∈E.map (·.b):=by rw[hnx];exact next_sub
          have hnxl:nx.length<=4000:=by have:=nextP_len E y0 word;rw[hnx];omega
          rw[<-hnx] at HIN1 HNEXT
          rw[<-hnx]
          have HNXS:=Lib.hid hnxs
          clear hnx hnxs hCN
          go_loopw [14,65] (fun vm vq X=> ∃q:Nat,q<=nx.length/\vq= .int .i64 q/\X.ownsRow V.heap.size 3 1 vm ((nx.take q).foldl hopIn c).2.length (((nx.take q).foldl hopIn c).2.map (Value.int .i64))/\IM booR booD X mb ((nx.take q).foldl hopIn c).1.length (((nx.take q).foldl hopIn c).1.map fun z=>(z,true))/\Fr (· =mb) V X/\IntsIn X an nx/\(∀b,an=some ⟨b,0,none⟩->Apart vm b/\b<X.heap.size)) (fun _ vq _=>nx.length-(intOf vq).toNat)
          case atStart=>
           exact⟨0,Nat.zero_le _,rfl,ownsRow_below HOWN.out HB4.out,HIM2.out.below HB4.out,HF.out.trans (Fr.new HB4.out),HIN1.out,fun b e=>⟨apart_new HOWN.out (HAP1.out b e).1,(HAP1.out b e).2⟩⟩
          case round=>
           obtain⟨q,hq,rfl,hown,hIM,hf,hinq,hapq⟩:=hrel
           by_cases hqn:q<nx.length
           · obtain⟨nbk,y,han,hy,hnl,dy⟩:=intsIn_get hinq hqn
             have hst:(nx.take (q+1)).foldl hopIn c=hopIn ((nx.take q).foldl hopIn c) y:=foldl_take hy
             have hokd:HI E x ((nx.take q).foldl hopIn c):=HI.fold HOKJ.out fun z hz=>HNXS.out z (List.mem_of_mem_take hz)
             obtain⟨d,hd⟩: ∃d,d=(nx.take q).foldl hopIn c:=⟨_,rfl⟩
             rw[<-hd] at hown hIM hst hokd
             have hyi:i64 y:=HEB.out y (HNXS.out y (List.mem_of_getElem? hy))
             have hlk2:=hIM.look booVT Tryz.underlying255 false (zeroBooW wr) hyi
             rw[(hop_lookup d.1 y).1] at hlk2
             have hd1:d.1.length<=4001:=by have:=hokd.size;omega
             have hd2:d.2.length<=4001:=by have:=hokd.len;omega
             have q0:(0:Int)<=(q:Int):=by omega
             have q1:(q:Int)<(nx.length:Int):=by omega
             have hmw:=hIM.lt
             have hvs:V.heap.size<=wr.heap.size:=hf.size
             have HOWN3:=Lib.hid hown
             have HIM3:=Lib.hid hIM
             have HF3:=Lib.hid hf
             have HIN3:=Lib.hid hinq
             have HAP3:=Lib.hid hapq
             have HYI:=Lib.hid hyi
             by_cases hm:y∈d.1
             · rw [decide_eq_true hm] at hlk2
               have HST:=Lib.hid (hst.trans (if_pos hm))
               clear hst hm hy hd hown hIM hf hinq hapq hyi hokd
               subst han
               go_wp2_with fail
               exact⟨⟨q+1,by omega,by go_num,by rw[HST.out];exact HOWN3.out,by rw[HST.out];exact HIM3.out,HF3.out,HIN3.out,HAP3.out⟩,by simp[intOf];omega⟩
             · rw [decide_eq_false hm] at hlk2
               have HST:=Lib.hid (hst.trans (if_neg hm))
               have hno:=(hop_lookup d.1 y).2.2 hm
               obtain⟨D,hownD,hD⟩:=hIM.own
               have HPUT:=Lib.hid fun(w' :World) (ho:w'.ownsMap Tryz.prog 3 booR mb (d.1.length+1) (D.put (kI y) (booD true)))=>IM.put hIM.rng hD hyi hno ho
               have HOWD:=Lib.hid hownD
               clear hst hm hy hd hown hIM hf hinq hapq hyi hokd hno hownD hD
               have hnm:nbk≠mb:=by have:=(HAP1.out nbk han).1;omega
               subst han
               go_wp2_with (first
                | (at_mapUpdate;refine wpList_mapUpdate_own _ rfl _ _ _ 255 rfl 3 4 intLaw Tryz.underlying255 booR mb d.1.length D rfl HOWD.out (by unfold maxLen;omega) _ _ _ rfl rfl (keyOf_int_mk Tryz.underlying3 (wfI HYI.out)) (booD true) [] (booVT.put true) ?_;intro w7 hown7 hg7;have HIM7:=Lib.hid (HPUT.out w7 hown7);have hf7:Fr (· =mb) wr w7:=Fr.ofGrown hg7;have HF7:=Lib.hid hf7;have HOWN7:=Lib.hid (ownsRow_frame HOWN3.out hf7 (fun g hg e=>by omega));have HIN7:=Lib.hid (HIN3.out.frame hf7 (fun b e=>by cases e;exact hnm));have hs7:=hf7.size;clear hown7 hg7 hf7)
                | (at_builtin;refine appIntF rfl _ _ rfl V.heap.size _ d.2 rfl (HOWN7.out.alloc _) w7.heap.size y rfl (by simp) (by omega) (by simp;omega) w7 ((Below.refl _ _).alloc (by omega) _) ?_;intro v8 w8 hown8 hB8 hg8 hap8))
               have hs8:=hB8.size
               refine⟨⟨q+1,by omega,by go_num,by rw[HST.out];exact hown8,?_,?_,?_,fun b e=> ?_⟩,by simp[intOf];omega⟩
               · rw [HST.out]
                 have:=HIM7.out.frame (Fr.ofBelow hB8) (by omega)
                 simpa [List.map_append] using this
               · exact(HF3.out.trans HF7.out).next (Fr.ofBelow hB8) (fun k hk e=>by omega)
               · exact(HIN7.out.below ((Below.refl _ _).alloc (Nat.le_refl _) _)).grown hg8 fun b e=>(HAP3.out b e).1
               · obtain⟨h1,h2⟩:=HAP3.out b e
                 exact⟨hap8 b (by simp;omega) h1,by omega⟩
           · obtain rfl:q=nx.length:=by omega
             have HOWN3:=Lib.hid hown
             have HIM3:=Lib.hid hIM
             have HF3:=Lib.hid hf
             rw[List.take_of_length_le (Nat.le_refl _)] at HOWN3 HIM3
             rw[<-HNEXT.out] at HOWN3 HIM3
             clear hown hIM hf hinq hapq
             go_wp2_with fail
             exact⟨⟨j+1,by omega,by go_num,HOWN3.out,HIM3.out,HF3.out⟩,by simp[intOf];omega⟩
        · obtain rfl:j=line.length:=by omega
          rw[List.take_of_length_le (Nat.le_refl _)] at hown hIM
          have e1:line.foldl (hopTo E word) (had,[])=hopS E word x (k+1):=HS1.out.symm
          rw[e1] at hown hIM
          obtain⟨am,cm,hvm,hinm⟩:=ownsRow_intsIn hown
          have hnm: ∀b,am=some ⟨b,0,none⟩->b≠mb:=fun b e=>by subst e;subst hvm;have:=(hown.lt b rfl).1;omega
          subst hvm
          have HIM3:=Lib.hid hIM
          have HIN3:=Lib.hid hinm
          have HNM:=Lib.hid hnm
          have HB5:=Lib.hid (HB1.out.trans (hf.below (fun k _ e=>by have:=HMB.out;omega) HB1.out.size))
          clear hown hIM hf hinm hnm e1 hokj
          go_wp2_with fail
          exact⟨⟨k+1,am,cm,by omega,by go_num,rfl,HIN3.out,HNM.out,HIM3.out,HB5.out⟩,by simp[intOf];omega⟩
     · obtain rfl:k=h:=by omega
       have hkz: ¬(k:Int)-(k:Int)>0:=by omega
       have hH:=Lib.hid (HEND.out (.inr rfl))
       go_wp2_with fail
       go_meet
       exact⟨by rw[hH.out];exact HIM1.out,HB1.out⟩
 case rest=>
  obtain⟨hIM,hB⟩:=hcut
  have hnod:(hopP E word x h).Nodup:=(hopS_ok E word x h).nod
  have hsize:(hopP E word x h).length<=4001:=by have:=(hopS_ok E word x h).size;unfold hopP;omega
  obtain⟨H,hH⟩: ∃H,H=hopP E word x h:=⟨_,rfl⟩
  rw[<-hH] at hIM hnod hsize
  have HH:=Lib.hid hH
  generalize wc=W9 at*
  obtain⟨D,hown,hD⟩:=hIM.own
  have hmb9:mb<W9.heap.size:=hown.lt
  have hhas: ∀y∈H,Maps.has D (kI y)=true:=fun y hy=>(hD.has _ kI_key).2 ⟨(y,true),List.mem_map.2 ⟨y,hy,rfl⟩,rfl⟩
  have hsz:=hD.size
  rw[List.length_map] at hsz
  have hrng: ∀y∈H,i64 y:=fun y hy=>hIM.rng (y,true) (List.mem_map.2 ⟨y,hy,rfl⟩)
  have HST:=Lib.hid (TI.start (M:=H) hhas)
  have HD:=Lib.hid hD
  have HSZ:=Lib.hid hsz
  have HRNG:=Lib.hid hrng
  have HNOD:=Lib.hid hnod
  have HB:=Lib.hid hB
  clear hhas hD hsz hrng hIM hB hH hnod HIM HLI HB3
  go_wp2_with (at_range;refine wpList_range_own _ rfl _ 255 rfl 3 4 intLaw Tryz.underlying255 booR mb H.length D rfl hown ?_;intro w5 hrg hgr hs5)
  try go_frame
  have hB5:Below W9.heap.size W9 w5:=⟨hgr.os,hgr.tape,hgr.output,hgr.size,fun i hi' =>hgr.block i hi' (by simp)⟩
  obtain⟨r,hr⟩: ∃r,r=W9.heap.size:=⟨_,rfl⟩
  have hrg' :w5.ranges Tryz.prog 3 booR mb r H.length D (Maps.has D) (Maps.size D):=by rw[hr];exact hrg
  have HB5:=Lib.hid hB5
  have HRG' :=Lib.hid hrg'
  have HS5:=Lib.hid hs5
  have HRE:=Lib.hid hr
  have hmr:mb<r:=by rw[hr];exact hmb9
  rw[<-hr]
  clear hgr hB5 hrg hs5 hown hrg' hr
  go_loopw [19] (fun v X=> ∃(left:Lit->Bool) (cnt:Nat) (U:List Int),X.ranges Tryz.prog 3 booR mb r H.length D left cnt/\TI H left U/\U.length+cnt<=H.length/\X.ownsRow (r+1) 3 1 v U.length (U.map (Value.int .i64))/\Below r W9 X/\r<X.heap.size/\(∀q,left q=true->Maps.has D q=true)) (fun _ X=>X.rangeLeft mb r)
  case atStart=>exact⟨_,_,[],HRG'.out,HST.out,by rw[HSZ.out];simp,World.ownsRow_nil _ _ _ _,by rw[HRE.out];exact HB5.out,by have:=HS5.out;have:=HRE.out;omega,fun _ e=>e⟩
  case round=>
   obtain⟨left,cnt,U,hrg,hTL,hcnt,hownU,hBr,hrl,hsub⟩:=hrel
   have HTL:=Lib.hid hTL
   have HBR:=Lib.hid hBr
   have HSUB:=Lib.hid hsub
   have HRGW:=Lib.hid hrg
   clear hTL hBr hsub
   go_wp2_with (at_next;refine wpList_next_raw _ rfl _ rfl 3 intLaw booR mb r H.length D left cnt rfl hrg ?_ ?_)
   · intro hc0 hl0
     have hperm:=HTL.out.done hl0 HNOD.out
     have hle:=hperm.length_eq
     have hcs:=sortSlice_own (r+1) U _ wr hownU (by omega) (by omega)
     rw[sortI_perm hperm,hle] at hcs
     have HCS:=Lib.hid hcs
     clear hl0 hc0 hrg hownU hcs hperm
     go_wp2_with (go_at_call 157;(with_reducible refine HCS.out.mono ?_);rintro e w6 ⟨rfl,own6,b6⟩;have HO6:=Lib.hid own6;have B6:=Lib.hid b6;clear own6 b6)
     go_ret2
     have hb9:Below w.heap.size w w6:=HB.out.trans ((HBR.out.trans (B6.out.mono (by omega))).mono (by rw[HRE.out];exact HB.out.size))
     exact⟨_,rfl,by rw[<-HH.out];exact ownsRow_mono HO6.out (by have:=HB.out.size;have:=HRE.out;omega),hb9⟩
   · intro key v kl y1 y2 w6 cnt3 hkey hlk3 hv hat hrg3 hlt3 hgr3 hs3 hen
     obtain⟨p,hp,e⟩:=HD.out.got (intLaw.key hkey) (HSUB.out _ hlk3)
     obtain⟨y,hy,rfl⟩:=List.mem_map.1 hp
     have ek:key= .int .i64 y:=intLaw.inj hkey (by rw[<-e];exact keyOf_int_mk Tryz.underlying3 (wfI (HRNG.out y hy)))
     subst ek
     have ekl:kl=kI y:=e.symm
     subst ekl
     have hF3:Fr (· =r) wr w6:=Fr.ofGrown hgr3
     have hB3:Below r W9 w6:=HBR.out.trans (hF3.below (B:=r) (fun k _ e=>by omega) (by omega))
     have hown3:=ownsRow_frame hownU hF3 (fun g hg e=>by omega)
     have hsub3: ∀q,(left q && !q.sameKey (kI y))=true->Maps.has D q=true:=fun q hq=>HSUB.out q (by rw[Bool.and_eq_true] at hq;exact hq.1)
     have HRG3:=Lib.hid hrg3
     have HB3:=Lib.hid hB3
     have HSUB3:=Lib.hid hsub3
     have HO3:=Lib.hid hown3
     have hrl3:r<w6.heap.size:=by omega
     have frame: ∀W,Below (r+1) w6 W->W.ranges Tryz.prog 3 booR mb r H.length D (fun z=>left z && !z.sameKey (kI y)) cnt3:=fun W hB=>ranges_frame HRG3.out (Fr.ofBelow hB) (by omega) (by omega)
     have HFRM:=Lib.hid frame
     have hrr:r+1<=w6.heap.size:=by omega
     have HN:=Lib.hid (HTL.out.yes hy hlk3)
     clear frame hrg3 hB3 hsub3 hown3 hF3 hgr3 hat hv hkey e hy hlk3 hs3 hp
     go_wp2_with (at_builtin;refine appInt rfl _ _ rfl (r+1) _ U rfl (HO3.out.alloc _) w6.heap.size y rfl (by simp) (by omega) (by simp;omega) w6 ((Below.refl _ _).alloc hrr _) ?_;intro v8 w8 hown8 hB8 hs8 _)
     go_roundw
     case rel=>
      first
       | exact⟨_,cnt3,U++ [y],HFRM.out _ hB8,HN.out,by rw[List.length_append,List.length_singleton];omega,hown8,HB3.out.trans (hB8.mono (by omega)),by have:=hB8.size;omega,HSUB3.out⟩
       | ((repeat apply Exists.intro);exact⟨⟨_,cnt3,U++ [y],HFRM.out _ hB8,HN.out,by rw[List.length_append,List.length_singleton];omega,hown8,HB3.out.trans (hB8.mono (by omega)),by have:=hB8.size;omega,HSUB3.out⟩,rfl⟩)
     case measure=>rw[(HFRM.out _ hB8).left_eq,HRGW.out.left_eq];exact hlt3
theorem flatKeys_one (l:List KeyP): ∀u∈flatKeys l,u.oneCell' =true:=fun u hu=>by
 obtain⟨k,_,hk⟩:=List.mem_flatMap.1 hu
 simp[encK] at hk
 rcases hk with rfl|rfl|rfl|rfl<;>rfl
theorem keysIn_flat {w:World} {b:Nat} {l:List KeyP} (h:KeysIn w (some ⟨b,0,none⟩) l): ∀j u,(flatKeys l)[j]? =some u->w.cell? ⟨b,j,none⟩=some u:=fun j u hu=>by
 have hj:j<l.length*4:=by rw[<-flatKeys_length];exact(List.getElem?_eq_some_iff.1 hu).1
 obtain⟨k,hk⟩: ∃k,l[j / 4]? =some k:=⟨_,List.getElem?_eq_getElem (by omega)⟩
 obtain⟨b',e,c0,c1,c2,c3⟩:=h _ k hk
 cases e
 obtain⟨f0,f1,f2,f3⟩:=flatKeys_at l (j / 4) k hk
 have hm:j=j / 4*4+j % 4:=by omega
 have h4:j % 4<4:=Nat.mod_lt _ (by decide)
 rcases(by omega:j % 4=0\/j % 4=1\/j % 4=2\/j % 4=3) with e|e|e|e
 · rw[hm,e] at hu ⊢;rw[Nat.add_zero] at hu ⊢;rw[f0] at hu;cases hu;exact c0
 · rw[hm,e] at hu ⊢;rw[f1] at hu;cases hu;exact c1
 · rw[hm,e] at hu ⊢;rw[f2] at hu;cases hu;exact c2
 · rw[hm,e] at hu ⊢;rw[f3] at hu;cases hu;exact c3
set_option maxRecDepth 100000 in
set_option maxHeartbeats 2000000 in
theorem cloneKeys_any (eo:Option Addr) (ec:Nat) (l:List KeyP) (w:World) (h:KeysIn w eo l) (hl:l.length<=4000) (hn:eo=none->l= []) (hb: ∀p,eo=some p-> ∃b,p=⟨b,0,none⟩):
  Calls Tryz.prog 186 #[.slice eo l.length ec] w fun e w' => ∃ao cap,e= .returned (.slice ao l.length cap)/\KeysIn w' ao l/\Below w.heap.size w w' :=by
 cases eo with
 | none=>
   obtain rfl:=hn rfl
   have hen:=fun(w:World) (n c:Nat)=>Lib.run_eql_slice_nil (P:=Tryz.prog) w 51 97 none n c 0 0 Tryz.underlying51
   clear hn hb
   go_enter Tryz.func186,Tryz.ntmps186
   go_wp2_with fail
   go_ret
   exact⟨none,0,rfl,h,Below.refl _ _⟩
 | some p=>
   obtain⟨b,rfl⟩:=hb p rfl
   have hfl:=Lib.hid (keysIn_flat h)
   have hen:=fun(w:World) (n c:Nat)=>Lib.run_eql_slice_nil (P:=Tryz.prog) w 51 97 (some ⟨b,0,none⟩) n c 0 0 Tryz.underlying51
   clear h hn hb
   go_enter Tryz.func186,Tryz.ntmps186
   go_wp2_with (at_builtin;refine appMany rfl _ _ 51 rfl w.heap.size 97 Tryz.underlying51 infoKey rfl (by decide) _ 0 [] rfl (own_empty w (Nat.le_refl _)) (some ⟨b,0,none⟩) l.length ec rfl (fun e=>by cases e) (flatKeys l) (flatKeys_length l) (fun p hp j u hu=>by cases hp;rw[add_at,Nat.zero_add];have:=hfl.out j u hu;exact(below_cell ((Below.refl _ _).alloc (Nat.le_refl _) _) (World.block_lt_of_cell? w _ this) this)) (flatKeys_one l) (by unfold maxLen;omega) (by omega) (by simp) w ((Below.refl _ _).alloc (Nat.le_refl _) _) ?_;intro v' w' hown' hB' _ _ _)
   go_ret
   rw[Nat.zero_add,List.nil_append] at hown'
   obtain⟨ao,cap,rfl,hin⟩:=ownsRow_keysIn hown'
   exact⟨ao,cap,rfl,hin,hB'⟩
set_option maxRecDepth 100000 in
set_option maxHeartbeats 2000000 in
theorem edges_any (w:World) {gb nb:Nat} {eo:Option Addr} {N:List (Int×ByteArray)} {E:List KeyP} (hG:GAt w gb nb eo N E):
  Calls Tryz.prog 128 #[.pointer (some ⟨gb,0,none⟩)] w fun e w' => ∃ao cap,e= .returned (.slice ao E.length cap)/\KeysIn w' ao E/\Below w.heap.size w w' :=by
 obtain⟨ec,c0,c1,hgl⟩:=hG.cells
 have HC:=Lib.hid (cloneKeys_any eo ec E w hG.edg hG.elen hG.enil hG.eblk)
 clear hG c0
 go_enter Tryz.func128,Tryz.ntmps128
 go_wp2_with (go_at_call 186;(with_reducible refine HC.out.mono ?_);rintro e w1 ⟨ao,cap,rfl,hin,b1⟩;have HIN:=Lib.hid hin;have B1:=Lib.hid b1;clear hin b1)
 go_ret
 exact⟨ao,cap,rfl,HIN.out,B1.out⟩
theorem flatKeys_bind (l:List KeyP) (t:Nat):(flatKeys l)[t]? =(l[t / 4]?).bind fun x=>(encK x)[t % 4]? :=flatMap_get encK 4 (fun _=>rfl) (by decide) l t
theorem ownsRow_shapeK {w:World} {base:Nat} {e:TypeId} {size:Nat} {v:Value} {n:Nat} {xs:List Value} (h:w.ownsRow base e size v n xs): ∃a m c,v= .slice a m c:=by
 rcases h.2 with ⟨rfl,_⟩|⟨g,cap,cur,rfl,_⟩
 · exact⟨_,_,_,rfl⟩
 · exact⟨_,_,_,rfl⟩
theorem own_base {w:World} {base:Nat} {e:TypeId} {size g m c:Nat} {n:Nat} {xs:List Value} (h:w.ownsRow base e size (.slice (some ⟨g,0,none⟩) m c) n xs):base<=g:=by
 rcases h.2 with ⟨h0,_⟩|⟨g',cap,cur,h0,hb,_⟩
 · cases h0
 · cases h0;exact hb
theorem below_setCells {base:Nat} {w:World} {g:Nat} (hg:base<=g): ∀(vs:List Value) (o:Nat) (X:World),Below base w X->Below base w (X.setCells g o vs)
 | [],_,_,h=>h
 | v::r,o,X,h=>by rw[World.setCells];exact below_setCells hg r (o+1) _ (h.setCell hg v)
def setKey (cur:Array Value) (i:Nat) (k:KeyP):Array Value:=(((cur.setIfInBounds (i*4) (.int .i64 k.kind)).setIfInBounds (i*4+1) (.int .i64 k.a)).setIfInBounds (i*4+2) (.string k.word)).setIfInBounds (i*4+3) (.int .i64 k.b)
theorem setKey_size (cur:Array Value) (i:Nat) (k:KeyP):(setKey cur i k).size=cur.size:=by simp[setKey]
theorem setKey_get (cur:Array Value) (i:Nat) (k:KeyP) (hi:i*4+3<cur.size) (j:Nat):(setKey cur i k)[j]? =if j / 4=i then (encK k)[j % 4]? else cur[j]? :=by
 unfold setKey
 simp only[Array.getElem?_setIfInBounds,Array.size_setIfInBounds]
 by_cases h:j / 4=i
 · rw [if_pos h]
   have hm:j=i*4+j % 4:=by omega
   rcases(by omega:j % 4=0\/j % 4=1\/j % 4=2\/j % 4=3) with e|e|e|e
   · rw [e] at hm ⊢
     rw[if_neg (by omega),if_neg (by omega),if_neg (by omega),if_pos (by omega),if_pos (by omega)];rfl
   · rw [e] at hm ⊢
     rw[if_neg (by omega),if_neg (by omega),if_pos (by omega),if_pos (by omega)];rfl
   · rw [e] at hm ⊢
     rw[if_neg (by omega),if_pos (by omega),if_pos (by omega)];rfl
   · rw [e] at hm ⊢
     rw[if_pos (by omega),if_pos (by omega)];rfl
 · rw[if_neg h,if_neg (by omega),if_neg (by omega),if_neg (by omega),if_neg (by omega)]
theorem ownsRow_setKey {w:World} {base g cap:Nat} {l:List KeyP} (h:w.ownsRow base 97 4 (.slice (some ⟨g,0,none⟩) l.length cap) l.length (flatKeys l)) {i:Nat} (hi:i<l.length) (k:KeyP):
  ((((w.setCell ⟨g,i*4,none⟩ (.int .i64 k.kind)).setCell ⟨g,i*4+1,none⟩ (.int .i64 k.a)).setCell ⟨g,i*4+2,none⟩ (.string k.word)).setCell ⟨g,i*4+3,none⟩ (.int .i64 k.b)).ownsRow base 97 4 (.slice (some ⟨g,0,none⟩) l.length cap) l.length (flatKeys (l.set i k)):=by
 rcases h.2 with ⟨h0,_⟩|⟨g0,cap0,cur,h0,hbg,hh,hnc,hcm,hcs,htk⟩
 · cases h0
 · cases h0
   have hb:=block_set (block_set (block_set (block_set hh (i*4) (.int .i64 k.kind)) (i*4+1) (.int .i64 k.a)) (i*4+2) (.string k.word)) (i*4+3) (.int .i64 k.b)
   refine⟨by rw[flatKeys_length];simp,.inr ⟨g,cap,setKey cur i k,rfl,hbg,hb,hnc,hcm,by rw[setKey_size];exact hcs,?_⟩⟩
   apply List.ext_getElem?
   intro j
   have hj0:(cur.toList.take (l.length*4))[j]? =(flatKeys l)[j]? :=by rw[htk]
   rw[flatKeys_bind] at hj0 ⊢
   by_cases hj:j<l.length*4
   · rw [List.getElem?_take_of_lt hj,Array.getElem?_toList] at hj0 ⊢
     rw[setKey_get cur i k (by omega)]
     by_cases e:j / 4=i
     · rw[if_pos e,e,List.getElem?_set_self (by simpa using hi)];rfl
     · rw[if_neg e,hj0,List.getElem?_set_ne (fun h=>e h.symm)]
   · rw [List.getElem?_take_eq_none (by omega)] at hj0 ⊢
     rw[List.getElem?_set_ne (by omega)]
     exact hj0
theorem setCells_ahead {g:Nat} {t:TypeId} {fz:Nat×Nat}: ∀(vs:List Value) (o:Nat) (w:World) (cur:Array Value),w.heap[g]? =some (.cells cur t fz)-> ∃cur' :Array Value,(w.setCells g o vs).heap[g]? =some (.cells cur' t fz)/\cur'.size=cur.size/\ ∀j,j<o->cur'[j]? =cur[j]?
 | [],o,w,cur,h=>⟨cur,h,rfl,fun _ _=>rfl⟩
 | v ::r,o,w,cur,h=>by
   rw[World.setCells]
   obtain⟨cur',h1,h2,h3⟩:=setCells_ahead r (o+1) _ _ (block_set h o v)
   refine⟨cur',h1,by rw[h2];simp,fun j hj=> ?_⟩
   rw[h3 j (by omega),Array.getElem?_setIfInBounds_ne (by omega)]
theorem ownsRow_clear {w:World} {base g cap i:Nat} {l:List KeyP} (h:w.ownsRow base 97 4 (.slice (some ⟨g,0,none⟩) l.length cap) l.length (flatKeys l)) (hi:i<=l.length) (Z:List Value):(w.setCells g (i*4) Z).ownsRow base 97 4 (.slice (some ⟨g,0,none⟩) i cap) i (flatKeys (l.take i)):=by
 rcases h.2 with ⟨h0,_⟩|⟨g0,cap0,cur,h0,hbg,hh,hnc,hcm,hcs,htk⟩
 · cases h0
 · cases h0
   obtain⟨cur',h1,h2,h3⟩:=setCells_ahead Z (i*4) w cur hh
   refine⟨by rw[flatKeys_length,List.length_take];congr 1;omega,.inr ⟨g,cap,cur',rfl,hbg,h1,by omega,hcm,by omega,?_⟩⟩
   apply List.ext_getElem?
   intro j
   have hj0:(cur.toList.take (l.length*4))[j]? =(flatKeys l)[j]? :=by rw[htk]
   rw[flatKeys_bind] at hj0 ⊢
   by_cases hj:j<i*4
   · rw [List.getElem?_take_of_lt (by omega),Array.getElem?_toList] at hj0
     rw[List.getElem?_take_of_lt hj,Array.getElem?_toList,h3 j hj,hj0,List.getElem?_take_of_lt (by omega)]
   · rw[List.getElem?_take_eq_none (by omega),List.getElem?_take_eq_none (by omega)];rfl
theorem run_clear_keys (w:World) (b o n c:Nat) (hn:0<n) (hc: ∀j,j<n*4->(w.cell? ⟨b,o+j,none⟩).isSome=true) (hf: ∀j,j<n*4->w.frozen? ⟨b,o+j,none⟩=false): ∃Z:List Value,∀ty,(Builtin.clear_ #[51] ty #[.slice (some ⟨b,o,none⟩) n c]).run Tryz.prog w= .ok (.tuple #[]) (w.setCells b o Z):=by
 refine⟨(Builtin.zeroCells (Value.cells (.agg #[.int .i64 0,.int .i64 0,.string ⟨#[]⟩,.int .i64 0])) n).toList,fun ty=> ?_⟩
 have hzl:(Builtin.zeroCells (Value.cells (.agg #[.int .i64 0,.int .i64 0,.string ⟨#[]⟩,.int .i64 0])) n).toList.length=n*4:=by
  simp[Builtin.zeroCells,Value.cells]
 have hz1: ∀v∈(Builtin.zeroCells (Value.cells (.agg #[.int .i64 0,.int .i64 0,.string ⟨#[]⟩,.int .i64 0])) n).toList,v.oneCell' =true:=fun v hv=>by
  simp only[Builtin.zeroCells,Value.cells,Array.toList_map,List.mem_map] at hv
  obtain⟨i,_,rfl⟩:=hv
  show(#[Value.int .i64 0,.int .i64 0,.string ⟨#[]⟩,.int .i64 0][i % 4]!).oneCell' =true
  rcases(by omega:i % 4=0\/i % 4=1\/i % 4=2\/i % 4=3) with e|e|e|e<;>rw[e]<;>rfl
 have hv: ∀w,(zeroValue 97).run Tryz.prog w= .ok (.agg #[.int .i64 0,.int .i64 0,.string ⟨#[]⟩,.int .i64 0]) w:=fun w=>by kernel_rfl
 have hst:=run_storeCells_cells (P:=Tryz.prog) b o _ 0 w (by rw[hzl];simpa using hc) (by rw[hzl];simpa using hf) hz1
 simp only[Nat.add_zero] at hst
 obtain⟨m,rfl⟩: ∃m,n=m+1:=⟨n-1,by omega⟩
 simp[Builtin.clear_,run_underlying Tryz.underlying51,hv,hst]
set_option maxRecDepth 100000 in
set_option maxHeartbeats 4000000 in
theorem idxKeys_any (base f:Nat) (lb:Array Value) (p:KeyP->Bool) (ef: ∀args w,(callFunc f args).run Tryz.prog w= .ok (.enter f args) w) (v:Value) (l:List KeyP) (w:World) (hown:w.ownsRow base 97 4 v l.length (flatKeys l)) (hb:base<=w.heap.size) (hl:l.length<=4000)
  (hp: ∀X (k:KeyP),k∈l->Below base w X->Calls Tryz.prog f (#[.agg #[.int .i64 k.kind,.int .i64 k.a,.string k.word,.int .i64 k.b]]++lb) X fun e X' =>e= .returned (.bool (p k))/\Below X.heap.size X X'):
  Calls Tryz.prog 174 #[v,.func (.func f) #[] lb] w fun e w' => ∃r:Int,e= .returned (.int .i64 r)/\Below w.heap.size w w' /\((r= -1/\ ∀k∈l,p k=false)\/ ∃i:Nat,r=i/\i<l.length/\(∀k,l[i]? =some k->p k=true)/\ ∀k∈l.take i,p k=false):=by
 obtain⟨ao,cap,rfl,hin⟩:=ownsRow_keysIn hown
 have HIN:=Lib.hid hin
 have HP:=Lib.hid hp
 clear hown hin hp
 go_enter Tryz.func174,Tryz.ntmps174
 go_wp2_with fail
 go_loopw [8] (fun vi X=> ∃i:Nat,i<=l.length/\vi= .int .i64 i/\(∀k∈l.take i,p k=false)/\Below w.heap.size w X) (fun vi _=>l.length-(intOf vi).toNat)
 case atStart=>exact⟨0,Nat.zero_le _,rfl,(fun k hk=>by simp at hk),Below.refl _ _⟩
 case round=>
  obtain⟨i,hi,rfl,hno,hB⟩:=hrel
  have HNO:=Lib.hid hno
  have HB:=Lib.hid hB
  have HBB:=Lib.hid (hB.mono hb)
  clear hno
  by_cases hlt:i<l.length
  · obtain⟨eb,k,rfl,hk,hebl,d0,d1,d2,d3⟩:=keysIn_get (HIN.out.below hB) hlt
    have hc:=HP.out wr k (List.mem_of_getElem? hk.out) HBB.out
    have hst:l.take (i+1)=l.take i++ [k]:=by rw[List.take_add_one,hk.out];rfl
    obtain⟨kk,ka,kw,kb⟩:=k
    simp only[] at d0 d1 d2 d3 hc
    have i0:(0:Int)<=(i:Int):=by omega
    have i1:(i:Int)<(l.length:Int):=by omega
    have HST:=Lib.hid hst
    clear hst hB
    cases hpk:p ⟨kk,ka,kw,kb⟩ with
    | true=>
      rw[hpk] at hc
      have HPK:=Lib.hid hpk
      clear hpk
      go_wp2_with (go_at_fn f;refine hc.mono ?_;rintro e w' ⟨rfl,b'⟩;have B' :=Lib.hid b';clear b')
      go_ret
      exact⟨_,rfl,HB.out.trans (B'.out.mono HB.out.size),.inr ⟨i,rfl,hlt,fun k' hk' =>by rw[hk.out] at hk';cases hk';exact HPK.out,HNO.out⟩⟩
    | false=>
      rw[hpk] at hc
      have HPK:=Lib.hid hpk
      clear hpk
      go_wp2_with (go_at_fn f;refine hc.mono ?_;rintro e w' ⟨rfl,b'⟩;have B' :=Lib.hid b';clear b')
      exact⟨⟨i+1,by omega,by go_num,fun k' hk' =>by
       rw[HST.out] at hk'
       rcases List.mem_append.1 hk' with h|h
       · exact HNO.out k' h
       · simp at h;subst h;exact HPK.out,HB.out.trans (B'.out.mono HB.out.size)⟩,by simp[intOf];omega⟩
  · obtain rfl:i=l.length:=by omega
    clear hB
    go_wp2_with fail
    go_ret
    exact⟨-1,rfl,HB.out,.inl ⟨rfl,fun k hk=>HNO.out k (by rw[List.take_of_length_le (Nat.le_refl _)];exact hk)⟩⟩
set_option maxRecDepth 100000 in
set_option maxHeartbeats 8000000 in
theorem delKeys_any (base f:Nat) (lb:Array Value) (p:KeyP->Bool) (ef: ∀args w,(callFunc f args).run Tryz.prog w= .ok (.enter f args) w) (v:Value) (l:List KeyP) (w:World) (hown:w.ownsRow base 97 4 v l.length (flatKeys l)) (hb:base<=w.heap.size) (hl:l.length<=4000)
  (hp: ∀X (k:KeyP),k∈l->Below base w X->Calls Tryz.prog f (#[.agg #[.int .i64 k.kind,.int .i64 k.a,.string k.word,.int .i64 k.b]]++lb) X fun e X' =>e= .returned (.bool (p k))/\Below X.heap.size X X'):
  Calls Tryz.prog 119 #[v,.func (.func f) #[] lb] w fun e w' => ∃v',e= .returned v' /\w'.ownsRow base 97 4 v' (l.filter fun k=> !p k).length (flatKeys (l.filter fun k=> !p k))/\Below base w w' :=by
 have HIX:=Lib.hid (idxKeys_any base f lb p ef v l w hown hb hl hp)
 have HOWN:=Lib.hid hown
 have HP:=Lib.hid hp
 obtain⟨va,vn,vc,hv⟩:=ownsRow_shapeK hown
 subst hv
 clear hp
 go_enter Tryz.func119,Tryz.ntmps119
 go_upto_region 2 with (go_at_call 174;(with_reducible refine HIX.out.mono ?_);rintro e w1 ⟨r,rfl,b1,hr⟩)
 have HB1:=Lib.hid (b1.mono hb)
 have HO1:=Lib.hid (ownsRow_below hown b1)
 clear b1 hown HOWN HIX
 rcases hr with ⟨rfl,hall⟩|⟨i,rfl,hi,hpi,hpre⟩
 · have hfil:(l.filter fun k=> !p k)=l:=List.filter_eq_self.2 fun k hk=>by rw[hall k hk];rfl
   have HF:=Lib.hid hfil
   clear hall hfil
   go_wp2_with fail
   go_ret
   exact⟨_,rfl,by rw[HF.out];exact HO1.out,HB1.out⟩
 · obtain⟨g,cap,hvs⟩: ∃g cap,(Value.slice va vn vc)= .slice (some ⟨g,0,none⟩) l.length cap:=by
    rcases HO1.out.2 with ⟨_,h0⟩|⟨g,cap,cur,h0,_⟩
    · omega
    · exact⟨g,cap,h0⟩
   injection hvs with e1 e2 e3
   have e3:=e3.symm
   subst e1 e2 e3
   have hne: ¬(i:Int)= -1:=by omega
   have hz:((i:Int)== -1)=false:=by simp;try omega
   obtain⟨k0,hk0⟩: ∃k,l[i]? =some k:=⟨_,List.getElem?_eq_getElem hi⟩
   have hst0:l.take i=(l.take (i+1)).filter fun k=> !p k:=by
    rw[List.take_add_one,hk0,List.filter_append]
    have h1:(l.take i).filter (fun k=> !p k)=l.take i:=List.filter_eq_self.2 fun k hk=>by rw[hpre k hk];rfl
    rw[h1]
    simp[hpi k0 hk0]
   have HST0:=Lib.hid hst0
   have hcap:l.length<=cap:=by
    rcases HO1.out.2 with ⟨h0,_⟩|⟨g,cap,cur,h0,_,_,hnc,_⟩
    · cases h0
    · cases h0;exact hnc
   clear hst0 hk0 hpi hpre
   go_wp2_with fail
   go_loopw [5,6] (fun vi vj X=> ∃(i j:Nat) (D:List KeyP),vi= .int .i64 i/\vj= .int .i64 j/\i<j/\j<=l.length/\D.length=l.length/\D.take i=((l.take j).filter fun k=> !p k)/\D.drop j=l.drop j/\X.ownsRow base 97 4 (.slice (some ⟨g,0,none⟩) D.length cap) D.length (flatKeys D)/\Below base w X) (fun _ vj _=>l.length-(intOf vj).toNat)
   case atStart=>exact⟨i,i+1,l,rfl,by go_num,by omega,by omega,rfl,HST0.out,rfl,HO1.out,HB1.out⟩
   case round=>
    clear HST0 HO1 HB1 hne hz hi
    obtain⟨i,j,D,rfl,rfl,hij,hjl,hDl,hDt,hDd,hrow,hB⟩:=hrel
    by_cases hlt:j<l.length
    · obtain⟨k,hk⟩: ∃k,l[j]? =some k:=⟨_,List.getElem?_eq_getElem hlt⟩
      have hDk:D[j]? =some k:=by
       have:=congrArg (fun l=>l[0]?) hDd
       simp only[List.getElem?_drop,Nat.add_zero] at this
       rw[this];exact hk
      obtain⟨ao,cp,hsl,hin⟩:=ownsRow_keysIn hrow
      cases hsl
      obtain⟨b0,e,d0,d1,d2,d3⟩:=hin j k hDk
      cases e
      obtain⟨W4,hW4⟩: ∃W4,W4=wr.alloc (.cells #[.int .i64 k.kind,.int .i64 k.a,.string k.word,.int .i64 k.b] 97):=⟨_,rfl⟩
      have hB4:Below wr.heap.size wr W4:=by rw[hW4];exact(Below.refl _ _).alloc (Nat.le_refl _) _
      obtain⟨kx,hkx⟩: ∃kx,kx=wr.heap.size:=⟨_,rfl⟩
      have hkb:W4.heap[kx]? =some (.cells #[.int .i64 k.kind,.int .i64 k.a,.string k.word,.int .i64 k.b] 97 (0,0)):=by rw[hW4,hkx];exact block_alloc_new _ _
      have k0:W4.cell? ⟨kx,0,none⟩=some (.int .i64 k.kind):=block_cell hkb 0
      have k1:W4.cell? ⟨kx,1,none⟩=some (.int .i64 k.a):=block_cell hkb 1
      have k2:W4.cell? ⟨kx,2,none⟩=some (.string k.word):=block_cell hkb 2
      have k3:W4.cell? ⟨kx,3,none⟩=some (.int .i64 k.b):=block_cell hkb 3
      have hkl:kx<W4.heap.size:=lt_of_block hkb
      have hbw4:Below base w W4:=hB.trans (hB4.mono (by have:=hB.size;omega))
      have hc:=HP.out W4 k (List.mem_of_getElem? hk) hbw4
      have hrow4:=ownsRow_below hrow hB4
      have hstk:l.take (j+1)=l.take j++ [k]:=by rw[List.take_add_one,hk];rfl
      have hdd:D.drop (j+1)=l.drop (j+1):=by rw[<-List.drop_drop, <-List.drop_drop,hDd]
      have j0:(0:Int)<=(j:Int):=by omega
      have j1:(j:Int)<(l.length:Int):=by omega
      have i0:(0:Int)<=(i:Int):=by omega
      have i1:(i:Int)<(l.length:Int):=by omega
      have hgl:g<wr.heap.size:=World.block_lt_of_cell? _ _ d0
      have HW4:=Lib.hid hW4
      have HKX:=Lib.hid hkx
      have HB:=Lib.hid hbw4
      have HROW:=Lib.hid hrow4
      have HDT:=Lib.hid hDt
      have HSTK:=Lib.hid hstk
      have HDD:=Lib.hid hdd
      have HDL:=Lib.hid hDl
      have hil:i<D.length:=by omega
      obtain⟨kk,ka,kw,kb⟩:=k
      simp only[] at d0 d1 d2 d3 k0 k1 k2 k3 hc
      clear hk hDk hin hW4 hB4 hkx hkb hbw4 hrow4 hstk hdd hDt hDd hrow hB hDl
      cases hpk:p ⟨kk,ka,kw,kb⟩ with
      | true=>
        rw[hpk] at hc
        have HPK:=Lib.hid hpk
        clear hpk
        go_wp2_with (first|(rw[<-HW4.out, <-HKX.out])|(go_at_fn f;refine hc.mono ?_;rintro e w5 ⟨rfl,b'⟩;have B' :=Lib.hid b';clear b'))
        refine⟨⟨i,j+1,D,rfl,by go_num,by omega,by omega,HDL.out,?_,HDD.out,ownsRow_below HROW.out B'.out,HB.out.trans (B'.out.mono (by have:=HB.out.size;omega))⟩,by simp[intOf];omega⟩
        rw[HDT.out,HSTK.out,List.filter_append]
        simp[HPK.out]
      | false=>
        rw[hpk] at hc
        have HPK:=Lib.hid hpk
        clear hpk
        go_wp2_with (first|(rw[<-HW4.out, <-HKX.out])|(go_at_fn f;refine hc.mono ?_;rintro e w5 ⟨rfl,b'⟩;have HR5:=Lib.hid (ownsRow_below HROW.out b');have hb0l:=Nat.lt_of_lt_of_le hkl b'.size;have m0:=below_cell b' hkl k0;have m1:=below_cell b' hkl k1;have m2:=below_cell b' hkl k2;have m3:=below_cell b' hkl k3;obtain⟨ki,hki⟩:(∃ki,D[i]? =some ki):=⟨_,List.getElem?_eq_getElem hil⟩;obtain⟨ao5,cp5,hsl5,hin5⟩:=ownsRow_keysIn HR5.out;cases hsl5;obtain⟨b5,e5,n0,n1,n2,n3⟩:=hin5 i ki hki;cases e5;have z0:=HR5.out.frozenAt (i*4);have z1:=HR5.out.frozenAt (i*4+1);have z2:=HR5.out.frozenAt (i*4+2);have z3:=HR5.out.frozenAt (i*4+3);have hg5:=World.block_lt_of_cell? _ _ n0;have HB5:=Lib.hid (HB.out.trans (b'.mono (by have:=HB.out.size;omega)));have HR6:=Lib.hid (ownsRow_setKey HR5.out hil ⟨kk,ka,kw,kb⟩);clear b' hki hin5))
        have hbg:base<=g:=own_base HR5.out
        refine⟨⟨i+1,j+1,D.set i ⟨kk,ka,kw,kb⟩,by go_num,by go_num,by omega,by omega,by rw[List.length_set];exact HDL.out,?_,?_,by rw[List.length_set];exact HR6.out,(((HB5.out.setCell hbg _).setCell hbg _).setCell hbg _).setCell hbg _⟩,by simp[intOf];omega⟩
        · rw [HSTK.out,List.filter_append, <-HDT.out,List.take_add_one,List.getElem?_set_self hil,List.take_set_of_le (Nat.le_refl _)]
          simp[HPK.out]
        · rw[List.drop_set_of_lt (by omega)];exact HDD.out
    · obtain rfl:j=l.length:=by omega
      have hbg:base<=g:=own_base hrow
      obtain⟨ao,cp,hsl,hin⟩:=ownsRow_keysIn hrow
      cases hsl
      have hfz:=fun o=>hrow.frozenAt o
      obtain⟨Z,hcl⟩:=run_clear_keys wr g (i*4) (l.length-i) (cap-i) (by omega) (fun q hq=>by rw[keysIn_flat hin (i*4+q) ((flatKeys D)[i*4+q]'(by rw[flatKeys_length];omega)) (List.getElem?_eq_getElem _)];rfl) (fun q _=>hfz _)
      have HRC:=Lib.hid (ownsRow_clear hrow (i:=i) (by omega) Z)
      have HDT:=Lib.hid hDt
      have HB:=Lib.hid hB
      have i0:(0:Int)<=(i:Int):=by omega
      have i1:(i:Int)<=(l.length:Int):=by omega
      have hci: ¬cap=i:=by omega
      have i2:(i:Int)<=(cap:Int):=by omega
      have hil:i<D.length:=by omega
      have HDL:=Lib.hid hDl
      clear hDt hB hrow hin hfz hDl hDd
      go_wp2_with fail
      go_ret
      have he:D.take i=l.filter fun k=> !p k:=by rw[HDT.out,List.take_length]
      have hlen:(l.filter fun k=> !p k).length=i:=by rw[<-he,List.length_take];omega
      refine⟨_,rfl,?_,below_setCells hbg Z _ _ HB.out⟩
      rw[hlen, <-he];exact HRC.out
def nodesV (hist:List (List OpP)) (a:Nat) (t:Int) (l:List KeyP):List (Int×ByteArray):=(l.filter fun k=>decide (k.kind=1)).map fun k=>(k.a,saidH hist k a t)
def edgesV (l:List KeyP):List KeyP:=l.filter fun k=>decide (k.kind=2)
def propsV (hist:List (List OpP)) (a:Nat) (t:Int) (l:List KeyP):List (KeyP×ByteArray):=(l.filter fun k=>decide (k.kind=3)).map fun k=>(k,saidH hist k a t)
theorem propsV_snoc (hist:List (List OpP)) (a:Nat) (t:Int) (l:List KeyP) (k:KeyP):propsV hist a t (l++ [k])=propsV hist a t l++(if k.kind=3 then [(k,saidH hist k a t)] else []):=by
 unfold propsV
 rw[List.filter_append,List.map_append]
 congr 1
 by_cases h:k.kind=3<;>simp[h]
theorem nodesV_fst (hist:List (List OpP)) (a:Nat) (t:Int) (l:List KeyP):(nodesV hist a t l).map (·.1)=nodesP l:=by
 unfold nodesV nodesP;rw[List.map_map];rfl
theorem nodesV_snoc (hist:List (List OpP)) (a:Nat) (t:Int) (l:List KeyP) (k:KeyP):nodesV hist a t (l++ [k])=nodesV hist a t l++(if k.kind=1 then [(k.a,saidH hist k a t)] else []):=by
 unfold nodesV
 rw[List.filter_append,List.map_append]
 congr 1
 by_cases h:k.kind=1<;>simp[h]
theorem edgesV_snoc (l:List KeyP) (k:KeyP):edgesV (l++ [k])=edgesV l++(if k.kind=2 then [k] else []):=by
 unfold edgesV
 rw[List.filter_append]
 congr 1
 by_cases h:k.kind=2<;>simp[h]
theorem key_node {k:KeyP} (h:keyB k=true) (hk:k.kind=1):k=⟨1,k.a,⟨#[]⟩,0⟩:=by
 obtain⟨kk,ka,kw,kb⟩:=k
 simp only at hk;subst hk
 unfold keyB at h
 simp only[if_true,Bool.and_eq_true,decide_eq_true_eq] at h
 obtain⟨_,h1,h2⟩:=h
 rw[h2,size0 h1]
theorem key_i64 {k:KeyP} (h:keyB k=true):i64 k.a/\i64 k.b:=⟨(wfkey h).1.2.1,(wfkey h).1.2.2⟩
theorem node_new {l:List KeyP} {k:KeyP} (hp:(l++ [k]).Pairwise fun x y=>keyLess x y=true) (hok: ∀x∈l++ [k],keyB x=true) (hk:k.kind=1) (hist:List (List OpP)) (a:Nat) (t:Int):(nodesV hist a t l).lookup k.a=none:=by
 cases h:(nodesV hist a t l).lookup k.a with
 | none=>rfl
 | some v=>
   exfalso
   have hm:=lookup_mem h
   obtain⟨x,hx,e⟩:=List.mem_map.1 hm
   obtain⟨hx,hx1⟩:=List.mem_filter.1 hx
   have e1:x.a=k.a:=congrArg Prod.fst e
   have e2:=key_node (hok x (by simp[hx])) (by simpa using hx1)
   have e3:=key_node (hok k (by simp)) hk
   have e4:x=k:=by rw[e2,e3,e1]
   have:=(List.pairwise_append.1 hp).2.2 x hx k (by simp)
   rw[e4,keyLess_irrefl] at this
   cases this
theorem lookup_some {α β:Type} [BEq α] [LawfulBEq α] {L:List (α×β)} {x:α}:(L.lookup x).isSome=true↔x∈L.map (·.1):=by
 constructor
 · intro h
   obtain⟨v,hv⟩:=Option.isSome_iff_exists.1 h
   exact List.mem_map.2 ⟨(x,v),lookup_mem hv,rfl⟩
 · intro h
   cases hx:L.lookup x with
   | some v=>rfl
   | none=>
     obtain⟨p,hp,e⟩:=List.mem_map.1 h
     exact absurd e (lookup_no hx p hp)
def goesE (N:List (Int×ByteArray)) (k:KeyP):Bool:= !((N.lookup k.a).isSome && (N.lookup k.b).isSome)
theorem edges_left (hist:List (List OpP)) (a:Nat) (t:Int) (L:List KeyP):((edgesV L).filter fun k=> !goesE (nodesV hist a t L) k)=edgesP L:=by
 unfold edgesV edgesP
 rw[List.filter_filter]
 congr 1
 funext k
 rw[Bool.eq_iff_iff]
 simp only[goesE,Bool.not_not,Bool.and_eq_true,decide_eq_true_eq,lookup_some,nodesV_fst]
 exact⟨fun h=>⟨h.2,h.1⟩,fun h=>⟨h.2,h.1⟩⟩
abbrev PrpOf (D:DataW Unit) (P:List (KeyP×ByteArray)):Prop:=MapOf (fun p:KeyP×ByteArray=>kK p.1) (fun p=>strD p.2) D P
theorem prop_new {l:List KeyP} {k:KeyP} (hp:(l++ [k]).Pairwise fun x y=>keyLess x y=true) (hok: ∀x∈l++ [k],keyB x=true) (hist:List (List OpP)) (a:Nat) (t:Int): ∀y∈propsV hist a t l,kK y.1≠kK k:=fun y hy e=>by
 unfold propsV at hy
 obtain⟨x,hx,rfl⟩:=List.mem_map.1 hy
 have hxl:=(List.mem_filter.1 hx).1
 have e1:=kK_inj (hok x (List.mem_append_left _ hxl)) (hok k (by simp)) e
 have h1:=(List.pairwise_append.1 hp).2.2 x hxl k (by simp)
 rw[e1,keyLess_irrefl] at h1
 cases h1
structure GP (w:World) (gb:Nat) (P:List (KeyP×ByteArray)):Prop where
 own: ∃v0 v1 pb D n,w.heap[gb]? =some (.cells #[v0,v1,.map (some pb)] 187 (0,0))/\w.ownsMap Tryz.prog 97 strR pb n D/\PrpOf D P
 key: ∀p∈P,keyB p.1=true
set_option maxRecDepth 100000 in
set_option maxHeartbeats 4000000 in
theorem at1_any (vb gb nb nn:Nat) (N:List (Int×ByteArray)) (ve pm:Value) (k:KeyP) (X:World) (hv:X.heap[vb]? =some (.cells #[.pointer (some ⟨gb,0,none⟩)] 28 (0,0))) (hg:X.heap[gb]? =some (.cells #[.map (some nb),ve,pm] 187 (0,0))) (hN:IM strR strD X nb nn N) (ha:i64 k.a) (hb:i64 k.b):
  Calls Tryz.prog 120 (#[.agg #[.int .i64 k.kind,.int .i64 k.a,.string k.word,.int .i64 k.b]]++ #[.pointer (some ⟨vb,0,none⟩)]) X fun e X' =>e= .returned (.bool (goesE N k))/\Below X.heap.size X X' :=by
 obtain⟨kk,ka,kw,kb⟩:=k
 simp only at ha hb
 show Calls Tryz.prog 120 #[.agg #[.int .i64 kk,.int .i64 ka,.string kw,.int .i64 kb],.pointer (some ⟨vb,0,none⟩)] X _
 obtain⟨W,hW⟩: ∃W,W=X.alloc (.cells #[.int .i64 kk,.int .i64 ka,.string kw,.int .i64 kb] 97):=⟨_,rfl⟩
 obtain⟨kx,hkx⟩: ∃kx,kx=X.heap.size:=⟨_,rfl⟩
 have hB:Below X.heap.size X W:=by rw[hW];exact(Below.refl _ _).alloc (Nat.le_refl _) _
 have hkb:W.heap[kx]? =some (.cells #[.int .i64 kk,.int .i64 ka,.string kw,.int .i64 kb] 97 (0,0)):=by rw[hW,hkx];exact block_alloc_new _ _
 have hvW:=(hB.block _ (lt_of_block hv)).trans hv
 have hgW:=(hB.block _ (lt_of_block hg)).trans hg
 have hNW:=hN.below hB
 have q0: ∀Y:InC (Bel W),Y.w.cell? ⟨vb,0,none⟩=some (.pointer (some ⟨gb,0,none⟩)):=fun Y=>Y.cell (block_cell hvW 0)
 have q1: ∀Y:InC (Bel W),Y.w.cell? ⟨gb,0,none⟩=some (.map (some nb)):=fun Y=>Y.cell (block_cell hgW 0)
 have q2: ∀Y:InC (Bel W),Y.w.cell? ⟨kx,1,none⟩=some (.int .i64 ka):=fun Y=>Y.cell (block_cell hkb 1)
 have q3: ∀Y:InC (Bel W),Y.w.cell? ⟨kx,3,none⟩=some (.int .i64 kb):=fun Y=>Y.cell (block_cell hkb 3)
 obtain⟨va,hva⟩: ∃va,va=(N.lookup ka).getD ⟨#[]⟩:=⟨_,rfl⟩
 obtain⟨vb',hvb⟩: ∃vb',vb' =(N.lookup kb).getD ⟨#[]⟩:=⟨_,rfl⟩
 have l1: ∀Y:InC (Bel W),(Instr.lookup 184 (.map (some nb)) (.int .i64 ka) true).run Tryz.prog Y.w= .ok (.tuple #[.string va,.bool (N.lookup ka).isSome]) Y.w:=fun Y=>by
  rw[hva];exact(hNW.below Y.ok).look_ok strVT Tryz.underlying184 ⟨#[]⟩ (zeroStrW Y.w) ha
 have l2: ∀Y:InC (Bel W),(Instr.lookup 184 (.map (some nb)) (.int .i64 kb) true).run Tryz.prog Y.w= .ok (.tuple #[.string vb',.bool (N.lookup kb).isSome]) Y.w:=fun Y=>by
  rw[hvb];exact(hNW.below Y.ok).look_ok strVT Tryz.underlying184 ⟨#[]⟩ (zeroStrW Y.w) hb
 have hvl:=lt_of_block hvW
 have hgl:=lt_of_block hgW
 have hkl:=lt_of_block hkb
 have HW:=Lib.hid hW
 have HKX:=Lib.hid hkx
 have HB:=Lib.hid hB
 have hgo:goesE N ⟨kk,ka,kw,kb⟩= !((N.lookup ka).isSome && (N.lookup kb).isSome):=rfl
 rw[hgo]
 generalize (N.lookup ka).isSome=ba at*
 generalize (N.lookup kb).isSome=bb at*
 clear hW hkx hB hkb hvW hgW hNW hv hg hN ha hb hva hvb hgo
 go_enter Tryz.func120,Tryz.ntmps120
 go_upto_region 1 with (rw[<-HW.out, <-HKX.out])
 refine wp_region_in (S:=Bel W) (by kernel_rfl) (by kernel_rfl) (bel_drew (Below.refl _ W)) (fun hne=> ?_)
 repeat (go_big_quiet_step (fail))
 refine wpQuiet_nil ?_
 rintro _ ⟨Y,rfl⟩
 go_wp2_with fail
 refine wp_region_in (S:=Bel W) (by kernel_rfl) (by kernel_rfl) (bel_drew Y.ok) (fun hne=> ?_)
 repeat (go_big_quiet_step (fail))
 refine wpQuiet_nil ?_
 rintro _ ⟨Y2,rfl⟩
 have HY2:=Lib.hid Y2.ok
 cases ba<;>cases bb<;>
  (go_wp2_with fail
   go_ret
   exact⟨rfl,HB.out.trans (HY2.out.mono HB.out.size)⟩)
structure AtS (hist:List (List OpP)) (a:Nat) (t:Int) (w1:World) (nb:Nat) (l:List KeyP) (ve:Value) (X:World):Prop where
 nod:IM strR strD X nb (nodesV hist a t l).length (nodesV hist a t l)
 prp: ∃D n,X.ownsMap Tryz.prog 97 strR (nb+1) n D/\n<=l.length/\PrpOf D (propsV hist a t l)
 blk:X.heap[nb+2]? =some (.cells #[.map (some nb),ve,.map (some (nb+1))] 187 (0,0))
 var:X.heap[nb+3]? =some (.cells #[.pointer (some ⟨nb+2,0,none⟩)] 28 (0,0))
 row:X.ownsRow (nb+4) 97 4 ve (edgesV l).length (flatKeys (edgesV l))
 be:Below w1.heap.size w1 X
theorem AtS.below {hist:List (List OpP)} {a:Nat} {t:Int} {w1:World} {nb:Nat} {l:List KeyP} {ve:Value} {X Y:World} (h:AtS hist a t w1 nb l ve X) (b:Below X.heap.size X Y):AtS hist a t w1 nb l ve Y:=by
 obtain⟨D,n,h1,h2,h3⟩:=h.prp
 exact⟨h.nod.below b,⟨D,n,owns_frame (F:=fun _=>False) h1 (Fr.new b) (fun e=>e),h2,h3⟩,(b.block _ (lt_of_block h.blk)).trans h.blk,(b.block _ (lt_of_block h.var)).trans h.var,ownsRow_below h.row b,h.be.trans (b.mono h.be.size)⟩
theorem AtS.var_lt {hist:List (List OpP)} {a:Nat} {t:Int} {w1:World} {nb:Nat} {l:List KeyP} {ve:Value} {X:World} (h:AtS hist a t w1 nb l ve X):nb+3<X.heap.size:=lt_of_block h.var
theorem AtS.node {hist:List (List OpP)} {a:Nat} {t:Int} {w1:World} {nb:Nat} {l:List KeyP} {ve:Value} {X Y:World} (h:AtS hist a t w1 nb l ve X) (hn:nb=w1.heap.size) {k:KeyP} (hk:k.kind=1) (hf:Fr (· =nb) X Y) (hm:IM strR strD Y nb ((nodesV hist a t l).length+1) (nodesV hist a t l++ [(k.a,saidH hist k a t)])):AtS hist a t w1 nb (l++ [k]) ve Y:=by
 obtain⟨D,n,h1,h2,h3⟩:=h.prp
 have hl:=h.var_lt
 have e1:edgesV (l++ [k])=edgesV l:=by rw[edgesV_snoc,if_neg (by omega),List.append_nil]
 have e3:propsV hist a t (l++ [k])=propsV hist a t l:=by rw[propsV_snoc,if_neg (by omega),List.append_nil]
 refine⟨?_,⟨D,n,owns_frame h1 hf (by omega),by simp;omega,by rw[e3];exact h3⟩,hf.keeps h.blk (by omega),hf.keeps h.var (by omega),?_,h.be.trans (hf.below (fun k _ e=>by omega) (by omega))⟩
 · rw[nodesV_snoc,if_pos hk,List.length_append];exact hm
 · rw[e1];exact ownsRow_frame h.row hf (fun g hg e=>by omega)
theorem AtS.prop {hist:List (List OpP)} {a:Nat} {t:Int} {w1:World} {nb:Nat} {l:List KeyP} {ve:Value} {X Y:World} (h:AtS hist a t w1 nb l ve X) (hn:nb=w1.heap.size) {k:KeyP} (hk:k.kind=3) (hf:Fr (· =nb+1) X Y) {D:DataW Unit} {n:Nat} (hm:Y.ownsMap Tryz.prog 97 strR (nb+1) n D) (hnl:n<=l.length+1) (hD:PrpOf D (propsV hist a t (l++ [k]))):AtS hist a t w1 nb (l++ [k]) ve Y:=by
 have hl:=h.var_lt
 have e1:edgesV (l++ [k])=edgesV l:=by rw[edgesV_snoc,if_neg (by omega),List.append_nil]
 have e2:nodesV hist a t (l++ [k])=nodesV hist a t l:=by rw[nodesV_snoc,if_neg (by omega),List.append_nil]
 refine⟨?_,⟨D,n,hm,by simpa using hnl,hD⟩,hf.keeps h.blk (by omega),hf.keeps h.var (by omega),?_,h.be.trans (hf.below (fun k _ e=>by omega) (by omega))⟩
 · rw[e2];exact h.nod.frame hf (by omega)
 · rw[e1];exact ownsRow_frame h.row hf (fun g hg e=>by omega)
theorem AtS.noth {hist:List (List OpP)} {a:Nat} {t:Int} {w1:World} {nb:Nat} {l:List KeyP} {ve:Value} {X:World} (h:AtS hist a t w1 nb l ve X) {k:KeyP} (h1:k.kind≠1) (h2:k.kind≠2) (h3:k.kind≠3):AtS hist a t w1 nb (l++ [k]) ve X:=by
 obtain⟨D,n,p1,p2,p3⟩:=h.prp
 have e1:edgesV (l++ [k])=edgesV l:=by rw[edgesV_snoc,if_neg h2,List.append_nil]
 have e2:nodesV hist a t (l++ [k])=nodesV hist a t l:=by rw[nodesV_snoc,if_neg h1,List.append_nil]
 have e3:propsV hist a t (l++ [k])=propsV hist a t l:=by rw[propsV_snoc,if_neg h3,List.append_nil]
 refine⟨?_,⟨D,n,p1,by simp;omega,by rw[e3];exact p3⟩,h.blk,h.var,?_,h.be⟩
 · rw[e2];exact h.nod
 · rw[e1];exact h.row
theorem AtS.edge {hist:List (List OpP)} {a:Nat} {t:Int} {w1:World} {nb:Nat} {l:List KeyP} {ve v8:Value} {X Y:World} (h:AtS hist a t w1 nb l ve X) (hn:nb=w1.heap.size) {k:KeyP} (hk:k.kind=2) (hb:Below (nb+4) X Y) (hrow:Y.ownsRow (nb+4) 97 4 v8 (edgesV l++ [k]).length (flatKeys (edgesV l++ [k]))):AtS hist a t w1 nb (l++ [k]) v8 (Y.setCell ⟨nb+2,1,none⟩ v8):=by
 obtain⟨D,n,p1,p2,p3⟩:=h.prp
 have e3:propsV hist a t (l++ [k])=propsV hist a t l:=by rw[propsV_snoc,if_neg (by omega),List.append_nil]
 have hl:=h.var_lt
 have hsz:=hb.size
 have e1:edgesV (l++ [k])=edgesV l++ [k]:=by rw[edgesV_snoc,if_pos hk]
 have e2:nodesV hist a t (l++ [k])=nodesV hist a t l:=by rw[nodesV_snoc,if_neg (by omega),List.append_nil]
 have f1:Fr (fun k=>nb+4<=k) X Y:=Fr.ofBelow hb
 have f2:Fr (· =nb+2) Y (Y.setCell ⟨nb+2,1,none⟩ v8):=Fr.setCell (F:=(· =nb+2)) (p:=⟨nb+2,1,none⟩) (Fr.refl _ Y) (fun _=>rfl) v8
 have hblk:Y.heap[nb+2]? =_:=f1.keeps h.blk (by omega)
 refine⟨?_,⟨D,n,owns_frame (owns_frame p1 f1 (by omega)) f2 (by omega),by simp;omega,by rw[e3];exact p3⟩,?_,f2.keeps (f1.keeps h.var (by omega)) (by omega),?_,(h.be.trans (hb.mono (by omega))).setCell (by show w1.heap.size<=nb+2;omega) _⟩
 · rw[e2];exact(h.nod.frame f1 (by omega)).frame f2 (by omega)
 · have:=block_set hblk 1 v8
   simpa using this
 · rw[e1];exact ownsRow_frame hrow f2 (fun g hg e=>by omega)
theorem AtS.cut {hist:List (List OpP)} {a:Nat} {t:Int} {w1:World} {nb:Nat} {l:List KeyP} {ve:Value} {X Y:World} (h:AtS hist a t w1 nb l ve X) (hb:Below (nb+4) X Y):IM strR strD Y nb (nodesV hist a t l).length (nodesV hist a t l)/\Y.heap[nb+2]? =some (.cells #[.map (some nb),ve,.map (some (nb+1))] 187 (0,0))/\Y.heap[nb+3]? =some (.cells #[.pointer (some ⟨nb+2,0,none⟩)] 28 (0,0)):=by
 have f1:Fr (fun k=>nb+4<=k) X Y:=Fr.ofBelow hb
 exact⟨h.nod.frame f1 (by omega),f1.keeps h.blk (by omega),f1.keeps h.var (by omega)⟩
theorem nodesP_nodup {L:List KeyP} (hp:L.Pairwise fun x y=>keyLess x y=true) (hok: ∀x∈L,keyB x=true):(nodesP L).Nodup:=by
 unfold nodesP
 rw[List.Nodup,List.pairwise_map]
 refine(hp.filter _).imp_of_mem fun {x y} hx hy hxy e=> ?_
 obtain⟨hx,hx1⟩:=List.mem_filter.1 hx
 obtain⟨hy,hy1⟩:=List.mem_filter.1 hy
 have e2:=key_node (hok x hx) (by simpa using hx1)
 have e3:=key_node (hok y hy) (by simpa using hy1)
 have e4:x=y:=by rw[e2,e3,e]
 rw[e4,keyLess_irrefl] at hxy
 cases hxy
theorem edgesP_len (L:List KeyP):(edgesP L).length<=L.length:=List.length_filter_le _ _
theorem edgesV_len (L:List KeyP):(edgesV L).length<=L.length:=List.length_filter_le _ _
theorem nodesV_len (hist:List (List OpP)) (a:Nat) (t:Int) (L:List KeyP):(nodesV hist a t L).length<=L.length:=by unfold nodesV;rw[List.length_map];exact List.length_filter_le _ _
theorem stepKey {W:World} {ops:Array Oper} {o:Oper} {a:Act} {K:Act->World->Prop} {Q:Exit->Act->World->Prop} {E:Prop} (hgd:o.guard=none) (s x:Operand)
  (ho:o.op= .call { callee:= .builtin .append,args:= #[s,x],argTypes:= #[51,51] }) (base:Nat) (v:Value) (l:List KeyP) (hs:a.eval s=v) (hown:W.ownsRow base 97 4 v l.length (flatKeys l))
  (b:Nat) (p:KeyP) (hx:a.eval x= .slice (some ⟨b,0,none⟩) 1 1) (hc0:W.cell? ⟨b,0,none⟩=some (.int .i64 p.kind)) (hc1:W.cell? ⟨b,1,none⟩=some (.int .i64 p.a)) (hc2:W.cell? ⟨b,2,none⟩=some (.string p.word)) (hc3:W.cell? ⟨b,3,none⟩=some (.int .i64 p.b))
  (hbytes:(l.length+1)*40<=140737488355328) (hbase:base<=W.heap.size) (w0:World) (hB:Below base w0 W)
  (h: ∀v' w',w'.ownsRow base 97 4 v' (l++ [p]).length (flatKeys (l++ [p]))->Below base w0 w' ->W.heap.size<=w'.heap.size->(∃g cap,v' = .slice (some ⟨g,0,none⟩) (l.length+1) cap)->K (a.put o.dst v') w'):if Region.wanted o (yielded ops a.tmps)=true then Oper.wp Tryz.prog o a W K Q else E:=by
 have hw:Region.wanted o (yielded ops a.tmps)=true:=by simp[Region.wanted,hgd]
 rw[if_pos hw]
 obtain⟨i0,hi,hz0,hz1,hz2⟩:=info_parts infoKey
 refine wp_append_own _ s x 51 ho base 97 i0 _ 4 _ Tryz.underlying51 hi hz0 hz1 hz2 rfl (by decide) v l.length (flatKeys l) hs hown ⟨b,0,none⟩ 1 1 (encK p) hx rfl (fun j u hu=> ?_) (fun u hu=> ?_) (by unfold maxLen;omega) hbytes hbase ?_
 · have: ∀k,(⟨b,0,none⟩:Addr).add k=⟨b,k,none⟩:=fun k=>by unfold Addr.add;split<;>simp_all
   rw[this]
   match j,hu with
   | 0,hu=>simp[encK] at hu;subst hu;exact hc0
   | 1,hu=>simp[encK] at hu;subst hu;exact hc1
   | 2,hu=>simp[encK] at hu;subst hu;exact hc2
   | 3,hu=>simp[encK] at hu;subst hu;exact hc3
 · simp[encK] at hu;rcases hu with rfl|rfl|rfl|rfl<;>rfl
 · intro v' w' h2 h3 _
   refine h v' w' ?_ (hB.grown h3 hbase fun q hq=>(hown.lt q hq).1) h3.size (ownsRow_succ h2)
   rw[flatKeys_append,List.length_append];exact h2
theorem own_shape {w:World} {base:Nat} {e:TypeId} {size:Nat} {v:Value} {n:Nat} {xs:List Value} (h:w.ownsRow base e size v n xs): ∃ao c,v= .slice ao n c/\(∀p,ao=some p-> ∃b,p=⟨b,0,none⟩)/\(ao=none->n=0):=by
 rcases h.2 with ⟨rfl,hn⟩|⟨g,cap,cur,rfl,_⟩
 · subst hn;exact⟨none,0,rfl,fun p e=>(by cases e),fun _=>rfl⟩
 · exact⟨some ⟨g,0,none⟩,cap,rfl,fun p e=>(by cases e;exact⟨g,rfl⟩),fun e=>(by cases e)⟩
structure NewG (w:World) (gb nb:Nat) (eo:Option Addr) (w' :World):Prop where
 g:w.heap.size<=gb
 n:w.heap.size<=nb
 e: ∀b,eo=some ⟨b,0,none⟩->w.heap.size<=b
 p: ∀b v0 v1,w'.heap[gb]? =some (.cells #[v0,v1,.map (some b)] 187 (0,0))->w.heap.size<=b
 l: ∀b,eo=some ⟨b,0,none⟩->b<w'.heap.size
set_option maxRecDepth 100000 in
set_option maxHeartbeats 8000000 in
theorem at_full (a:Nat) (t:Int) (pb po:Nat) (R:Rest) (hist:List (List OpP)) (s:Pst) (g:Gh) (w:World) (h:PastIs w pb po R hist s g) (hok: ∀l∈hist,l.all opB=true) (ht:timeB t=true) (h1:s.gone<=a) (h2:a<=hist.length):
  Calls Tryz.prog 56 #[.pointer (some ⟨pb,po,none⟩),.int .i64 (a:Nat),.int .i64 t] w fun e w' => ∃gb nb eo L,e= .returned (.tuple #[.pointer (some ⟨gb,0,none⟩),.nilIface])/\KeysIs hist a t L/\(∀k∈L,keyB k=true)/\GAt w' gb nb eo (nodesV hist a t L) (edgesP L)/\GP w' gb (propsV hist a t L)/\Below w.heap.size w w' /\NewG w gb nb eo w' :=by
 have hmm:= @run_makeMap Tryz.prog
 have hmf: ∀(fn:Fn) (first cap:Array Value) (w:World),(Instr.makeFunc fn first cap).run Tryz.prog w= .ok (.func fn first cap) w:=fun _ _ _ _=>rfl
 have HK:=Lib.hid (keys_is a t pb po R hist s g w h hok ht h1 h2)
 have HV:=Lib.hid fun(X:World) (hX:Below w.heap.size w X) (k:KeyP) (hk:keyB k=true)=>value_is k a t pb po R hist s g X (h.below hX) hk ht h1 h2
 clear h hok ht h1 h2
 go_enter Tryz.func56,Tryz.ntmps56
 go_wp2_with fail
 refine HK.out.mono ?_
 rintro e w1 ⟨v,L,rfl,hKI,hkB,hll,hown,hb⟩
 obtain⟨lo,lc,rfl,hin⟩:=ownsRow_keysIn hown
 have HKI:=Lib.hid hKI
 have HKB:=Lib.hid hkB
 have HIN:=Lib.hid hin
 have HB:=Lib.hid hb
 obtain⟨nb,hnb⟩: ∃nb,nb=w1.heap.size:=⟨_,rfl⟩
 obtain⟨V,hV⟩: ∃V,V=(((w1.alloc (.map #[] 0)).alloc (.map #[] 0)).alloc (.cells #[.map (some nb),.slice none 0 0,.map (some (nb+1))] 187)).alloc (.cells #[.pointer (some ⟨nb+1+1,0,none⟩)] 28):=⟨_,rfl⟩
 have hA0:AtS hist a t w1 nb [] (.slice none 0 0) V:=by
  have m1:(w1.alloc (.map #[] 0)).ownsMap Tryz.prog 3 strR nb 0 (.map []):=by rw[hnb];exact World.ownsMap_made _ _ _ _
  have m2:((w1.alloc (.map #[] 0)).alloc (.map #[] 0)).ownsMap Tryz.prog 97 strR (nb+1) 0 (.map []):=by
   have:=World.ownsMap_made (w1.alloc (.map #[] 0)) Tryz.prog 97 strR
   rw[World.size_alloc, <-hnb] at this;exact this
  have s1:(w1.alloc (.map #[] 0)).heap.size=nb+1:=by rw[World.size_alloc, <-hnb]
  have s2:((w1.alloc (.map #[] 0)).alloc (.map #[] 0)).heap.size=nb+2:=by rw[World.size_alloc,s1]
  obtain⟨W2,hW2⟩: ∃W2,W2=(w1.alloc (.map #[] 0)).alloc (.map #[] 0):=⟨_,rfl⟩
  rw[<-hW2] at hV m2 s2
  have bV:Below W2.heap.size W2 V:=by rw[hV];exact((Below.refl _ _).alloc (Nat.le_refl _) _).alloc (by simp) _
  have b12:Below (nb+1) (w1.alloc (.map #[] 0)) W2:=by rw[hW2];exact(Below.refl _ _).alloc (by omega) _
  have b2:Below w1.heap.size w1 W2:=by rw[hW2];exact((Below.refl _ _).alloc (Nat.le_refl _) _).alloc (by simp) _
  have s3:(W2.alloc (.cells #[.map (some nb),.slice none 0 0,.map (some (nb+1))] 187)).heap.size=nb+3:=by rw[World.size_alloc,s2]
  refine⟨?_,⟨.map [],0,owns_frame (F:=fun _=>False) m2 (Fr.new bV) (fun e=>e),Nat.zero_le _,mapOf_nil⟩,?_,?_,World.ownsRow_nil _ _ _ _,b2.trans (bV.mono b2.size)⟩
  · exact⟨fun p hp=>by simp[nodesV] at hp,.map [],owns_frame (F:=fun _=>False) (owns_frame m1 (Fr.ofBelow b12) (by omega)) (Fr.new bV) (fun e=>e),mapOf_nil⟩
  · rw [hV]
    have:=block_alloc_new W2 (.cells #[.map (some nb),.slice none 0 0,.map (some (nb+1))] 187)
    rw[s2] at this
    exact(((Below.refl _ _).alloc (Nat.le_refl _) _).block _ (by omega)).trans this
  · rw [hV]
    have:=block_alloc_new (W2.alloc (.cells #[.map (some nb),.slice none 0 0,.map (some (nb+1))] 187)) (.cells #[.pointer (some ⟨nb+1+1,0,none⟩)] 28)
    rw[s3] at this
    exact this
 have HV0:=Lib.hid hV
 have HNB:=Lib.hid hnb
 have HA0:=Lib.hid hA0
 clear hKI hkB hin hb hown HK hV hnb hA0
 go_upto_region 5 with fail
 rw[<-HNB.out, <-HV0.out]
 go_wp2_with fail
 go_loopw [31] (fun vi X=> ∃(i:Nat) (ve:Value),i<=L.length/\vi= .int .i64 i/\AtS hist a t w1 nb (L.take i) ve X) (fun vi _=>L.length-(intOf vi).toNat)
 case atStart=>exact⟨0,_,Nat.zero_le _,rfl,HA0.out⟩
 case round=>
  clear HA0 HV0
  obtain⟨i,ve,hi,rfl,hA⟩:=hrel
  by_cases hlt:i<L.length
  · obtain⟨eb,k,rfl,hk,hebl,d0,d1,d2,d3⟩:=keysIn_get (HIN.out.below hA.be) hlt
    have hkB:=HKB.out k (List.mem_of_getElem? hk.out)
    have hst:L.take (i+1)=L.take i++ [k]:=by rw[List.take_add_one,hk.out];rfl
    obtain⟨W4,hW4⟩: ∃W4,W4=wr.alloc (.cells #[.int .i64 k.kind,.int .i64 k.a,.string k.word,.int .i64 k.b] 97):=⟨_,rfl⟩
    have hB4:Below wr.heap.size wr W4:=by rw[hW4];exact(Below.refl _ _).alloc (Nat.le_refl _) _
    obtain⟨kx,hkx⟩: ∃kx,kx=wr.heap.size:=⟨_,rfl⟩
    have hkb:W4.heap[kx]? =some (.cells #[.int .i64 k.kind,.int .i64 k.a,.string k.word,.int .i64 k.b] 97 (0,0)):=by rw[hW4,hkx];exact block_alloc_new _ _
    have k0:W4.cell? ⟨kx,0,none⟩=some (.int .i64 k.kind):=block_cell hkb 0
    have k1:W4.cell? ⟨kx,1,none⟩=some (.int .i64 k.a):=block_cell hkb 1
    have k2:W4.cell? ⟨kx,2,none⟩=some (.string k.word):=block_cell hkb 2
    have k3:W4.cell? ⟨kx,3,none⟩=some (.int .i64 k.b):=block_cell hkb 3
    have hkl:kx<W4.heap.size:=lt_of_block hkb
    have hA4:=hA.below hB4
    have hvl:=hA.var_lt
    have hc:=HV.out W4 (HB.out.trans (hA4.be.mono HB.out.size)) k hkB
    obtain⟨sx,hsx⟩: ∃sx,sx=saidH hist k a t:=⟨_,rfl⟩
    rw[<-hsx] at hc
    have hil:(L.take i).length=i:=by rw[List.length_take];omega
    have hkxv:nb+3<kx:=by omega
    have j0:(0:Int)<=(i:Int):=by omega
    have j1:(i:Int)<(L.length:Int):=by omega
    have HW4:=Lib.hid hW4
    have HKX:=Lib.hid hkx
    have HSX:=Lib.hid hsx
    have HST:=Lib.hid hst
    have HA4:=Lib.hid hA4
    have HKBB:=Lib.hid hkB
    have HNN:=Lib.hid fun(h1:k.kind=1)=>node_new (l:=L.take i) (k:=k) (by rw[<-hst];exact HKI.out.1.sublist (List.take_sublist _ _)) (fun x hx=>HKB.out x (List.mem_of_mem_take (by rw[<-hst] at hx;exact hx))) h1 hist a t
    have HPN:=Lib.hid (prop_new (l:=L.take i) (k:=k) (by rw[<-hst];exact HKI.out.1.sublist (List.take_sublist _ _)) (fun x hx=>HKB.out x (List.mem_of_mem_take (by rw[<-hst] at hx;exact hx))) hist a t)
    clear hW4 hkx hsx hst hA4 hkB hB4 hkb hk hA
    obtain⟨kk,ka,kw,kb⟩:=k
    simp only[] at d0 d1 d2 d3 k0 k1 k2 k3 hc
    have HC:=Lib.hid hc
    clear hc
    go_upto_region 10 with (first|(rw[<-HW4.out, <-HKX.out])|(go_at_call 118;(with_reducible refine HC.out.mono ?_);rintro e W5 ⟨rfl,b5⟩;have B5:=Lib.hid b5;have HA5:=Lib.hid (HA4.out.below b5);have n0:=below_cell b5 hkl k0;have n1:=below_cell b5 hkl k1;have n2:=below_cell b5 hkl k2;have n3:=below_cell b5 hkl k3;have hkl5:=Nat.lt_of_lt_of_le hkl b5.size;clear b5))
    have hS4:=HA5.out.cut (Below.refl _ _)
    have v0:W5.cell? ⟨nb+1+1+1,0,none⟩=some (.pointer (some ⟨nb+1+1,0,none⟩)):=block_cell hS4.2.2 0
    have g0:W5.cell? ⟨nb+1+1,0,none⟩=some (.map (some nb)):=block_cell hS4.2.1 0
    have g1:W5.cell? ⟨nb+1+1,1,none⟩=some ve:=block_cell hS4.2.1 1
    have g2:W5.cell? ⟨nb+1+1,2,none⟩=some (.map (some (nb+1))):=block_cell hS4.2.1 2
    have gf:W5.frozen? ⟨nb+1+1,1,none⟩=false:=block_free hS4.2.1 1
    have hgl:nb+1+1<W5.heap.size:=by have:=HA5.out.var_lt;omega
    have hrow:=HA5.out.row
    have hvl5:=HA5.out.var_lt
    have hnl:=nodesV_len hist a t (L.take i)
    have hel:=edgesV_len (L.take i)
    rw[hil] at hnl hel
    clear hS4 k0 k1 k2 k3 d0 d1 d2 d3 HIN HV HW4 HC
    by_cases e1:kk=1
    · subst e1
      have HN:=Lib.hid (HNN.out rfl)
      obtain⟨hr,D,hown,hD⟩:=HA5.out.nod
      have hka:=(key_i64 HKBB.out).1
      have HPUT:=Lib.hid fun(w' :World) (ho:w'.ownsMap Tryz.prog 3 strR nb ((nodesV hist a t (L.take i)).length+1) (D.put (kI ka) (strD sx)))=>IM.put hr hD hka HN.out ho
      have HKA:=Lib.hid hka
      have HOWN:=Lib.hid hown
      clear hr hD hown hka hrow g1 g2 gf
      generalize hn5:(nodesV hist a t (L.take i)).length=nl at*
      have HN5:=Lib.hid hn5
      clear hn5
      go_wp2_with fail
      obtain⟨W6,hW6⟩: ∃W6,W6=W5.drew:=⟨_,rfl⟩
      refine wp_region_tail 7 (by kernel_rfl) (by kernel_rfl) ?_
      simp only[List.take_succ_cons,List.take_zero,List.drop_succ_cons,List.drop_zero]
      repeat still_step
      refine wpStill_nil ?_
      go_wp2_with (at_mapUpdate;refine wpList_mapUpdate_own _ rfl _ _ _ 184 rfl 3 9 intLaw Tryz.underlying184 strR nb nl D rfl (World.ownsMap.drew HOWN.out) (by unfold maxLen;omega) _ _ _ rfl rfl (keyOf_int_mk Tryz.underlying3 (wfI HKA.out)) (strD sx) [] (strVT.put sx) ?_;intro w7 hown7 hg7;have HIM7:=Lib.hid (HPUT.out w7 hown7);have HF7:=Lib.hid ((Fr.drew (Fr.refl (· =nb) W5)).trans (Fr.ofGrown hg7));clear hown7 hg7)
      refine⟨⟨i+1,ve,by omega,by go_num,?_⟩,by simp[intOf];omega⟩
      rw[HST.out]
      exact HA5.out.node HNB.out rfl HF7.out (by rw[HN5.out, <-HSX.out];exact HIM7.out)
    · by_cases e3:kk=3
      · subst e3
        obtain⟨D,nl,hown,hnl',hDP⟩:=HA5.out.prp
        rw[hil] at hnl'
        have HOWN:=Lib.hid hown
        have HDP:=Lib.hid ((hDP.put ((⟨3,ka,kw,kb⟩:KeyP),sx) (kK_key _) HPN.out).perm (List.perm_append_comm (l₁:= [((⟨3,ka,kw,kb⟩:KeyP),sx)]) (l₂:=propsV hist a t (L.take i))))
        clear hDP hown hrow g0 g1 gf e1 hnl hel
        go_wp2_with fail
        refine wp_region_tail 6 (by kernel_rfl) (by kernel_rfl) ?_
        simp only[List.take_succ_cons,List.take_zero,List.drop_succ_cons,List.drop_zero]
        repeat still_step
        refine wpStill_nil ?_
        go_wp2_with (at_mapUpdate;refine wpList_mapUpdate_own _ rfl _ _ _ 185 rfl 97 9 keyLaw Tryz.underlying185 strR (nb+1) nl D rfl (World.ownsMap.drew HOWN.out) (by unfold maxLen;omega) _ _ _ rfl rfl (keyOf_key HKBB.out) (strD sx) [] (strVT.put sx) ?_;intro w7 hown7 hg7;have HO7:=Lib.hid hown7;have HF7:=Lib.hid ((Fr.drew (Fr.refl (· =nb+1) W5)).trans (Fr.ofGrown hg7));clear hown7 hg7)
        refine⟨⟨i+1,ve,by omega,by go_num,?_⟩,by simp[intOf];omega⟩
        rw[HST.out]
        exact HA5.out.prop HNB.out rfl HF7.out HO7.out (by omega) (by rw[propsV_snoc,if_pos rfl, <-HSX.out];exact HDP.out)
      · by_cases e2:kk=2
        · subst e2
          have HROW:=Lib.hid hrow
          generalize hE:edgesV (L.take i)=E at*
          have HE:=Lib.hid hE
          obtain⟨va,vn,vc,hv⟩:=ownsRow_shapeK hrow
          subst hv
          have q0:=Lib.hid (Below.refl W5.heap.size W5).drew
          have hg5:nb+1+1+1<W5.heap.size:=by omega
          clear hrow hE e1 e3 g0 g2 hnl
          go_wp2_with fail
          have hv4:nb+4<=W5.heap.size:=by omega
          go_region_law
           ((refine stepKey rfl _ _ rfl (nb+4) _ E rfl (ownsRow_below HROW.out (q0.out.alloc q0.out.size _)) W5.heap.size ⟨2,ka,kw,kb⟩ rfl (by simp) (by simp) (by simp) (by simp) (by omega) (by simp;omega) W5 ((q0.out.mono hv4).alloc hv4 _) ?_;intro v8 w8 hown8 hB8 hs8 hv8;obtain⟨g8,c8,rfl⟩:=hv8;have hC8:=HA5.out.cut hB8;have p0:w8.cell? ⟨nb+1+1+1,0,none⟩=some (.pointer (some ⟨nb+1+1,0,none⟩)):=block_cell hC8.2.2 0;have p1:w8.cell? ⟨nb+1+1,1,none⟩=some (.slice va vn vc):=block_cell hC8.2.1 1;have p2:w8.frozen? ⟨nb+1+1,1,none⟩=false:=block_free hC8.2.1 1;have hgl8:nb+1+1<w8.heap.size:=World.block_lt_of_cell? _ _ p1;have HO8:=Lib.hid hown8;have HB8:=Lib.hid hB8;clear hown8 hB8 hC8))
          all_goals
           clear HA4 v0 g1 gf n0 n1 n2 n3 p0 p1 p2
           go_wp2_with fail
           refine⟨⟨i+1,.slice (some ⟨g8,0,none⟩) (E.length+1) c8,by omega,by go_num,?_⟩,by simp[intOf];omega⟩
           rw[HST.out]
           exact HA5.out.edge HNB.out rfl HB8.out (by rw[HE.out];exact HO8.out)
        · clear g0 g1 g2 gf hrow hnl hel v0
          go_wp2_with fail
          refine⟨⟨i+1,ve,by omega,by go_num,?_⟩,by simp[intOf];omega⟩
          rw[HST.out]
          exact HA5.out.noth e1 e2 e3
  · obtain rfl:i=L.length:=by omega
    rw[List.take_of_length_le (Nat.le_refl _)] at hA
    have hS:=hA.cut (Below.refl _ _)
    have v0:wr.cell? ⟨nb+1+1+1,0,none⟩=some (.pointer (some ⟨nb+1+1,0,none⟩)):=block_cell hS.2.2 0
    have g1:wr.cell? ⟨nb+1+1,1,none⟩=some ve:=block_cell hS.2.1 1
    obtain⟨va,vn,vc,hv⟩:=ownsRow_shapeK hA.row
    subst hv
    have hvl:=hA.var_lt
    have hv4:nb+4<=wr.heap.size:=by omega
    have hel:=edgesV_len L
    have hD0:=fun(X:World) (hX:Below wr.heap.size wr X)=>delKeys_any (nb+4) 120 #[.pointer (some ⟨nb+1+1+1,0,none⟩)] (goesE (nodesV hist a t L)) (fun _ _=>by kernel_rfl) (.slice va vn vc) (edgesV L) X (ownsRow_below hA.row hX) (by have:=hX.size;omega) (by omega) (fun Y k hk hY=>by
     have hc:=hA.cut ((hX.mono hv4).trans hY)
     have hkk:=key_i64 (HKB.out k (List.mem_filter.1 hk).1)
     exact at1_any _ _ _ _ _ _ _ k Y hc.2.2 hc.2.1 hc.1 hkk.1 hkk.2)
    rw[edges_left] at hD0
    have HD:=Lib.hid hD0
    have q0:=Lib.hid (Below.refl wr.heap.size wr).drew
    have HA:=Lib.hid hA
    have hEl:=edgesP_len L
    generalize hE:edgesP L=E at*
    have HE:=Lib.hid hE
    clear hA hS hD0 hE
    go_wp2_with fail
    go_region_with
     ((go_at_call 119;(with_reducible refine(HD.out _ q0.out).mono ?_);rintro e w8 ⟨v8,rfl,hown8,hB8⟩;have HB8:=Lib.hid ((q0.out.mono hv4).trans hB8);obtain⟨a8,c8,rfl,hsh8,hnn8⟩:=own_shape hown8;have HSH:=Lib.hid hsh8;have HNN:=Lib.hid hnn8;clear hsh8 hnn8;have HO8:=Lib.hid hown8;have hC8:=HA.out.cut HB8.out;have p0:w8.cell? ⟨nb+1+1+1,0,none⟩=some (.pointer (some ⟨nb+1+1,0,none⟩)):=block_cell hC8.2.2 0;have p1:w8.cell? ⟨nb+1+1,1,none⟩=some (.slice va vn vc):=block_cell hC8.2.1 1;have p2:w8.frozen? ⟨nb+1+1,1,none⟩=false:=block_free hC8.2.1 1;have hgl8:nb+1+1<w8.heap.size:=World.block_lt_of_cell? _ _ p1;clear hown8 hB8 hC8))
    all_goals
     clear v0 g1 p1 p2
     go_wp2_with fail
     go_ret2
     have hC8:=HA.out.cut HB8.out
     have f2:Fr (· =nb+1+1) w8 (w8.setCell ⟨nb+1+1,1,none⟩ (.slice a8 E.length c8)):=Fr.setCell (F:=(· =nb+1+1)) (p:=⟨nb+1+1,1,none⟩) (Fr.refl _ w8) (fun _=>rfl) _
     have hb:(w8.setCell ⟨nb+1+1,1,none⟩ (.slice a8 E.length c8)).heap[nb+1+1]? =some (.cells #[.map (some nb),.slice a8 E.length c8,.map (some (nb+1))] 187 (0,0)):=by
      have:=block_set hC8.2.1 1 (.slice a8 E.length c8)
      simpa using this
     refine⟨nb+1+1,nb,a8,L,rfl,HKI.out,HKB.out,⟨⟨c8,some (nb+1),by rw[HE.out];exact hb⟩,⟨_,hC8.1.frame f2 (by omega)⟩,?_,?_,?_,?_,HSH.out,?_,?_⟩,?_,?_,?_⟩
     · obtain⟨ao,cp,e,hin⟩:=ownsRow_keysIn (ownsRow_frame HO8.out f2 (fun g hg e=>by omega))
       cases e
       rw[HE.out];exact hin
     · rw[HE.out];omega
     · intro k hk
       exact key_i64 (HKB.out k (List.mem_filter.1 hk).1)
     · intro e
       rw[HE.out]
       exact List.eq_nil_of_length_eq_zero (HNN.out e)
     · rw[nodesV_fst];exact nodesP_nodup HKI.out.1 HKB.out
     · have:=nodesV_len hist a t L;omega
     · obtain⟨D,n,p1,_,p3⟩:=HA.out.prp
       refine⟨⟨_,_,nb+1,D,n,hb,owns_frame (owns_frame p1 (Fr.ofBelow HB8.out) (by omega)) f2 (by omega),p3⟩,fun p hp=> ?_⟩
       unfold propsV at hp
       obtain⟨x,hx,rfl⟩:=List.mem_map.1 hp
       exact HKB.out x ((List.mem_filter.1 hx).1)
     · refine(HB.out.trans ((HA.out.be.trans (HB8.out.mono (by have:=HNB.out;omega))).mono HB.out.size)).setCell (p:=⟨nb+1+1,1,none⟩) ?_ _
       have:=HB.out.size
       have:=HNB.out
       show w.heap.size<=nb+1+1
       omega
     · have h1:=HB.out.size
       have h2:=HNB.out
       refine⟨by omega,by omega,fun b e=> ?_,fun b v0 v1 e=> ?_,fun b e=> ?_⟩
       · subst e
         have:=own_base HO8.out
         omega
       · rw [hb] at e
         injection e with e
         injection e with e
         have e2:=congrArg (fun c:Array Value=>c[2]?) e
         simp at e2
         omega
       · subst e
         exact Nat.lt_of_lt_of_le (HO8.out.lt b rfl).2 f2.size
end Go.Proofs.YtpgkjnebklknjaaGreatDoor
