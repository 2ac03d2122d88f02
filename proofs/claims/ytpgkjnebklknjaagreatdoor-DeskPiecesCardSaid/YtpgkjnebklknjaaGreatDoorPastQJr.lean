/-Plain law,no program in it:pieces of a function of times;put together;what is told of a key by versions:a value,pieces,all values,the keys. -/
import Derived.Test.YtpgkjnebklknjaaGreatDoorRowJr
import Derived.Test.YtpgkjnebklknjaaGreatDoorFactMJr
import Derived.Test.YtpgkjnebklknjaaGreatDoorTreeRJr
namespace Go.Proofs.YtpgkjnebklknjaaGreatDoor
open Go.RowKit Go.Shelf
def part1 (f t:Int):List (Int×Int):=if f<t then [(f,t)] else []
def lessParts (a b c d:Int):List (Int×Int):=part1 a (imin b c)++part1 (imax a d) b
def lessL (a b c d:Int):List (Int×Int):=if ¬imax a c<imin b d/\a<b then [(a,b)] else lessParts a b c d
theorem part1_le (f t:Int):(part1 f t).length<=1:=by unfold part1;split<;>simp
theorem lessL_le (a b c d:Int):(lessL a b c d).length<=2:=by
 unfold lessL lessParts;split
 · simp
 · have:=part1_le a (imin b c);have:=part1_le (imax a d) b;simp only[List.length_append];omega
theorem lessArr (x y z u:Int): ∀w,(Instr.index 341 (.agg #[.int .i64 x,.int .i64 y,.int .i64 z,.int .i64 u]) (.int .i64 0)).run Tryz.prog w= .ok (.agg #[.int .i64 x,.int .i64 y]) w∧
  (Instr.index 341 (.agg #[.int .i64 x,.int .i64 y,.int .i64 z,.int .i64 u]) (.int .i64 1)).run Tryz.prog w= .ok (.agg #[.int .i64 z,.int .i64 u]) w:=fun w=>⟨by kernel_rfl,by kernel_rfl⟩
theorem ownsSpan1 (w:World) (base:Nat) (f t:Int) (g:Nat) (hg:g=w.heap.size) (hb:base<=w.heap.size):(w.alloc (.cells #[.int .i64 f,.int .i64 t] 107)).ownsRow base 107 2 (.slice (some ⟨g,0,none⟩) 1 1) [(f,t)].length (flat [(f,t)]):=by
 subst hg;exact World.ownsRow_lit w #[.int .i64 f,.int .i64 t] 1 hb (by decide) rfl
set_option maxRecDepth 100000 in
theorem less_any (a b c d:Int) (w:World):
  Calls Tryz.prog 228 #[.agg #[.int .i64 a,.int .i64 b],.agg #[.int .i64 c,.int .i64 d]] w fun e w' =>
   ∃v,e= .returned v/\w'.ownsRow w.heap.size 107 2 v (lessL a b c d).length (flat (lessL a b c d))/\Below w.heap.size w w' :=by
 obtain⟨i0,hi,hz0,hz1,hz2⟩:=info_parts infoSpan
 have i1:=fun w=>(lessArr a (imin b c) (imax a d) b w).1
 have i2:=fun w=>(lessArr a (imin b c) (imax a d) b w).2
 obtain⟨W,hW⟩: ∃W,W=((w.alloc (.cells #[.int .i64 a,.int .i64 b] 107)).alloc (.cells #[.int .i64 c,.int .i64 d] 107)):=⟨_,rfl⟩
 have hsW:w.heap.size+2<=W.heap.size:=by rw[hW];simp
 have hBW:Below w.heap.size w W:=by rw[hW];exact((Below.refl _ _).alloc (Nat.le_refl _) _).alloc (by simp) _
 have k1:W.cell? ⟨w.heap.size,0,none⟩=some (.int .i64 a):=by rw[hW];simp
 have k2:W.cell? ⟨w.heap.size,1,none⟩=some (.int .i64 b):=by rw[hW];simp
 have k3:W.cell? ⟨w.heap.size+1,0,none⟩=some (.int .i64 c):=by rw[hW];simp
 have k4:W.cell? ⟨w.heap.size+1,1,none⟩=some (.int .i64 d):=by rw[hW];simp
 have HW:=Lib.hid hW
 clear hW
 go_enter Tryz.func228,Tryz.ntmps228
 go_wp2
 rw[<-HW.out]
 go_loopw [5,27] (fun v i wr=> ∃k:Nat,k<=2/\i= .int .i64 k/\ ∃out:List (Int×Int),Hid (out=(if 1<=k then part1 a (imin b c) else [])++(if 2<=k then part1 (imax a d) b else []))∧
   wr.ownsRow W.heap.size 107 2 v out.length (flat out)/\Below W.heap.size W wr) (fun _ i _=>2-(intOf i).toNat)
 case atStart=>exact⟨0,by omega,rfl,[],rfl,World.ownsRow_nil _ _ _ _,Below.refl _ _⟩
 case round=>
  obtain⟨k,hk,rfl,out,hout,hown,hB⟩:=hrel
  have hsz:=hB.size
  have c1:=below_cell hB (by omega) k1
  have c2:=below_cell hB (by omega) k2
  have c3:=below_cell hB (by omega) k3
  have c4:=below_cell hB (by omega) k4
  rcases(by omega:k=0\/k=1\/k=2) with rfl|rfl|rfl
  · have e0:out= []:=hout.out
    subst e0
    by_cases h1:a<imin b c
    · go_wp2_with (at_builtin;refine appSpan rfl _ _ rfl W.heap.size _ [] rfl ((hown.alloc _).alloc _) (wr.heap.size+1) a (imin b c) rfl (by simp) (by simp) (by decide) (by simp;omega) W ((hB.alloc (by omega) _).alloc (by simp;omega) _) ?_;intro v' w2 hown2 hB2 hs2 hg2)
      exact⟨⟨1,by omega,rfl,[(a,imin b c)],(by show _=_;simp[part1,h1]),hown2,hB2⟩,by simp[intOf]⟩
    · go_wp2
      exact⟨⟨1,by omega,rfl,[],(by show _=_;simp[part1,h1]),hown.alloc _,hB.alloc (by omega) _⟩,by simp[intOf]⟩
  · have e0:out=part1 a (imin b c):=by have:=hout.out;simpa using this
    have hle:=part1_le a (imin b c)
    rw[<-e0] at hle
    have E0:=Lib.hid e0
    clear e0 hout
    by_cases h1:imax a d<b
    · go_wp2_with (at_builtin;refine appSpan rfl _ _ rfl W.heap.size _ out rfl ((hown.alloc _).alloc _) (wr.heap.size+1) (imax a d) b rfl (by simp) (by simp) (by omega) (by simp;omega) W ((hB.alloc (by omega) _).alloc (by simp;omega) _) ?_;intro v' w2 hown2 hB2 hs2 hg2)
      exact⟨⟨2,by omega,rfl,out++ [(imax a d,b)],(by show _=_;simp[part1,h1,E0.out]),hown2,hB2⟩,by simp[intOf]⟩
    · go_wp2
      exact⟨⟨2,by omega,rfl,out,(by show _=_;simp[part1,h1,E0.out]),hown.alloc _,hB.alloc (by omega) _⟩,by simp[intOf]⟩
  · have e0:out=lessParts a b c d:=by have:=hout.out;simpa [lessParts] using this
    have E0:=Lib.hid e0
    clear e0 hout
    by_cases h1:imax a c<imin b d
    · have el:lessL a b c d=out:=by rw[E0.out];unfold lessL;rw[if_neg (by omega)]
      have EL:=Lib.hid el
      have H1:=Lib.hid h1
      clear el h1
      go_wp2_with (go_at_call 278;refine(meet_yes a b c d _ H1.out).mono ?_;rintro e w1 ⟨rfl,hb1⟩)
      go_ret
      exact⟨_,rfl,by rw[EL.out];exact ownsRow_mono ((ownsRow_below hown hb1).alloc _) (by omega),(hBW.trans ((below_trans hB hB.size hb1).mono (by omega))).alloc (by have:=hb1.size;omega) _⟩
    · have hno:imin b d<=imax a c:=by omega
      by_cases h2:a<b
      · have el:lessL a b c d= [(a,b)]:=by unfold lessL;rw[if_pos ⟨by omega,h2⟩]
        have EL:=Lib.hid el
        have H1:=Lib.hid hno
        clear el h1 hno
        go_wp2_with (go_at_call 278;refine(meet_no a b c d _ H1.out).mono ?_;rintro e w1 ⟨rfl,hb1⟩;have hq1:=hb1.size;have hq2:w.heap.size<w1.heap.size:=(by omega);have d1:=below_cell hb1 (by omega) c1;have d2:=below_cell hb1 (by omega) c2)
        go_ret
        refine⟨_,rfl,by rw[EL.out];exact ownsSpan1 (w1.alloc (.cells #[.int .i64 0,.int .i64 0] 107)) w.heap.size a b (w1.heap.size+1) (by simp) (by simp;omega),?_⟩
        exact((hBW.trans ((below_trans hB hB.size hb1).mono (by omega))).alloc (by omega) _).alloc (by first|omega|(simp;omega)) _
      · have el:lessL a b c d=out:=by rw[E0.out];unfold lessL;rw[if_neg (by omega)]
        have EL:=Lib.hid el
        have H1:=Lib.hid hno
        clear el h1 hno
        go_wp2_with (go_at_call 278;refine(meet_no a b c d _ H1.out).mono ?_;rintro e w1 ⟨rfl,hb1⟩;have hq1:=hb1.size;have hq2:w.heap.size<w1.heap.size:=(by omega);have d1:=below_cell hb1 (by omega) c1;have d2:=below_cell hb1 (by omega) c2)
        go_ret
        exact⟨_,rfl,by rw[EL.out];exact ownsRow_mono ((ownsRow_below hown hb1).alloc _) (by omega),(hBW.trans ((below_trans hB hB.size hb1).mono (by omega))).alloc (by have:=hb1.size;omega) _⟩
open Go
structure Ver where
 id:Int
 key:KeyP
 fr:Int
 «to» :Int
 val:ByteArray
 bg:Int
 en:Int
def Ver.item (v:Ver):It:=(v.fr,v.id,v.to)
def Ver.has (v:Ver) (t:Int):Prop:=v.fr<=t/\t<v.to
def Ver.seen (v:Ver) (a:Int):Prop:=v.bg<=a/\(v.en=0\/a<v.en)
def Sees (vs:List Ver) (k:KeyP) (a t:Int) (x:ByteArray):Prop:= ∃v,v∈vs/\v.key=k/\v.has t/\v.seen a/\v.val=x
structure Pst where
 now:Int
 gone:Int
 next:Int
 vs:List Ver
def itemsK (vs:List Ver) (k:KeyP):List It:=(vs.filter fun v=>decide (v.key=k)).map Ver.item
def addV (s:Pst) (k:KeyP) (f t:Int) (x:ByteArray):Pst:={ s with next:=s.next+1,vs:=⟨s.next,k,f,t,x,s.now,0⟩::s.vs }
def dropV (s:Pst) (id:Int):Pst:={ s with vs:=s.vs.filter fun u=>decide (u.id≠id) }
def endV (s:Pst) (id:Int):Pst:={ s with vs:=s.vs.map fun u=>if u.id=id then { u with en:=s.now } else u }
def addAll (s:Pst) (k:KeyP) (x:ByteArray) (l:List (Int×Int)):Pst:=l.foldl (fun s p=>addV s k p.1 p.2 x) s
def cutV (s:Pst) (o:OpP) (v:Ver):Pst:=addAll (if v.bg=s.now then dropV s v.id else endV s v.id) o.key v.val (lessL v.fr v.to o.fr o.to)
def sayId (o:OpP) (s:Pst) (id:Int):Pst:=match s.vs.find? fun u=>decide (u.id=id) with
 | none=>s
 | some v=>if 0<v.en then s else cutV s o v
def hits (s:Pst) (o:OpP):List Int:=meetsL (itemsK s.vs o.key) o.fr o.to
def sayAll (o:OpP) (s:Pst) (l:List Int):Pst:=l.foldl (fun s id=>sayId o s id) s
def sayO (o:OpP) (s:Pst):Pst:=if o.value.size=0 then sayAll o s (hits s o) else addV (sayAll o s (hits s o)) o.key o.fr o.to o.value
def beginP (s:Pst):Pst:={ s with now:=s.now+1 }
def commitP (l:List OpP) (s:Pst):Pst:=l.foldl (fun s o=>sayO o s) (beginP s)
def forgetP (a:Int) (s:Pst):Pst:={ s with gone:=a,vs:=s.vs.filter fun v=> !decide (0<v.en/\v.en<=a) }
structure Wf (s:Pst):Prop where
 nod:(s.vs.map (·.id)).Nodup
 rng: ∀v∈s.vs,0<=v.id/\v.id<s.next
 key: ∀v∈s.vs,keyB v.key=true
 right: ∀v∈s.vs,rightB v.fr v.to=true
 life: ∀v∈s.vs,1<=v.bg/\v.bg<=s.now/\(v.en=0\/(v.bg<v.en/\v.en<=s.now))
 vals: ∀v∈s.vs,wordB v.val=true
 apart: ∀u∈s.vs,∀v∈s.vs,u.id≠v.id->u.key=v.key-> ∀t,u.has t->v.has t->(u.en≠0/\u.en<=v.bg)\/(v.en≠0/\v.en<=u.bg)
 next0:0<=s.next
 len:(s.vs.length:Int)<=s.next
 now0:0<=s.now
theorem nodup_inj {α β:Type} (f:α->β): ∀l:List α,(l.map f).Nodup-> ∀u∈l,∀v∈l,f u=f v->u=v
 | [],_,u,hu,_,_,_=>by cases hu
 | a ::l,h,u,hu,v,hv,e=>by
   rw[List.map_cons,List.nodup_cons] at h
   rcases List.mem_cons.1 hu with h1|h1
   · rcases List.mem_cons.1 hv with h2|h2
     · rw[h1,h2]
     · exact absurd (List.mem_map.2 ⟨v,h2,by rw[<-e,h1]⟩) h.1
   · rcases List.mem_cons.1 hv with h2|h2
     · exact absurd (List.mem_map.2 ⟨u,h1,by rw[e,h2]⟩) h.1
     · exact nodup_inj f l h.2 u h1 v h2 e
theorem Wf.same {s:Pst} (h:Wf s) {u v:Ver} (hu:u∈s.vs) (hv:v∈s.vs) (e:u.id=v.id):u=v:=nodup_inj (·.id) s.vs h.nod u hu v hv e
theorem Wf.found {s:Pst} (h:Wf s) {v:Ver} (hv:v∈s.vs):s.vs.find? (fun u=>decide (u.id=v.id))=some v:=by
 cases hf:s.vs.find? (fun u=>decide (u.id=v.id)) with
 | none=>
   have:=List.find?_eq_none.1 hf v hv
   simp at this
 | some u=>
   have h1:=List.find?_some hf
   have h2:=List.mem_of_find?_eq_some hf
   rw[h.same h2 hv (by simpa using h1)]
theorem Wf.new {s:Pst} (h:Wf s) {v:Ver} (hv:v∈s.vs):v.id≠s.next:=fun e=>by have:=(h.rng v hv).2;omega
theorem Wf.one {s:Pst} (h:Wf s) {u v:Ver} (hu:u∈s.vs) (hv:v∈s.vs) (hk:u.key=v.key) {t a:Int} (h1:u.has t) (h2:v.has t) (h3:u.seen a) (h4:v.seen a):u=v:=by
 by_cases e:u.id=v.id
 · exact h.same hu hv e
 · exfalso
   have l1:=h.life u hu
   have l2:=h.life v hv
   unfold Ver.seen at h3 h4
   rcases h.apart u hu v hv e hk t h1 h2 with ⟨a1,a2⟩|⟨a1,a2⟩
   · rcases h3.2 with h5|h5<;>omega
   · rcases h4.2 with h5|h5<;>omega
theorem Wf.live {s:Pst} (h:Wf s) {v:Ver} (hv:v∈s.vs): ¬0<v.en↔v.en=0:=by
 have:=h.life v hv
 constructor
 · intro h1;omega
 · intro h1;omega
theorem Wf.seenNow {s:Pst} (h:Wf s) {v:Ver} (hv:v∈s.vs):v.seen s.now↔v.en=0:=by
 have:=h.life v hv
 unfold Ver.seen
 constructor
 · intro⟨_,h1⟩;omega
 · intro h1;exact⟨by omega,.inl h1⟩
theorem Wf.add {s:Pst} (h:Wf s) {k:KeyP} {f t:Int} {x:ByteArray} (hk:keyB k=true) (hr:rightB f t=true) (hx:wordB x=true) (hn:1<=s.now)
  (hfree: ∀v∈s.vs,v.key=k->v.en=0-> ∀y,v.has y-> ¬(f<=y/\y<t)):Wf (addV s k f t x):=by
 have hnew: ∀u∈s.vs,u.key=k-> ∀y,u.has y->(f<=y/\y<t)->u.en≠0/\u.en<=s.now:=fun u hu he y h1 h2=>by
  have hl:=h.life u hu
  have:u.en≠0:=fun e=>hfree u hu he e y h1 h2
  exact⟨this,by omega⟩
 refine⟨?_,fun v hv=> ?_,fun v hv=> ?_,fun v hv=> ?_,fun v hv=> ?_,fun v hv=> ?_,fun u hu v hv hne he y h1 h2=> ?_,?_,?_,h.now0⟩
 · simp only[addV,List.map_cons,List.nodup_cons]
   refine⟨fun hm=> ?_,h.nod⟩
   obtain⟨v,hv,e⟩:=List.mem_map.1 hm
   exact h.new hv e
 · rcases List.mem_cons.1 hv with rfl|hv
   · exact⟨h.next0,by simp only[addV];omega⟩
   · have:=h.rng v hv;exact⟨this.1,by simp only[addV];omega⟩
 · rcases List.mem_cons.1 hv with rfl|hv
   · exact hk
   · exact h.key v hv
 · rcases List.mem_cons.1 hv with rfl|hv
   · exact hr
   · exact h.right v hv
 · rcases List.mem_cons.1 hv with rfl|hv
   · exact⟨hn,Int.le_refl _,.inl rfl⟩
   · exact h.life v hv
 · rcases List.mem_cons.1 hv with rfl|hv
   · exact hx
   · exact h.vals v hv
 · rcases List.mem_cons.1 hu with rfl|hu
   · rcases List.mem_cons.1 hv with rfl|hv
     · exact absurd rfl hne
     · exact .inr (hnew v hv he.symm y h2 h1)
   · rcases List.mem_cons.1 hv with rfl|hv
     · exact .inl (hnew u hu he y h1 h2)
     · exact h.apart u hu v hv hne he y h1 h2
 · simp only[addV];have:=h.next0;omega
 · simp only[addV,List.length_cons];have:=h.len;omega
theorem mem_drop {s:Pst} {id:Int} {u:Ver}:u∈(dropV s id).vs↔u∈s.vs/\u.id≠id:=by simp[dropV]
theorem mem_end {s:Pst} {id:Int} {u:Ver}:u∈(endV s id).vs↔(u∈s.vs/\u.id≠id)\/ ∃v∈s.vs,v.id=id/\u={ v with en:=s.now }:=by
 simp only[endV,List.mem_map]
 constructor
 · rintro⟨v,hv,rfl⟩
   by_cases e:v.id=id
   · rw[if_pos e];exact .inr ⟨v,hv,e,rfl⟩
   · rw[if_neg e];exact .inl ⟨hv,e⟩
 · rintro(⟨hu,e⟩|⟨v,hv,e,rfl⟩)
   · exact⟨u,hu,by rw[if_neg e]⟩
   · exact⟨v,hv,by rw[if_pos e]⟩
theorem Wf.drop {s:Pst} (h:Wf s) (id:Int):Wf (dropV s id):=by
 have hm: ∀v∈(dropV s id).vs,v∈s.vs:=fun v hv=>(mem_drop.1 hv).1
 refine⟨?_,fun v hv=>h.rng v (hm v hv),fun v hv=>h.key v (hm v hv),fun v hv=>h.right v (hm v hv),fun v hv=>h.life v (hm v hv),fun v hv=>h.vals v (hm v hv),fun u hu v hv=>h.apart u (hm u hu) v (hm v hv),h.next0,?_,h.now0⟩
 · exact h.nod.sublist (List.Sublist.map _ List.filter_sublist)
 · have:=List.length_filter_le (fun u:Ver=>decide (u.id≠id)) s.vs
   have:=h.len
   simp only[dropV];omega
theorem Wf.end' {s:Pst} (h:Wf s) {v:Ver} (hv:v∈s.vs) (h0:v.en=0) (hb:v.bg≠s.now):Wf (endV s v.id):=by
 have hid: ∀u∈(endV s v.id).vs,∃u' ∈s.vs,u'.id=u.id/\u'.key=u.key/\u'.fr=u.fr/\u'.to=u.to/\u'.val=u.val/\u'.bg=u.bg/\(u'.id=v.id->u' =v/\u.en=s.now)/\(u'.id≠v.id->u' =u):=fun u hu=>by
  rcases mem_end.1 hu with ⟨hu,e⟩|⟨v',hv',e,rfl⟩
  · exact⟨u,hu,rfl,rfl,rfl,rfl,rfl,rfl,fun e' =>absurd e' e,fun _=>rfl⟩
  · exact⟨v',hv',rfl,rfl,rfl,rfl,rfl,rfl,fun _=>⟨h.same hv' hv e,rfl⟩,fun e' =>absurd e e'⟩
 have lv:=h.life v hv
 refine⟨?_,fun u hu=> ?_,fun u hu=> ?_,fun u hu=> ?_,fun u hu=> ?_,fun u hu=> ?_,fun u hu u' hu' hne he y h1 h2=> ?_,h.next0,by simpa [endV] using h.len,h.now0⟩
 · have :(endV s v.id).vs.map (·.id)=s.vs.map (·.id):=by
    simp only[endV,List.map_map]
    refine List.map_congr_left fun u _=> ?_
    simp only[Function.comp];split<;>rfl
   rw[this];exact h.nod
 · obtain⟨w,hw,e1,_⟩:=hid u hu;rw[<-e1];exact h.rng w hw
 · obtain⟨w,hw,_,e1,_⟩:=hid u hu;rw[<-e1];exact h.key w hw
 · obtain⟨w,hw,_,_,e1,e2,_⟩:=hid u hu;rw[<-e1, <-e2];exact h.right w hw
 · obtain⟨w,hw,_,_,_,_,_,e1,e2,e3⟩:=hid u hu
   have lw:=h.life w hw
   by_cases e:w.id=v.id
   · obtain⟨rfl,e4⟩:=e2 e
     rw[<-e1,e4]
     exact⟨lw.1,lw.2.1,.inr ⟨by omega,Int.le_refl _⟩⟩
   · rw[<-e3 e];exact lw
 · obtain⟨w,hw,_,_,_,_,e1,_⟩:=hid u hu;rw[<-e1];exact h.vals w hw
 · obtain⟨w,hw,i1,k1,f1,t1,_,b1,c1,d1⟩:=hid u hu
   obtain⟨w',hw',i2,k2,f2,t2,_,b2,c2,d2⟩:=hid u' hu'
   have:=h.apart w hw w' hw' (by rw[i1,i2];exact hne) (by rw[k1,k2];exact he) y (by unfold Ver.has at*;rw[f1,t1];exact h1) (by unfold Ver.has at*;rw[f2,t2];exact h2)
   have lw:=h.life w hw
   have lw' :=h.life w' hw'
   by_cases e:w.id=v.id
   · obtain⟨rfl,e4⟩:=c1 e
     have e5:w' =u' :=d2 (fun e' =>hne (by rw[<-i1, <-i2,e,e']))
     subst e5
     have hen:w'.en≠0/\w'.en<=w.bg:=by
      rcases this with ⟨a1,_⟩|a1
      · exact absurd h0 a1
      · exact a1
     exact .inr ⟨hen.1,by rw[<-b1];exact hen.2⟩
   · have e5:w=u:=d1 e
     subst e5
     by_cases e' :w'.id=v.id
     · obtain⟨rfl,e4⟩:=c2 e'
       rcases this with a1|⟨a1,_⟩
       · exact .inl ⟨a1.1,by rw[<-b2];exact a1.2⟩
       · exact absurd h0 a1
     · have e6:w' =u' :=d2 e'
       subst e6;exact this
def Free (s:Pst) (k:KeyP) (f t:Int):Prop:= ∀v∈s.vs,v.key=k->v.en=0-> ∀y,v.has y-> ¬(f<=y/\y<t)
theorem less_meet {a b c d:Int} (h1:a<b) (h2:c<d) (h3:a<d) (h4:c<b):lessL a b c d=(if a<c then [(a,c)] else [])++(if d<b then [(d,b)] else []):=by
 have e1: ¬(¬imax a c<imin b d/\a<b):=by unfold imax imin;omega
 unfold lessL lessParts part1
 rw[if_neg e1]
 congr 1
 · by_cases h:a<c
   · have e:imin b c=c:=by unfold imin;omega
     rw[e]
   · rw[if_neg h,if_neg (by unfold imin;omega)]
 · by_cases h:d<b
   · have e:imax a d=d:=by unfold imax;omega
     rw[e]
   · rw[if_neg h,if_neg (by unfold imax;omega)]
structure PartsOk (s:Pst) (k:KeyP) (l:List (Int×Int)):Prop where
 right: ∀p∈l,rightB p.1 p.2=true
 free: ∀p∈l,Free s k p.1 p.2
 apart:l.Pairwise fun p q=> ∀y,¬((p.1<=y/\y<p.2)/\(q.1<=y/\y<q.2))
theorem addAll_now (s:Pst) (k:KeyP) (x:ByteArray) (l:List (Int×Int)):(addAll s k x l).now=s.now:=by
 induction l generalizing s with
 | nil=>rfl
 | cons p l ih=>unfold addAll at*;rw[List.foldl_cons,ih];rfl
theorem addAll_gone (s:Pst) (k:KeyP) (x:ByteArray) (l:List (Int×Int)):(addAll s k x l).gone=s.gone:=by
 induction l generalizing s with
 | nil=>rfl
 | cons p l ih=>unfold addAll at*;rw[List.foldl_cons,ih];rfl
theorem addAll_next (s:Pst) (k:KeyP) (x:ByteArray) (l:List (Int×Int)):(addAll s k x l).next=s.next+l.length:=by
 induction l generalizing s with
 | nil=>simp[addAll]
 | cons p l ih=>unfold addAll at*;rw[List.foldl_cons,ih,List.length_cons];simp only[addV];omega
theorem mem_addAll {k:KeyP} {x:ByteArray} {u:Ver}: ∀ {l:List (Int×Int)} {s:Pst},u∈(addAll s k x l).vs->u∈s.vs\/(s.next<=u.id/\u.key=k/\u.val=x/\u.bg=s.now/\u.en=0/\(u.fr,u.to)∈l)
 | [],s,h=> .inl h
 | p ::l,s,h=>by
   rcases mem_addAll (l:=l) (s:=addV s k p.1 p.2 x) (by simpa [addAll] using h) with h|⟨h1,h2,h3,h4,h5,h6⟩
   · rcases List.mem_cons.1 h with rfl|h
     · exact .inr ⟨Int.le_refl _,rfl,rfl,rfl,rfl,by simp⟩
     · exact .inl h
   · exact .inr ⟨by simp only[addV] at h1;omega,h2,h3,h4,h5,List.mem_cons_of_mem _ h6⟩
theorem addAll_keeps {k:KeyP} {x:ByteArray} {u:Ver}: ∀ {l:List (Int×Int)} {s:Pst},u∈s.vs->u∈(addAll s k x l).vs
 | [],_,h=>h
 | p::l,s,h=>addAll_keeps (l:=l) (s:=addV s k p.1 p.2 x) (List.mem_cons_of_mem _ h)
theorem addAll_has {k:KeyP} {x:ByteArray} {p:Int×Int}: ∀ {l:List (Int×Int)} {s:Pst},p∈l-> ∃u∈(addAll s k x l).vs,u.key=k/\u.val=x/\u.bg=s.now/\u.en=0/\u.fr=p.1/\u.to=p.2
 | [],_,h=>by cases h
 | q ::l,s,h=>by
   rcases List.mem_cons.1 h with rfl|h
   · exact⟨_,addAll_keeps (l:=l) (s:=addV s k p.1 p.2 x) (List.mem_cons_self ..),rfl,rfl,rfl,rfl,rfl,rfl⟩
   · obtain⟨u,h1,h2⟩:=addAll_has (x:=x) (k:=k) (l:=l) (s:=addV s k q.1 q.2 x) h
     exact⟨u,h1,h2⟩
theorem Wf.addAll {k:KeyP} {x:ByteArray} (hk:keyB k=true) (hx:wordB x=true): ∀ {l:List (Int×Int)} {s:Pst},Wf s->1<=s.now->PartsOk s k l->Wf (addAll s k x l)
 | [],_,h,_,_=>h
 | p ::l,s,h,hn,hp=>by
   have h1:=h.add hk (hp.right p (by simp)) hx hn (hp.free p (by simp))
   obtain⟨a1,a2⟩:=List.pairwise_cons.1 hp.apart
   refine Wf.addAll hk hx (l:=l) (s:=addV s k p.1 p.2 x) h1 hn ⟨fun q hq=>hp.right q (by simp[hq]),fun q hq v hv he h0 y hy hy' => ?_,a2⟩
   rcases List.mem_cons.1 hv with rfl|hv
   · exact a1 q hq y ⟨hy,hy'⟩
   · exact hp.free q (by simp[hq]) v hv he h0 y hy hy'
structure Cuts (s:Pst) (o:OpP) (v:Ver):Prop where
 mem:v∈s.vs
 key:v.key=o.key
 live:v.en=0
 lo:v.fr<o.to
 hi:o.fr<v.to
theorem base_mem {s:Pst} {v u:Ver}:u∈(if v.bg=s.now then dropV s v.id else endV s v.id).vs->(u∈s.vs/\u.id≠v.id)\/(u.id=v.id/\v.bg≠s.now/\ ∃v' ∈s.vs,v'.id=v.id/\u={ v' with en:=s.now }):=by
 split
 · intro h;exact .inl (mem_drop.1 h)
 · rename_i hb
   intro h
   rcases mem_end.1 h with h|⟨v',h1,h2,rfl⟩
   · exact .inl h
   · exact .inr ⟨h2,hb,v',h1,h2,rfl⟩
theorem base_keeps {s:Pst} {v u:Ver} (h:u∈s.vs) (hne:u.id≠v.id):u∈(if v.bg=s.now then dropV s v.id else endV s v.id).vs:=by
 split
 · exact mem_drop.2 ⟨h,hne⟩
 · exact mem_end.2 (.inl ⟨h,hne⟩)
theorem base_now (s:Pst) (v:Ver):(if v.bg=s.now then dropV s v.id else endV s v.id).now=s.now:=by split<;>rfl
theorem base_next (s:Pst) (v:Ver):(if v.bg=s.now then dropV s v.id else endV s v.id).next=s.next:=by split<;>rfl
theorem base_wf {s:Pst} (h:Wf s) {o:OpP} {v:Ver} (hc:Cuts s o v):Wf (if v.bg=s.now then dropV s v.id else endV s v.id):=by
 split
 · exact h.drop _
 · rename_i hb;exact h.end' hc.mem hc.live hb
theorem cut_parts {s:Pst} (h:Wf s) {o:OpP} {v:Ver} (hc:Cuts s o v) (ho:rightB o.fr o.to=true):PartsOk (if v.bg=s.now then dropV s v.id else endV s v.id) o.key (lessL v.fr v.to o.fr o.to):=by
 have hr:=h.right v hc.mem
 have hr' :=hr
 have ho' :=ho
 unfold rightB at hr' ho'
 simp only[decide_eq_true_eq] at hr' ho'
 have lo:=hc.lo
 have hi:=hc.hi
 rw[less_meet hr'.2.2 ho'.2.2 lo hi]
 have hin: ∀p∈(if v.fr<o.fr then [(v.fr,o.fr)] else [])++(if o.to<v.to then [(o.to,v.to)] else []),rightB p.1 p.2=true/\ ∀y,p.1<=y->y<p.2->v.has y:=by
  intro p hp
  rcases List.mem_append.1 hp with hp|hp
  · split at hp
    · simp only[List.mem_singleton] at hp;subst hp
      exact⟨by unfold rightB;simp only[decide_eq_true_eq];omega,fun y h1 h2=>⟨h1,by simp only at h2;omega⟩⟩
    · cases hp
  · split at hp
    · simp only[List.mem_singleton] at hp;subst hp
      exact⟨by unfold rightB;simp only[decide_eq_true_eq];omega,fun y h1 h2=>⟨by simp only at h1;omega,h2⟩⟩
    · cases hp
 refine⟨fun p hp=>(hin p hp).1,fun p hp u hu he h0 y hy hy' => ?_,?_⟩
 · have hv:=(hin p hp).2 y hy'.1 hy'.2
   rcases base_mem hu with ⟨hu,hne⟩|⟨_,hb,v',hv',e1,rfl⟩
   · exact hne (by rw[h.one hu hc.mem (by rw[he,hc.key]) hy hv ((h.seenNow hu).2 h0) ((h.seenNow hc.mem).2 hc.live)])
   · have:=h.life v hc.mem
     simp only at h0
     omega
 · split<;>split<;>simp
   rename_i h1 h2
   intro y _ h3 h4
   omega
theorem Wf.cut {s:Pst} (h:Wf s) {o:OpP} {v:Ver} (hc:Cuts s o v) (ho:rightB o.fr o.to=true):Wf (cutV s o v):=by
 have h1:=h.key v hc.mem
 rw[hc.key] at h1
 have hn:1<=s.now:=by have:=h.life v hc.mem;omega
 exact Wf.addAll h1 (h.vals v hc.mem) (base_wf h hc) (by rw[base_now];exact hn) (cut_parts h hc ho)
theorem cut_now (s:Pst) (o:OpP) (v:Ver):(cutV s o v).now=s.now:=by unfold cutV;rw[addAll_now,base_now]
theorem cut_keeps {s:Pst} {o:OpP} {v u:Ver} (h:u∈s.vs) (hne:u.id≠v.id):u∈(cutV s o v).vs:=addAll_keeps (base_keeps h hne)
theorem cut_next {s:Pst} (h:Wf s) {o:OpP} {v:Ver} (hc:Cuts s o v) (ho:rightB o.fr o.to=true):(cutV s o v).next=s.next+(if v.fr<o.fr then 1 else 0)+(if o.to<v.to then 1 else 0):=by
 have hr:=h.right v hc.mem
 unfold rightB at hr ho
 simp only[decide_eq_true_eq] at hr ho
 unfold cutV
 rw[addAll_next,base_next,less_meet hr.2.2 ho.2.2 hc.lo hc.hi]
 split<;>split<;>simp<;>omega
theorem part_in {s:Pst} (h:Wf s) {o:OpP} {v:Ver} (hc:Cuts s o v) (ho:rightB o.fr o.to=true) {p:Int×Int} (hp:p∈lessL v.fr v.to o.fr o.to):(∀y,p.1<=y->y<p.2->v.has y/\ ¬(o.fr<=y/\y<o.to))/\(p.2<=o.fr\/o.to<=p.1):=by
 have hr:=h.right v hc.mem
 unfold rightB at hr ho
 simp only[decide_eq_true_eq] at hr ho
 have lo:=hc.lo
 have hi:=hc.hi
 rw[less_meet hr.2.2 ho.2.2 lo hi] at hp
 rcases List.mem_append.1 hp with hp|hp
 · split at hp
   · simp only[List.mem_singleton] at hp;subst hp
     exact⟨fun y h1 h2=>⟨⟨h1,by simp only at h2;omega⟩,by simp only at h2;omega⟩,.inl (Int.le_refl _)⟩
   · cases hp
 · split at hp
   · simp only[List.mem_singleton] at hp;subst hp
     exact⟨fun y h1 h2=>⟨⟨by simp only at h1;omega,h2⟩,by simp only at h1;omega⟩,.inr (Int.le_refl _)⟩
   · cases hp
theorem less_has {s:Pst} (h:Wf s) {o:OpP} {v:Ver} (hc:Cuts s o v) (ho:rightB o.fr o.to=true) {y:Int} (hy:v.has y) (hn: ¬(o.fr<=y/\y<o.to)): ∃p∈lessL v.fr v.to o.fr o.to,p.1<=y/\y<p.2:=by
 have hr:=h.right v hc.mem
 unfold rightB at hr ho
 simp only[decide_eq_true_eq] at hr ho
 have lo:=hc.lo
 have hi:=hc.hi
 obtain⟨y1,y2⟩:=hy
 rw[less_meet hr.2.2 ho.2.2 lo hi]
 by_cases h1:y<o.fr
 · exact⟨(v.fr,o.fr),List.mem_append.2 (.inl (by rw[if_pos (by omega)];simp)),y1,h1⟩
 · exact⟨(o.to,v.to),List.mem_append.2 (.inr (by rw[if_pos (by omega)];simp)),by simp only;omega,y2⟩
theorem cut_past {s:Pst} (h:Wf s) {o:OpP} {v:Ver} (hc:Cuts s o v) {k:KeyP} {a t:Int} {x:ByteArray} (ha:a<s.now):Sees (cutV s o v).vs k a t x↔Sees s.vs k a t x:=by
 constructor
 · rintro⟨u,hu,h1,h2,h3,h4⟩
   rcases mem_addAll hu with hu|⟨_,_,_,hb,_⟩
   · rcases base_mem hu with ⟨hu,_⟩|⟨_,_,v',hv',e,rfl⟩
     · exact⟨u,hu,h1,h2,h3,h4⟩
     · obtain rfl:=h.same hv' hc.mem e
       exact⟨v',hv',h1,h2,⟨h3.1,.inl hc.live⟩,h4⟩
   · rw [base_now] at hb
     have:=h3.1
     omega
 · rintro⟨u,hu,h1,h2,h3,h4⟩
   by_cases e:u.id=v.id
   · obtain rfl:=h.same hu hc.mem e
     have hb:u.bg≠s.now:=by have:=h3.1;omega
     refine⟨{ u with en:=s.now },addAll_keeps ?_,h1,h2,⟨h3.1,.inr ha⟩,h4⟩
     rw[if_neg hb]
     exact mem_end.2 (.inr ⟨u,hu,rfl,rfl⟩)
   · exact⟨u,cut_keeps hu e,h1,h2,h3,h4⟩
theorem cut_else {s:Pst} (h:Wf s) {o:OpP} {v:Ver} (hc:Cuts s o v) (ho:rightB o.fr o.to=true) {k:KeyP} {t:Int} {x:ByteArray} (hk:k≠o.key\/ ¬(o.fr<=t/\t<o.to)):Sees (cutV s o v).vs k s.now t x↔Sees s.vs k s.now t x:=by
 have hl:=h.life v hc.mem
 constructor
 · rintro⟨u,hu,h1,h2,h3,h4⟩
   rcases mem_addAll hu with hu|⟨_,hke,hva,hb,he,hp⟩
   · rcases base_mem hu with ⟨hu,_⟩|⟨_,_,v',hv',e,rfl⟩
     · exact⟨u,hu,h1,h2,h3,h4⟩
     · exfalso
       rcases h3.2 with h5|h5<;>simp only at h5<;>omega
   · have hin:=(part_in h hc ho hp).1 t h2.1 h2.2
     exact⟨v,hc.mem,by rw[hc.key, <-hke,h1],hin.1,(h.seenNow hc.mem).2 hc.live,by rw[<-hva,h4]⟩
 · rintro⟨u,hu,h1,h2,h3,h4⟩
   by_cases e:u.id=v.id
   · obtain rfl:=h.same hu hc.mem e
     have hn: ¬(o.fr<=t/\t<o.to):=by
      rcases hk with hk|hk
      · exact absurd (h1.symm.trans hc.key) hk
      · exact hk
     obtain⟨p,hp,hp1,hp2⟩:=less_has h hc ho h2 hn
     obtain⟨w,hw,k1,k2,k3,k4,k5,k6⟩:=addAll_has (x:=u.val) (k:=o.key) (s:=if u.bg=s.now then dropV s u.id else endV s u.id) hp
     exact⟨w,hw,by rw[k1, <-hc.key,h1],⟨by rw[k5];exact hp1,by rw[k6];exact hp2⟩,⟨by rw[k3,base_now];exact Int.le_refl _,.inl k4⟩,by rw[k2,h4]⟩
   · exact⟨u,cut_keeps hu e,h1,h2,h3,h4⟩
structure Say (s0 s:Pst) (o:OpP) (rem:List Int):Prop where
 wf:Wf s
 now:s.now=s0.now
 gone:s.gone=s0.gone
 nod:rem.Nodup
 rem' : ∀id∈rem,∃u∈s.vs,u.id=id/\u.key=o.key/\u.fr<o.to/\o.fr<u.to
 cov: ∀u∈s.vs,u.key=o.key->u.en=0->u.fr<o.to->o.fr<u.to->u.id∈rem
 past: ∀k a t x,a<s0.now->(Sees s.vs k a t x↔Sees s0.vs k a t x)
 else' : ∀k t x,(k≠o.key\/ ¬(o.fr<=t/\t<o.to))->(Sees s.vs k s0.now t x↔Sees s0.vs k s0.now t x)
 bud: ∃cl cr:Int,0<=cl/\0<=cr/\s.next+cl+cr<=s0.next+2/\(cl=0-> ∀u∈s.vs,u.id∈rem->u.en=0-> ¬u.fr<o.fr)/\(cr=0-> ∀u∈s.vs,u.id∈rem->u.en=0-> ¬o.to<u.to)
theorem mem_meetsL {L:List It} {f t id:Int} (hr:rightB f t=true):id∈meetsL L f t↔ ∃x∈L,x.2.1=id/\x.1<t/\f<x.2.2:=by
 unfold meetsL
 rw[if_pos hr]
 unfold sortI
 rw[(List.mergeSort_perm _ _).mem_iff,List.mem_map]
 simp only[List.mem_filter,meetsT,Bool.and_eq_true,decide_eq_true_eq]
 constructor
 · rintro⟨x,⟨h1,h2⟩,h3⟩;exact⟨x,h1,h3,h2⟩
 · rintro⟨x,h1,h3,h2⟩;exact⟨x,⟨h1,h2⟩,h3⟩
theorem mem_itemsK {vs:List Ver} {k:KeyP} {x:It}:x∈itemsK vs k↔ ∃v∈vs,v.key=k/\v.item=x:=by
 simp only[itemsK,List.mem_map,List.mem_filter,decide_eq_true_eq]
 constructor
 · rintro⟨v,⟨h1,h2⟩,h3⟩;exact⟨v,h1,h2,h3⟩
 · rintro⟨v,h1,h2,h3⟩;exact⟨v,⟨h1,h2⟩,h3⟩
theorem mem_hits {s:Pst} {o:OpP} (hr:rightB o.fr o.to=true) {id:Int}:id∈hits s o↔ ∃v∈s.vs,v.key=o.key/\v.id=id/\v.fr<o.to/\o.fr<v.to:=by
 unfold hits
 rw[mem_meetsL hr]
 constructor
 · rintro⟨x,hx,h1,h2,h3⟩
   obtain⟨v,hv,hk,rfl⟩:=mem_itemsK.1 hx
   exact⟨v,hv,hk,h1,h2,h3⟩
 · rintro⟨v,hv,hk,h1,h2,h3⟩
   exact⟨v.item,mem_itemsK.2 ⟨v,hv,hk,rfl⟩,h1,h2,h3⟩
theorem items_nod {s:Pst} (h:Wf s) (k:KeyP):((itemsK s.vs k).map (·.2.1)).Nodup:=by
 have e:(itemsK s.vs k).map (·.2.1)=(s.vs.filter fun v=>decide (v.key=k)).map (·.id):=by simp[itemsK,Ver.item]
 rw[e]
 exact h.nod.sublist (List.Sublist.map _ List.filter_sublist)
theorem hits_nod {s:Pst} (h:Wf s) (o:OpP):(hits s o).Nodup:=by
 unfold hits meetsL
 split
 · unfold sortI
   refine(List.mergeSort_perm _ _).nodup_iff.2 ?_
   exact(items_nod h o.key).sublist (List.Sublist.map _ List.filter_sublist)
 · exact List.nodup_nil
theorem Say.start {s:Pst} (h:Wf s) {o:OpP} (hr:rightB o.fr o.to=true):Say s s o (hits s o):=
 ⟨h, rfl,rfl,hits_nod h o,fun id hid=>by obtain⟨v,h1,h2,h3,h4⟩:=(mem_hits hr).1 hid;exact⟨v,h1,h3,h2,h4⟩,fun u hu hk _ h1 h2=>(mem_hits hr).2 ⟨u,hu,hk,rfl,h1,h2⟩,
  fun _ _ _ _ _=>Iff.rfl,fun _ _ _ _=>Iff.rfl,⟨1,1,by decide,by decide,by omega,(fun e=>absurd e (by decide)),(fun e=>absurd e (by decide))⟩⟩
theorem Say.found {s0 s:Pst} {o:OpP} {id:Int} {rem:List Int} (h:Say s0 s o (id::rem)): ∃v∈s.vs,v.id=id/\v.key=o.key/\v.fr<o.to/\o.fr<v.to/\s.vs.find? (fun u=>decide (u.id=id))=some v:=by
 obtain⟨v,h1,h2,h3,h4,h5⟩:=h.rem' id (by simp)
 exact⟨v,h1,h2,h3,h4,h5,by rw[<-h2];exact h.wf.found h1⟩
theorem Say.skip {s0 s:Pst} {o:OpP} {id:Int} {rem:List Int} (h:Say s0 s o (id::rem)) {v:Ver} (hv:v∈s.vs) (hid:v.id=id) (he:v.en≠0):Say s0 s o rem:=by
 obtain⟨hn1,hn2⟩:=List.nodup_cons.1 h.nod
 obtain⟨cl,cr,c1,c2,c3,c4,c5⟩:=h.bud
 refine⟨h.wf,h.now,h.gone,hn2,fun i hi=>h.rem' i (List.mem_cons_of_mem _ hi),fun u hu hk h0 h1 h2=> ?_,h.past,h.else',⟨cl,cr,c1,c2,c3,fun e u hu hr=>c4 e u hu (List.mem_cons_of_mem _ hr),fun e u hu hr=>c5 e u hu (List.mem_cons_of_mem _ hr)⟩⟩
 rcases List.mem_cons.1 (h.cov u hu hk h0 h1 h2) with e|e
 · exact absurd (by rw[h.wf.same hv hu (by rw[hid,e])];exact h0) he
 · exact e
theorem Say.cut {s0 s:Pst} {o:OpP} {id:Int} {rem:List Int} (h:Say s0 s o (id::rem)) (ho:rightB o.fr o.to=true) {v:Ver} (hc:Cuts s o v) (hid:v.id=id):Say s0 (cutV s o v) o rem:=by
 obtain⟨hn1,hn2⟩:=List.nodup_cons.1 h.nod
 obtain⟨cl,cr,c1,c2,c3,c4,c5⟩:=h.bud
 have hlv:=h.wf.life v hc.mem
 have hold: ∀u∈(cutV s o v).vs,u.id∈rem->u∈s.vs:=fun u hu hr=>by
  rcases mem_addAll hu with hu|⟨h1,_⟩
  · rcases base_mem hu with ⟨hu,_⟩|⟨e,_⟩
    · exact hu
    · exact absurd (by rw[<-hid, <-e];exact hr) hn1
  · obtain⟨w,hw,e,_⟩:=h.rem' u.id (List.mem_cons_of_mem _ hr)
    have:=(h.wf.rng w hw).2
    rw[base_next] at h1
    omega
 refine⟨h.wf.cut hc ho,by rw[cut_now,h.now],?_,hn2,fun i hi=> ?_,fun u hu hk h0 h1 h2=> ?_,fun k a t x ha=> ?_,fun k t x hk=> ?_,?_⟩
 · unfold cutV;rw[addAll_gone];rw[<-h.gone];split<;>rfl
 · obtain⟨u,hu,e,r⟩:=h.rem' i (List.mem_cons_of_mem _ hi)
   exact⟨u,cut_keeps hu (fun e' =>hn1 (by rw[<-hid, <-e',e];exact hi)),e,r⟩
 · rcases mem_addAll hu with hu|⟨_,_,_,_,_,hp⟩
   · rcases base_mem hu with ⟨hu,hne⟩|⟨_,_,v',_,_,rfl⟩
     · rcases List.mem_cons.1 (h.cov u hu hk h0 h1 h2) with e|e
       · exact absurd (by rw[hid,e]) hne
       · exact e
     · simp only at h0;omega
   · have:=(part_in h.wf hc ho hp).2
     simp only at this;omega
 · rw[cut_past h.wf hc (by rw[h.now];exact ha)];exact h.past k a t x ha
 · rw[<-h.now,cut_else h.wf hc ho hk,h.now];exact h.else' k t x hk
 · have hnx:=cut_next h.wf hc ho
   have hvr:v.id∈id::rem:=by rw[hid];simp
   refine⟨cl-(if v.fr<o.fr then 1 else 0),cr-(if o.to<v.to then 1 else 0),?_,?_,by omega,fun e u hu hr h0 hlt=> ?_,fun e u hu hr h0 hlt=> ?_⟩
   · split
     · rename_i hv
       have:cl≠0:=fun e=>c4 e v hc.mem hvr hc.live hv
       omega
     · omega
   · split
     · rename_i hv
       have:cr≠0:=fun e=>c5 e v hc.mem hvr hc.live hv
       omega
     · omega
   · have hus:=hold u hu hr
     by_cases hv:v.fr<o.fr
     · obtain⟨w,hw,e1,e2,e3,e4⟩:=h.rem' u.id (List.mem_cons_of_mem _ hr)
       obtain rfl:=h.wf.same hw hus e1
       have hi:=hc.hi
       have:=h.wf.one hus hc.mem (e2.trans hc.key.symm) (t:=o.fr-1) (a:=s.now) ⟨by omega,by omega⟩ ⟨by omega,by omega⟩ ((h.wf.seenNow hus).2 h0) ((h.wf.seenNow hc.mem).2 hc.live)
       exact hn1 (by rw[<-hid, <-this];exact hr)
     · rw [if_neg hv] at e
       exact c4 (by omega) u hus (List.mem_cons_of_mem _ hr) h0 hlt
   · have hus:=hold u hu hr
     by_cases hv:o.to<v.to
     · obtain⟨w,hw,e1,e2,e3,e4⟩:=h.rem' u.id (List.mem_cons_of_mem _ hr)
       obtain rfl:=h.wf.same hw hus e1
       have lo:=hc.lo
       have:=h.wf.one hus hc.mem (e2.trans hc.key.symm) (t:=o.to) (a:=s.now) ⟨by omega,by omega⟩ ⟨by omega,by omega⟩ ((h.wf.seenNow hus).2 h0) ((h.wf.seenNow hc.mem).2 hc.live)
       exact hn1 (by rw[<-hid, <-this];exact hr)
     · rw [if_neg hv] at e
       exact c5 (by omega) u hus (List.mem_cons_of_mem _ hr) h0 hlt
theorem Say.step {s0 s:Pst} {o:OpP} {id:Int} {rem:List Int} (h:Say s0 s o (id::rem)) (ho:rightB o.fr o.to=true):Say s0 (sayId o s id) o rem:=by
 obtain⟨v,h1,h2,h3,h4,h5,h6⟩:=h.found
 unfold sayId
 rw[h6]
 show Say s0 (if 0<v.en then s else cutV s o v) o rem
 split
 · rename_i he;exact h.skip h1 h2 (by omega)
 · rename_i he;exact h.cut ho ⟨h1,h3,(h.wf.live h1).1 he,h4,h5⟩ h2
theorem Say.all {s0:Pst} {o:OpP} (ho:rightB o.fr o.to=true): ∀ {rem:List Int} {s:Pst},Say s0 s o rem->Say s0 (sayAll o s rem) o []
 | [],_,h=>h
 | id::rem,s,h=>Say.all ho (rem:=rem) (s:=sayId o s id) (h.step ho)
structure Said (s0 s:Pst) (o:OpP):Prop where
 wf:Wf s
 now:s.now=s0.now
 gone:s.gone=s0.gone
 next:s.next<=s0.next+3
 past: ∀k a t x,a<s0.now->(Sees s.vs k a t x↔Sees s0.vs k a t x)
 at' : ∀k t x,Sees s.vs k s0.now t x↔if k=o.key/\o.fr<=t/\t<o.to then o.value.size≠0/\o.value=x else Sees s0.vs k s0.now t x
theorem opB_right {o:OpP} (h:opB o=true):rightB o.fr o.to=true:=by
 unfold opB at h
 simp only[Bool.and_eq_true] at h
 exact h.2.1
theorem said_one {s:Pst} (h:Wf s) {o:OpP} (ho:opB o=true) (hn:1<=s.now):Said s (sayO o s) o:=by
 have hr:=opB_right ho
 have ha:=(Say.start h hr).all hr
 have hfree:Free (sayAll o s (hits s o)) o.key o.fr o.to:=fun v hv hk h0 y hy hy' =>by
  have:=ha.cov v hv hk h0 (by unfold Ver.has at hy;omega) (by unfold Ver.has at hy;omega)
  cases this
 obtain⟨cl,cr,c1,c2,c3,_⟩:=ha.bud
 unfold sayO
 by_cases h0:o.value.size=0
 · rw [if_pos h0]
   refine⟨ha.wf,ha.now,ha.gone,by omega,ha.past,fun k t x=> ?_⟩
   split
   · rename_i hk
     constructor
     · rintro⟨v,hv,h1,h2,h3,h4⟩
       rw[<-ha.now] at h3
       exact absurd hk.2 (hfree v hv (h1.trans hk.1) ((ha.wf.seenNow hv).1 h3) t h2)
     · intro⟨h1,_⟩;exact absurd h0 h1
   · rename_i hk
     exact ha.else' k t x (by
      by_cases e:k=o.key
      · exact .inr fun h=>hk ⟨e,h⟩
      · exact .inl e)
 · rw [if_neg h0]
   have hw:wordB o.value=true:=(op_value ho).resolve_left h0
   refine⟨ha.wf.add (op_key ho) hr hw (by rw[ha.now];exact hn) hfree,ha.now,ha.gone,by simp only[addV];omega,fun k a t x hlt=> ?_,fun k t x=> ?_⟩
   · rw [<-ha.past k a t x hlt]
     constructor
     · rintro⟨v,hv,h1,h2,h3,h4⟩
       rcases List.mem_cons.1 hv with rfl|hv
       · have:=h3.1
         have:=ha.now
         simp only at*;omega
       · exact⟨v,hv,h1,h2,h3,h4⟩
     · rintro⟨v,hv,r⟩;exact⟨v,List.mem_cons_of_mem _ hv,r⟩
   · split
     · rename_i hk
       constructor
       · rintro⟨v,hv,h1,h2,h3,h4⟩
         rcases List.mem_cons.1 hv with rfl|hv
         · exact⟨h0,h4⟩
         · rw [<-ha.now] at h3
           exact absurd hk.2 (hfree v hv (h1.trans hk.1) ((ha.wf.seenNow hv).1 h3) t h2)
       · rintro⟨_,rfl⟩
         exact⟨_,List.mem_cons_self ..,hk.1.symm,hk.2,⟨by simp only;rw[ha.now];exact Int.le_refl _,.inl rfl⟩,rfl⟩
     · rename_i hk
       rw [<-ha.else' k t x (by
        by_cases e:k=o.key
        · exact .inr fun h=>hk ⟨e,h⟩
        · exact .inl e)]
       constructor
       · rintro⟨v,hv,h1,h2,h3,h4⟩
         rcases List.mem_cons.1 hv with rfl|hv
         · exact absurd ⟨h1.symm,h2⟩ hk
         · exact⟨v,hv,h1,h2,h3,h4⟩
       · rintro⟨v,hv,r⟩;exact⟨v,List.mem_cons_of_mem _ hv,r⟩
def saidL (l:List OpP) (k:KeyP) (t:Int) (x:ByteArray):ByteArray:=l.foldl (fun v o=>if k=o.key/\o.fr<=t/\t<o.to then o.value else v) x
def saidH (hist:List (List OpP)) (k:KeyP) (n:Nat) (t:Int):ByteArray:=saidL (hist.take n).flatten k t ⟨#[]⟩
structure Told (hist:List (List OpP)) (s:Pst):Prop where
 now:s.now=hist.length
 gone0:0<=s.gone
 gone1:s.gone<=s.now
 told: ∀k (n:Nat) t x,s.gone<=n->n<=hist.length->(Sees s.vs k n t x↔x.size≠0/\saidH hist k n t=x)
theorem saidL_snoc (l:List OpP) (o:OpP) (k:KeyP) (t:Int) (x:ByteArray):saidL (l++ [o]) k t x=if k=o.key/\o.fr<=t/\t<o.to then o.value else saidL l k t x:=by
 unfold saidL;rw[List.foldl_append];rfl
theorem saidH_old (hist:List (List OpP)) (p:List OpP) (k:KeyP) {n:Nat} (hn:n<=hist.length) (t:Int):saidH (hist++ [p]) k n t=saidH hist k n t:=by
 unfold saidH;rw[List.take_append_of_le_length hn]
theorem saidH_all (hist:List (List OpP)) (p:List OpP) (k:KeyP) (t:Int):saidH (hist++ [p]) k (hist.length+1) t=saidL (hist.flatten++p) k t ⟨#[]⟩:=by
 unfold saidH;rw[List.take_of_length_le (by simp),List.flatten_append];simp
theorem Wf.begin {s:Pst} (h:Wf s):Wf (beginP s):=
 ⟨h.nod,h.rng,h.key,h.right,fun v hv=>by have:=h.life v hv;simp only[beginP];omega,h.vals,h.apart,h.next0,h.len,by have:=h.now0;simp only[beginP];omega⟩
theorem told_begin {hist:List (List OpP)} {s:Pst} (h:Wf s) (ht:Told hist s):Told (hist++ [[]]) (beginP s):=by
 have h1:=ht.now
 have h2:=ht.gone0
 have h3:=ht.gone1
 refine⟨by simp[beginP,h1],h2,by simp only[beginP];omega,fun k n t x hg hn=> ?_⟩
 rcases Nat.lt_or_ge hist.length n with hlt|hle
 · have en:n=hist.length+1:=by simp at hn;omega
   subst en
   rw[saidH_all,List.append_nil]
   have hold:=ht.told k hist.length t x (by rw[<-h1];exact h3) (Nat.le_refl _)
   unfold saidH at hold
   rw[List.take_of_length_le (Nat.le_refl _)] at hold
   rw[<-hold]
   constructor
   · rintro⟨v,hv,a1,a2,a3,a4⟩
     have:=h.life v hv
     refine⟨v,hv,a1,a2,⟨by omega,?_⟩,a4⟩
     rcases a3.2 with a5|a5<;>omega
   · rintro⟨v,hv,a1,a2,a3,a4⟩
     have:=h.life v hv
     refine⟨v,hv,a1,a2,⟨by omega,?_⟩,a4⟩
     rcases a3.2 with a5|a5<;>omega
 · rw [saidH_old hist [] k hle t]
   exact ht.told k n t x hg hle
theorem told_say {hist:List (List OpP)} {p:List OpP} {s:Pst} {o:OpP} (ht:Told (hist++ [p]) s) {s' :Pst} (hs:Said s s' o):Told (hist++ [p++ [o]]) s' :=by
 have h1:=ht.now
 simp only[List.length_append,List.length_singleton] at h1
 refine⟨by rw[hs.now,h1];simp,by rw[hs.gone];exact ht.gone0,by rw[hs.gone,hs.now];exact ht.gone1,fun k n t x hg hn=> ?_⟩
 simp only[List.length_append,List.length_singleton] at hn
 rw[hs.gone] at hg
 rcases Nat.lt_or_ge hist.length n with hlt|hle
 · have en:n=hist.length+1:=by omega
   subst en
   have hold:=ht.told k (hist.length+1) t x hg (by simp)
   rw[saidH_all] at hold ⊢
   rw[<-List.append_assoc,saidL_snoc]
   have hat:=hs.at' k t x
   rw[h1] at hat
   have e:((hist.length+1:Nat):Int)=(hist.length:Int)+1:=by omega
   rw[e] at hold ⊢
   have e2:((↑(hist.length+1):Int))=(hist.length:Int)+1:=by omega
   rw[e2] at hat
   rw[hat]
   split
   · rename_i hk
     constructor
     · rintro⟨a1,rfl⟩;exact⟨a1,rfl⟩
     · rintro⟨a1,rfl⟩;exact⟨a1,rfl⟩
   · exact hold
 · rw[saidH_old hist _ k hle t,hs.past k n t x (by omega),ht.told k n t x hg (by simp;omega),saidH_old hist p k hle t]
theorem say_all {hist:List (List OpP)}: ∀(l p:List OpP) (s:Pst),Wf s->Told (hist++ [p]) s->1<=s.now->l.all opB=true→
  Wf (l.foldl (fun s o=>sayO o s) s)/\Told (hist++ [p++l]) (l.foldl (fun s o=>sayO o s) s)/\(l.foldl (fun s o=>sayO o s) s).next<=s.next+3*l.length/\(l.foldl (fun s o=>sayO o s) s).now=s.now/\(l.foldl (fun s o=>sayO o s) s).gone=s.gone
 | [],p,s,h,ht,_,_=>⟨h,by simpa using ht,by simp,rfl,rfl⟩
 | o ::l,p,s,h,ht,hn,ha=>by
   simp only[List.all_cons,Bool.and_eq_true] at ha
   have hs:=said_one h ha.1 hn
   obtain⟨r1,r2,r3,r4,r5⟩:=say_all l (p++ [o]) (sayO o s) hs.wf (told_say ht hs) (by rw[hs.now];exact hn) ha.2
   have:=hs.next
   refine⟨r1,by simpa using r2,?_,by rw[<-hs.now];exact r4,by rw[<-hs.gone];exact r5⟩
   simp only[List.foldl_cons,List.length_cons]
   omega
theorem commit_ok {hist:List (List OpP)} {s:Pst} {l:List OpP} (h:Wf s) (ht:Told hist s) (ha:l.all opB=true):
  Wf (commitP l s)/\Told (hist++ [l]) (commitP l s)/\(commitP l s).next<=s.next+3*l.length/\(commitP l s).now=s.now+1/\(commitP l s).gone=s.gone:=by
 have hn:=h.now0
 obtain⟨r1,r2,r3,r4,r5⟩:=say_all l [] (beginP s) h.begin (told_begin h ht) (by simp only[beginP];omega) ha
 rw[List.nil_append] at r2
 exact⟨r1,r2,r3,r4,r5⟩
theorem forget_ok {hist:List (List OpP)} {s:Pst} {a:Int} (h:Wf s) (ht:Told hist s) (h1:s.gone<=a) (h2:a<=s.now):Wf (forgetP a s)/\Told hist (forgetP a s):=by
 have hm: ∀v∈(forgetP a s).vs,v∈s.vs:=fun v hv=>(List.mem_filter.1 hv).1
 refine⟨⟨?_,fun v hv=>h.rng v (hm v hv),fun v hv=>h.key v (hm v hv),fun v hv=>h.right v (hm v hv),fun v hv=>h.life v (hm v hv),fun v hv=>h.vals v (hm v hv),fun u hu v hv=>h.apart u (hm u hu) v (hm v hv),h.next0,?_,h.now0⟩,ht.now,by have:=ht.gone0;simp only[forgetP];omega,h2,fun k n t x hg hn=> ?_⟩
 · exact h.nod.sublist (List.Sublist.map _ List.filter_sublist)
 · have:=List.length_filter_le (fun v:Ver=> !decide (0<v.en/\v.en<=a)) s.vs
   have:=h.len
   simp only[forgetP];omega
 · simp only[forgetP] at hg
   rw[<-ht.told k n t x (by omega) hn]
   constructor
   · rintro⟨v,hv,r⟩;exact⟨v,hm v hv,r⟩
   · rintro⟨v,hv,a1,a2,a3,a4⟩
     refine⟨v,List.mem_filter.2 ⟨hv,?_⟩,a1,a2,a3,a4⟩
     have:=a3.2
     simp only[Bool.not_eq_true',decide_eq_false_iff_not]
     omega
structure Pc where
 fr:Int
 «to» :Int
 val:ByteArray
instance:Inhabited Pc:=⟨⟨0,0,ByteArray.empty⟩⟩
def Pc.has (p:Pc) (t:Int):Prop:=p.fr<=t/\t<p.to
def Pc.good (p:Pc):Prop:=p.fr<p.to/\p.val.size≠0
structure Canon (L:List Pc):Prop where
 good: ∀p∈L,p.good
 row:L.Pairwise fun p q=>p.to<=q.fr/\(p.to=q.fr->p.val≠q.val)
def Cov (L:List Pc) (t:Int) (x:ByteArray):Prop:= ∃p∈L,p.has t/\p.val=x
theorem Cov.cons {p:Pc} {L:List Pc} {t:Int} {x:ByteArray}:Cov (p::L) t x↔(p.has t/\p.val=x)\/Cov L t x:=by
 unfold Cov;simp
theorem canon_nil:Canon []:=⟨(fun _ h=>by cases h),List.Pairwise.nil⟩
theorem Canon.tail {p:Pc} {L:List Pc} (h:Canon (p::L)):Canon L:=⟨fun q hq=>h.good q (by simp[hq]),(List.pairwise_cons.1 h.row).2⟩
theorem Canon.head {p:Pc} {L:List Pc} (h:Canon (p::L)):p.good/\ ∀q∈L,p.to<=q.fr/\(p.to=q.fr->p.val≠q.val):=⟨h.good p (by simp),(List.pairwise_cons.1 h.row).1⟩
theorem canon_unique: ∀ {L M:List Pc},Canon L->Canon M->(∀t x,Cov L t x↔Cov M t x)->L=M
 | [],[],_,_,_=>rfl
 | [], q::M,_,hm,h=>by
   obtain⟨g,_⟩:=hm.head
   obtain⟨r,hr,_⟩:=(h q.fr q.val).2 ⟨q,by simp,⟨Int.le_refl _,g.1⟩,rfl⟩
   cases hr
 | p ::L,[],hl,_,h=>by
   obtain⟨g,_⟩:=hl.head
   obtain⟨r,hr,_⟩:=(h p.fr p.val).1 ⟨p,by simp,⟨Int.le_refl _,g.1⟩,rfl⟩
   cases hr
 | p ::L,q::M,hl,hm,h=>by
   obtain⟨g,gp⟩:=hl.head
   obtain⟨k,kq⟩:=hm.head
   have lo1: ∀t x,Cov (p::L) t x->p.fr<=t:=fun t x hc=>by
    rcases Cov.cons.1 hc with ⟨c,_⟩|⟨r,hr,c,_⟩
    · exact c.1
    · have:=(gp r hr).1;have:=g.1;have:=c.1;omega
   have lo2: ∀t x,Cov (q::M) t x->q.fr<=t:=fun t x hc=>by
    rcases Cov.cons.1 hc with ⟨c,_⟩|⟨r,hr,c,_⟩
    · exact c.1
    · have:=(kq r hr).1;have:=k.1;have:=c.1;omega
   have hp0:Cov (p::L) p.fr p.val:=Cov.cons.2 (.inl ⟨⟨Int.le_refl _,g.1⟩,rfl⟩)
   have hq0:Cov (q::M) q.fr q.val:=Cov.cons.2 (.inl ⟨⟨Int.le_refl _,k.1⟩,rfl⟩)
   have e1:p.fr=q.fr:=by
    have:=lo2 _ _ ((h _ _).1 hp0);have:=lo1 _ _ ((h _ _).2 hq0);omega
   have e2:p.val=q.val:=by
    rcases Cov.cons.1 ((h _ _).1 hp0) with ⟨_,e⟩|⟨r,hr,c,_⟩
    · exact e.symm
    · have:=(kq r hr).1;have:=k.1;have:=c.1;omega
   have e3:p.to=q.to:=by
    rcases Int.lt_trichotomy p.to q.to with hlt|e|hlt
    · exfalso
      have hc:Cov (q::M) p.to q.val:=Cov.cons.2 (.inl ⟨⟨by have:=g.1;omega,hlt⟩,rfl⟩)
      rcases Cov.cons.1 ((h _ _).2 hc) with ⟨c,_⟩|⟨r,hr,c,e⟩
      · have:=c.2;omega
      · have h1:=gp r hr
        have h2:=c.1
        have:p.to=r.fr:=by omega
        exact h1.2 this (by rw[e,e2])
    · exact e
    · exfalso
      have hc:Cov (p::L) q.to p.val:=Cov.cons.2 (.inl ⟨⟨by have:=k.1;omega,hlt⟩,rfl⟩)
      rcases Cov.cons.1 ((h _ _).1 hc) with ⟨c,_⟩|⟨r,hr,c,e⟩
      · have:=c.2;omega
      · have h1:=kq r hr
        have h2:=c.1
        have:q.to=r.fr:=by omega
        exact h1.2 this (by rw[e,e2])
   have epq:p=q:=by
    obtain⟨_,_,_⟩:=p;obtain⟨_,_,_⟩:=q
    simp only at e1 e2 e3;subst e1 e2 e3;rfl
   subst epq
   congr 1
   refine canon_unique hl.tail hm.tail fun t x=> ?_
   have hA: ∀L',(∀q∈L',p.to<=q.fr/\(p.to=q.fr->p.val≠q.val))->(Cov L' t x↔Cov (p::L') t x/\p.to<=t):=fun L' hL' =>by
    rw[Cov.cons]
    constructor
    · intro hc
      obtain⟨r,hr,c,e⟩:=hc
      exact⟨.inr ⟨r,hr,c,e⟩,by have:=(hL' r hr).1;have:=c.1;omega⟩
    · rintro⟨c|c,hle⟩
      · have:=c.1.2;omega
      · exact c
   rw[hA L gp,hA M kq,h]
def joinStep (out:List Pc) (x:Pc):List Pc:=match out.getLast? with
 | some l=>if l.to=x.fr/\l.val=x.val then out.dropLast++ [⟨l.fr,x.to,l.val⟩] else out++ [x]
 | none=> [x]
def joinP (l:List Pc):List Pc:=l.foldl joinStep []
structure Rows (L:List Pc):Prop where
 good: ∀p∈L,p.good
 row:L.Pairwise fun p q=>p.to<=q.fr
theorem joinStep_length (out:List Pc) (x:Pc):(joinStep out x).length<=out.length+1:=by
 unfold joinStep
 split
 · split
   · simp[List.length_dropLast]
   · simp
 · simp
theorem Cov.append {L M:List Pc} {t:Int} {x:ByteArray}:Cov (L++M) t x↔Cov L t x\/Cov M t x:=by
 unfold Cov;simp only[List.mem_append]
 constructor
 · rintro⟨p,h|h,r⟩
   · exact .inl ⟨p,h,r⟩
   · exact .inr ⟨p,h,r⟩
 · rintro(⟨p,h,r⟩|⟨p,h,r⟩)
   · exact⟨p,.inl h,r⟩
   · exact⟨p,.inr h,r⟩
theorem cov_one {p:Pc} {t:Int} {x:ByteArray}:Cov [p] t x↔p.has t/\p.val=x:=by simp[Cov]
theorem joinStep_spec {out:List Pc} {x:Pc} (hc:Canon out) (hx:x.good) (hlt: ∀p∈out,p.to<=x.fr):
  Canon (joinStep out x)/\(∀t y,Cov (joinStep out x) t y↔Cov out t y\/(x.has t/\x.val=y))/\(∀p∈joinStep out x,p.to<=x.to):=by
 unfold joinStep
 cases hl:out.getLast? with
 | none=>
   have:out= []:=by simpa using hl
   subst this
   refine⟨⟨fun p hp=> ?_,by simp⟩,fun t y=> ?_,fun p hp=> ?_⟩
   · simp at hp;rw[hp];exact hx
   · show Cov [x] t y↔_
     rw[cov_one];simp[Cov]
   · simp at hp;rw[hp];exact Int.le_refl _
 | some l=>
   obtain⟨m,rfl⟩: ∃m,out=m++ [l]:=by
    rcases List.eq_nil_or_concat out with rfl|⟨m,a,rfl⟩
    · simp at hl
    · simp at hl;subst hl;exact⟨m,by simp⟩
   have hgl:=hc.good l (by simp)
   have hll:=hlt l (by simp)
   have hrow:=List.pairwise_append.1 hc.row
   show Canon (if l.to=x.fr/\l.val=x.val then (m++ [l]).dropLast++ [⟨l.fr,x.to,l.val⟩] else m++ [l]++ [x])/\_
   by_cases h:l.to=x.fr/\l.val=x.val
   · simp only[if_pos h,List.dropLast_concat]
     refine⟨⟨fun p hp=> ?_,?_⟩,fun t y=> ?_,fun p hp=> ?_⟩
     · rcases List.mem_append.1 hp with hp|hp
       · exact hc.good p (by simp[hp])
       · simp at hp;subst hp;exact⟨by have:=hgl.1;have:=hx.1;simp only;omega,hgl.2⟩
     · refine List.pairwise_append.2 ⟨hrow.1,by simp,fun p hp q hq=> ?_⟩
       simp at hq;subst hq
       exact hrow.2.2 p hp l (by simp)
     · rw [Cov.append,Cov.append,cov_one,cov_one,or_assoc]
       refine or_congr Iff.rfl ?_
       unfold Pc.has
       simp only
       have:=hgl.1;have:=hx.1
       constructor
       · rintro⟨c,rfl⟩
         by_cases ht:t<l.to
         · exact .inl ⟨⟨c.1,ht⟩,rfl⟩
         · exact .inr ⟨⟨by omega,c.2⟩,h.2.symm⟩
       · rintro(⟨c,rfl⟩|⟨c,rfl⟩)
         · exact⟨⟨c.1,by omega⟩,rfl⟩
         · exact⟨⟨by omega,c.2⟩,h.2⟩
     · rcases List.mem_append.1 hp with hp|hp
       · have:=hlt p (by simp[hp]);have:=hx.1;omega
       · simp at hp;subst hp;exact Int.le_refl _
   · simp only[if_neg h]
     refine⟨⟨fun p hp=> ?_,?_⟩,fun t y=> ?_,fun p hp=> ?_⟩
     · rcases List.mem_append.1 hp with hp|hp
       · exact hc.good p hp
       · simp at hp;subst hp;exact hx
     · refine List.pairwise_append.2 ⟨hc.row,by simp,fun p hp q hq=> ?_⟩
       simp at hq;subst hq
       refine⟨hlt p hp,fun e=> ?_⟩
       rcases List.mem_append.1 hp with hp|hp
       · exfalso
         have h1:=(hrow.2.2 p hp l (by simp)).1
         have h2:=hgl.1
         omega
       · simp at hp;subst hp
         exact fun e' =>h ⟨e,e'⟩
     · rw[Cov.append,cov_one]
     · rcases List.mem_append.1 hp with hp|hp
       · have:=hlt p hp;have:=hx.1;omega
       · simp at hp;subst hp;exact Int.le_refl _
theorem join_from: ∀(l out:List Pc),Canon out->Rows l->(∀p∈out,∀q∈l,p.to<=q.fr)->Canon (l.foldl joinStep out)/\ ∀t y,Cov (l.foldl joinStep out) t y↔Cov out t y\/Cov l t y
 | [],out,h,_,_=>⟨h,fun t y=>by simp[Cov]⟩
 | x ::l,out,h,hr,hlt=>by
   obtain⟨r1,r2⟩:=List.pairwise_cons.1 hr.row
   obtain⟨c1,c2,c3⟩:=joinStep_spec h (hr.good x (by simp)) (fun p hp=>hlt p hp x (by simp))
   obtain⟨d1,d2⟩:=join_from l (joinStep out x) c1 ⟨fun p hp=>hr.good p (by simp[hp]),r2⟩ (fun p hp q hq=>by have:=c3 p hp;have:=r1 q hq;omega)
   refine⟨d1,fun t y=> ?_⟩
   rw[List.foldl_cons,d2,c2,Cov.cons,or_assoc]
theorem join_spec {l:List Pc} (h:Rows l):Canon (joinP l)/\ ∀t y,Cov (joinP l) t y↔Cov l t y:=by
 obtain⟨a,b⟩:=join_from l [] canon_nil h (fun p hp=>by cases hp)
 exact⟨a,fun t y=>by rw[show joinP l=l.foldl joinStep [] from rfl,b];simp[Cov]⟩
theorem joinP_length (l:List Pc):(joinP l).length<=l.length:=by
 have : ∀(l out:List Pc),(l.foldl joinStep out).length<=out.length+l.length:=fun l=>by
  induction l with
  | nil=>intro out;simp
  | cons x l ih=>intro out;rw[List.foldl_cons,List.length_cons];have:=ih (joinStep out x);have:=joinStep_length out x;omega
 have h:=this l []
 unfold joinP
 simpa using h
end Go.Proofs.YtpgkjnebklknjaaGreatDoor
