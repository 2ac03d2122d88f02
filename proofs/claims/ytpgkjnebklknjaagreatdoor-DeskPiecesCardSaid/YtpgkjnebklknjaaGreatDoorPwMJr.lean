/-Of which keys anything was said (Keys). -/
import Derived.Shelf.SlSortCmp.NoneTotal
import Derived.Sort.OwnSortedInts
import Derived.LoopTactic
import Derived.Maps.RangeWalk
import Derived.Laws.IdiomRangeMap
import Derived.Test.YtpgkjnebklknjaaGreatDoorKitJr
import Derived.Test.YtpgkjnebklknjaaGreatDoorFcEJr
import Derived.Test.YtpgkjnebklknjaaGreatDoorFactMJr
import Derived.Test.YtpgkjnebklknjaaGreatDoorBesideJr
import Derived.Test.YtpgkjnebklknjaaGreatDoorPwEJr
import Derived.Test.YtpgkjnebklknjaaGreatDoorPwHJr
namespace Go.Proofs.YtpgkjnebklknjaaGreatDoor
open Go.RowKit Go.Shelf Go.Sort
def Lays (w w' :World):Prop:= ∃q os,w' =grow (w.drewN q) os
theorem Lays.refl (w:World):Lays w w:=⟨0,#[],by simp[grow,World.drewN]⟩
theorem Lays.alloc {a w:World} (h:Lays a w) (o:Obj):Lays a (w.alloc o):=by
 obtain⟨q,os,rfl⟩:=h
 exact⟨q,os++ #[o],by rw[alloc_eq_grow,grow_grow]⟩
section
variable {α:Type} (enc:α->List Value) (k:Nat) (hk: ∀x,(enc x).length=k) (h0:0<k)
include hk in
theorem flatMap_len (l:List α):(l.flatMap enc).length=l.length*k:=by
 induction l with
 | nil=>simp
 | cons a l ih=>rw[List.flatMap_cons,List.length_append,ih,hk,List.length_cons,Nat.add_mul];omega
include hk h0 in
theorem flatMap_get: ∀(l:List α) (t:Nat),(l.flatMap enc)[t]? =(l[t / k]?).bind fun x=>(enc x)[t % k]?
 | [],t=>by simp
 | a ::l,t=>by
   rw[List.flatMap_cons]
   by_cases ht:t<k
   · rw[List.getElem?_append_left (by rw[hk];exact ht),Nat.div_eq_of_lt ht,Nat.mod_eq_of_lt ht];simp
   · rw [List.getElem?_append_right (by rw[hk];omega),hk,flatMap_get l (t-k)]
     have e1:t / k=(t-k) / k+1:=by rw[<-Nat.add_div_right _ h0];congr 1;omega
     have e2:t % k=(t-k) % k:=by rw[<-Nat.add_mod_right (t-k)];congr 1;omega
     rw[e1,e2];simp
include hk h0 in
theorem flatK_toList [Inhabited α] (l:List α):(flatK enc k l.toArray).toList=l.flatMap enc:=by
 apply List.ext_getElem?
 intro t
 rw[flatMap_get enc k hk h0]
 by_cases ht:t<l.length*k
 · have hd:t / k<l.length:=Nat.div_lt_of_lt_mul (by rw[Nat.mul_comm];exact ht)
   have hm:t % k<k:=Nat.mod_lt _ h0
   simp[flatK,ht,hd,hk,hm]
 · have hd: ¬t / k<l.length:=fun h=>ht (by
    have h1:=Nat.div_add_mod t k
    have h2:=Nat.mod_lt t h0
    have h3:k*(t / k)+k<=k*l.length:=by rw[<-Nat.mul_succ];exact Nat.mul_le_mul_left _ h
    rw[Nat.mul_comm l.length];omega)
   rw[List.getElem?_eq_none (by simp;omega)]
   simp[List.getElem?_eq_none (Nat.le_of_not_lt hd)]
end
theorem heap_putRow {w:World} {g n:Nat} {os:Array Obj} {cur:Array Value} {e:TypeId} {fr:Nat×Nat} (F:Array Value) (hb:w.heap[g]? =some (.cells cur e fr)):
  (grow (putRow id (Sort.ahead w n) g 0 F) os).heap[g]? =some (.cells (putCells id 0 F cur) e fr):=by
 have hg:g<w.heap.size:=(Array.getElem?_eq_some_iff.1 hb).1
 rw[heap_grow_old _ _ (by simpa using hg)]
 simp[putRow,mapBlock,Sort.ahead,Array.getElem?_modify,hb,onCells]
theorem grownBy_putRow {w:World} {g n:Nat} {os:Array Obj} (F:Array Value):w.grownBy (grow (putRow id (Sort.ahead w n) g 0 F) os) (some g):=by
 refine⟨rfl,rfl,rfl,by simp,fun k hk hne=> ?_⟩
 rw[heap_grow_old _ _ (by simpa using hk)]
 have:g≠k:=fun e=>hne (by rw[e])
 simp[putRow,mapBlock,Sort.ahead,Array.getElem?_modify,this]
theorem take_putCells_id (cur F:Array Value) (h:F.size<=cur.size):(putCells id 0 F cur).toList.take F.size=F.toList:=by
 apply List.ext_getElem?
 intro j
 by_cases hj:j<F.size
 · rw [List.getElem?_take_of_lt hj,Array.getElem?_toList]
   simp[putCells,hj,show j<cur.size by omega]
 · rw[List.getElem?_take_eq_none (by omega),List.getElem?_eq_none (by simp;omega)]
theorem sortFunc_own {P:Program} {ρ:Ren} {α:Type} [Inhabited α] (L:SlLaysF0.n6 P ρ) (k:Nat) (h0:0<k) (aE: ∀w,(isAgg (ρ.t 24)).run P w= .ok true w) (zE: ∀w,(Go.sizeOf (ρ.t 24)).run P w= .ok k w) (enc:α->List Value)
  (hk: ∀x,(enc x).length=k) (h1: ∀x,∀v∈enc x,v.oneCell' =true) (cf:α->α->Int) (hO:SWO (ltOf cf)) (hT: ∀x y,(ltOf cf) x y=false->(ltOf cf) y x=false->x=y) (g:Nat) (cb:Array Value) (eg: ∀args w,(callFunc g args).run P w= .ok (.enter g args) w)
  (hcmp: ∀(W:World) (x y:α),Calls P g (#[.agg (enc x).toArray,.agg (enc y).toArray]++cb) W fun e w' =>e= .returned (.int .i64 (cf x y))/\Lays W w')
  (base:Nat) (e:TypeId) (v:Value) (l:List α) (w:World) (hown:w.ownsRow base e k v l.length (l.flatMap enc)) (hb:base<=w.heap.size) (hsz:l.length<4611686018427387904):
  Calls P (ρ.f 6) #[v,.func (.func g) #[] cb] w fun e' w' =>e' = .returned (.tuple #[])/\w'.ownsRow base e k v l.length ((l.mergeSort fun x y=> !(ltOf cf) y x).flatMap enc)/\Below base w w' :=by
 rcases hown.2 with ⟨rfl,hn⟩|⟨g0,cap,cur,rfl,hbg,hh,hnc,hcm,hcs,htk⟩
 · have hl:l= []:=List.eq_nil_of_length_eq_zero hn
   subst hl
   refine(AnyF.slices_SortFunc_none L none 0 _ w).mono ?_
   rintro e w' ⟨rfl,rfl⟩
   exact⟨rfl,by simpa using hown,Below.refl _ _⟩
 · have hgl:g0<w.heap.size:=(Array.getElem?_eq_some_iff.1 hh).1
   have hF:(flatK enc k l.toArray).toList=l.flatMap enc:=flatK_toList enc k hk h0 l
   have hH:HoldsK enc k w g0 0 l.toArray:=by
    intro j hj
    have hj' :j<l.length*k:=by simpa using hj
    rw[Nat.zero_add]
    refine⟨?_,hown.frozenAt j⟩
    rw[hown.cellAt j hj', <-hF]
    simp[hj']
   refine(AnyQ.slices_SortFunc_total L k aE zE enc hk h1 cf hO g cb g0 0 cap l.toArray w eg (fun m os dk _ x y=>hcmp _ x y) hH hgl (by simpa using hsz) hT).mono ?_
   rintro e' w' ⟨rfl,n,os,rfl⟩
   have hF' :=flatK_toList enc k hk h0 (l.mergeSort fun x y=> !(ltOf cf) y x)
   have hsize:(flatK enc k (l.mergeSort fun x y=> !(ltOf cf) y x).toArray).size=l.length*k:=by simp
   refine⟨rfl,⟨by rw[flatMap_len enc k hk];simp,.inr ⟨g0,cap,_,rfl,hbg,heap_putRow _ hh,hnc,hcm,by simp[putCells,hcs],?_⟩⟩,(Below.refl base w).grown (grownBy_putRow _) hb (fun k hk=>by cases hk;exact hbg)⟩
   have:=take_putCells_id cur (flatK enc k (l.mergeSort fun x y=> !(ltOf cf) y x).toArray) (by rw[hsize,hcs];exact Nat.mul_le_mul_right _ hnc)
   rw[hsize,hF'] at this
   exact this
end Go.Proofs.YtpgkjnebklknjaaGreatDoor
namespace Go.Proofs.YtpgkjnebklknjaaGreatDoor
open Go.RowKit Go.Shelf Go.Sort
set_option maxHeartbeats 1000000 in
theorem fcmp_lays (k a b k' a' b' :Int) (s s' :ByteArray) (w:World):
  Calls Tryz.prog 170 #[.agg #[.int .i64 k,.int .i64 a,.string s,.int .i64 b],.agg #[.int .i64 k',.int .i64 a',.string s',.int .i64 b']] w fun e w' =>e= .returned (.int .i64 (keyCmp ⟨k,a,s,b⟩ ⟨k',a',s',b'⟩))/\Lays w w' :=by
 have i1:=fun w=>(cmpArr k k' a a' w).1
 have i2:=fun w=>(cmpArr k k' a a' w).2
 have b2:Lays w ((w.alloc (.cells #[.int .i64 k,.int .i64 a,.string s,.int .i64 b] 97)).alloc (.cells #[.int .i64 k',.int .i64 a',.string s',.int .i64 b'] 97)):=((Lays.refl w).alloc _).alloc _
 have b3:Lays w (((w.alloc (.cells #[.int .i64 k,.int .i64 a,.string s,.int .i64 b] 97)).alloc (.cells #[.int .i64 k',.int .i64 a',.string s',.int .i64 b'] 97)).alloc (.cells #[.int .i64 k,.int .i64 k'] 251)):=b2.alloc _
 have b4:Lays w ((((w.alloc (.cells #[.int .i64 k,.int .i64 a,.string s,.int .i64 b] 97)).alloc (.cells #[.int .i64 k',.int .i64 a',.string s',.int .i64 b'] 97)).alloc (.cells #[.int .i64 k,.int .i64 k'] 251)).alloc (.cells #[.int .i64 a,.int .i64 a'] 251)):=b3.alloc _
 by_cases h1:k=k'
 · subst h1
   by_cases h2:a=a'
   · subst h2
     by_cases h3:s=s'
     · subst h3
       by_cases h4:b=b'
       · subst h4
         have e:keyCmp ⟨k,a,s,b⟩ ⟨k,a,s,b⟩=0:=by unfold keyCmp;simp
         rw[e];clear e
         go_enter Tryz.func170,Tryz.ntmps170
         go_wp2
         refine wp_loop_rounds 3 ?_
         rw[rounds_succ]
         go_wp2
         rw[rounds_succ]
         go_wp2
         rw[rounds_succ]
         go_wp2
         go_ret
         exact⟨rfl,b4⟩
       · have e:keyCmp ⟨k,a,s,b⟩ ⟨k,a,s,b'⟩=sgn (decide (b' <b)):=by unfold keyCmp;simp[h4]
         rw[e];clear e
         have n4:(b !=b')=true:=by simpa using h4
         have n5:((b:Int)==b')=false:=by simpa using h4
         go_enter Tryz.func170,Tryz.ntmps170
         go_wp2
         refine wp_loop_rounds 3 ?_
         rw[rounds_succ]
         go_wp2
         rw[rounds_succ]
         go_wp2
         rw[rounds_succ]
         go_wp2_with (go_at_call 234;refine(sign_any _ _).mono ?_;rintro e w' ⟨rfl,rfl⟩)
         go_ret
         exact⟨rfl,b4⟩
     · have n3:(!s.toList==s'.toList)=true:=by
        have: ¬s.toList=s'.toList:=fun e=>h3 (bytes_ext (by rw[<-ByteArray.toList_eq, <-ByteArray.toList_eq];exact e))
        simpa using this
       have n4:(s.toList==s'.toList)=false:=by simpa using n3
       have e:keyCmp ⟨k,a,s,b⟩ ⟨k,a,s',b'⟩=sgn (!(Op.bytesLess s.toList s'.toList||(s.toList==s'.toList))):=by
        have h:(!(Op.bytesLess s.toList s'.toList||(s.toList==s'.toList)))=Op.bytesLess s'.data.toList s.data.toList:=by
         rw[n4,Bool.or_false,ByteArray.toList_eq,ByteArray.toList_eq]
         rcases bless_tri s.data.toList s'.data.toList with h|h|h
         · rw[h,bless_asymm _ _ h];rfl
         · exact absurd (bytes_ext h) h3
         · rw[h,bless_asymm _ _ h];rfl
        rw[h]
        unfold keyCmp;simp[h3]
       rw[e];clear e
       go_enter Tryz.func170,Tryz.ntmps170
       go_wp2
       refine wp_loop_rounds 3 ?_
       rw[rounds_succ]
       go_wp2
       rw[rounds_succ]
       go_wp2
       rw[rounds_succ]
       go_wp2_with (go_at_call 234;refine(sign_any _ _).mono ?_;rintro e w' ⟨rfl,rfl⟩)
       go_ret
       exact⟨by rw[n4,Bool.or_false];rfl,b4⟩
   · have e:keyCmp ⟨k,a,s,b⟩ ⟨k,a',s',b'⟩=sgn (decide (a' <a)):=by unfold keyCmp;simp[h2]
     rw[e];clear e
     have n4:(a !=a')=true:=by simpa using h2
     go_enter Tryz.func170,Tryz.ntmps170
     go_wp2
     refine wp_loop_rounds 3 ?_
     rw[rounds_succ]
     go_wp2
     rw[rounds_succ]
     go_wp2_with (go_at_call 234;refine(sign_any _ _).mono ?_;rintro e w' ⟨rfl,rfl⟩)
     go_ret
     exact⟨rfl,b4⟩
 · have e:keyCmp ⟨k,a,s,b⟩ ⟨k',a',s',b'⟩=sgn (decide (k' <k)):=by unfold keyCmp;simp[h1]
   rw[e];clear e
   have n4:(k !=k')=true:=by simpa using h1
   go_enter Tryz.func170,Tryz.ntmps170
   go_wp2
   refine wp_loop_rounds 3 ?_
   rw[rounds_succ]
   go_wp2_with (go_at_call 234;refine(sign_any _ _).mono ?_;rintro e w' ⟨rfl,rfl⟩)
   go_ret
   exact⟨rfl,b3⟩
def encK (k:KeyP):List Value:= [.int .i64 k.kind,.int .i64 k.a,.string k.word,.int .i64 k.b]
def flatKeys (l:List KeyP):List Value:=l.flatMap encK
theorem cmpK_lt (x y:KeyP):ltOf keyCmp x y=keyLess x y:=by
 unfold ltOf
 rw[cmp_less]
 cases h:keyLess x y
 · by_cases e:x=y
   · simp[e]
   · simp[e]
 · simp
theorem swoK:SWO (ltOf keyCmp) where
 irrefl x:=by rw[cmpK_lt];exact keyLess_irrefl x
 trans x y z h1 h2:=by rw[cmpK_lt] at*;exact keyLess_trans x y z h1 h2
 ntrans x y z h1 h2:=by
  rw[cmpK_lt] at*
  cases h:keyLess x z with
  | false=>rfl
  | true=>
    rcases keyLess_tri x y with h3|h3|h3
    · rw[h1] at h3;cases h3
    · subst h3;rw[h2] at h;cases h
    · rw[keyLess_trans y x z h3 h] at h2;cases h2
theorem totK (x y:KeyP) (h1:ltOf keyCmp x y=false) (h2:ltOf keyCmp y x=false):x=y:=by
 rw[cmpK_lt] at*
 rcases keyLess_tri x y with h3|h3|h3
 · rw[h1] at h3;cases h3
 · exact h3
 · rw[h2] at h3;cases h3
def sortKeys (l:List KeyP):List KeyP:=l.mergeSort fun x y=> !(ltOf keyCmp) y x
theorem sortKeys_perm (l:List KeyP):(sortKeys l).Perm l:=List.mergeSort_perm _ _
theorem sortKeys_sorted {l:List KeyP} (hn:l.Nodup):(sortKeys l).Pairwise fun x y=>keyLess x y=true:=by
 have h1:=List.pairwise_mergeSort (le:=fun x y:KeyP=> !(ltOf keyCmp) y x) (fun a b c h1 h2=>by
  rw[cmpK_lt,Bool.not_eq_true'] at*
  cases h:keyLess c a with
  | false=>rfl
  | true=>
    rcases keyLess_tri b c with h3|h3|h3
    · rw[keyLess_trans b c a h3 h] at h1;cases h1
    · subst h3;rw[h1] at h;cases h
    · rw[h2] at h3;cases h3) (fun a b=>by
  rw[cmpK_lt,cmpK_lt]
  cases h:keyLess b a with
  | false=>simp
  | true=>rw[keyLess_asymm b a h];rfl) l
 have h2:(sortKeys l).Nodup:=(sortKeys_perm l).nodup_iff.2 hn
 refine(h1.and h2).imp fun {a b} h=> ?_
 obtain⟨h3,h4⟩:=h
 rw[cmpK_lt,Bool.not_eq_true'] at h3
 rcases keyLess_tri a b with h5|h5|h5
 · exact h5
 · exact absurd h5 h4
 · rw[h3] at h5;cases h5
theorem sortKeys_own (base:Nat) (v:Value) (l:List KeyP) (w:World) (hown:w.ownsRow base 97 4 v l.length (flatKeys l)) (hb:base<=w.heap.size) (hsz:l.length<4611686018427387904):
  Calls Tryz.prog 169 #[v,.func (.func 170) #[] #[]] w fun e' w' =>e' = .returned (.tuple #[])/\w'.ownsRow base 97 4 v l.length (flatKeys (sortKeys l))/\Below base w w' :=
 sortFunc_own Tryz.sortKey 4 (by decide) Tryz.isAgg97 Tryz.sizeOf97 encK (fun _=>rfl) (fun x v hv=>by simp[encK] at hv;rcases hv with rfl|rfl|rfl|rfl<;>rfl) keyCmp swoK totK 170 #[] (enters_of Tryz.func170 (by kernel_rfl) rfl)
  (fun W x y=>fcmp_lays x.kind x.a x.b y.kind y.a y.b x.word y.word W) base 97 v l w hown hb hsz
open Go.RowKit Go.Deep Go.Shelf Go.Sort Go.Maps
def valE (s:Pst) (k:KeyP) (a t:Int):Int:=if askE s a≠0 then askE s a else if keyB k && timeB t then 0 else 1
def valV (s:Pst) (k:KeyP) (a t:Int):Value:= .tuple #[.string (if valE s k a t=0 then valueP s.vs k a t else ⟨#[]⟩),errN (valE s k a t)]
theorem valV_ask {s:Pst} {k:KeyP} {a t:Int} (h:askE s a≠0):valV s k a t= .tuple #[.string ⟨#[]⟩,errV (askE s a)]:=by
 have:valE s k a t=askE s a:=by unfold valE;rw[if_pos h]
 unfold valV;rw[this,if_neg h,errN_ne h]
theorem valV_arg {s:Pst} {k:KeyP} {a t:Int} (h:askE s a=0) (hb:(keyB k && timeB t)=false):valV s k a t= .tuple #[.string ⟨#[]⟩,errV 1]:=by
 have:valE s k a t=1:=by unfold valE;rw[if_neg (by simpa using h),if_neg (by rw[hb];decide)]
 unfold valV;rw[this];rfl
theorem valV_ok {s:Pst} {k:KeyP} {a t:Int} (h:askE s a=0) (hk:keyB k=true) (ht:timeB t=true):valV s k a t= .tuple #[.string (valueP s.vs k a t),.nilIface]:=by
 have:valE s k a t=0:=by unfold valE;rw[if_neg (by simpa using h),if_pos (by rw[hk,ht];rfl)]
 unfold valV;rw[this];rfl
set_option maxRecDepth 100000 in
set_option maxHeartbeats 2000000 in
theorem pvalue_ask (k:KeyP) (a t:Int) (pb po:Nat) (R:Rest) (s:Pst) (g:Gh) (w:World) (h:PastAt w pb po R s g) (ha:askE s a≠0):
  Calls Tryz.prog 118 #[.pointer (some ⟨pb,po,none⟩),.agg #[.int .i64 k.kind,.int .i64 k.a,.string k.word,.int .i64 k.b],.int .i64 a,.int .i64 t] w fun e w' =>e= .returned (.tuple #[.string ⟨#[]⟩,errV (askE s a)])/\Below w.heap.size w w' :=by
 have hR:=fun W (hB:Below w.heap.size w W)=>pright_any pb po R s g a W (h.below hB)
 rw[errN_ne ha] at hR
 obtain⟨n,hn⟩: ∃n,n=askE s a:=⟨_,rfl⟩
 rw[<-hn] at hR ⊢
 unfold errV at*
 have HR:=Lib.hid hR
 clear hR hn ha h
 go_enter Tryz.func118,Tryz.ntmps118
 go_wp2_with fail
 refine(HR.out _ ((Below.refl _ _).alloc (Nat.le_refl _) _)).mono ?_
 rintro e w1 ⟨rfl,rfl⟩
 go_wp2_with fail
 go_ret2
 exact⟨rfl,(Below.refl _ _).alloc (Nat.le_refl _) _⟩
set_option maxRecDepth 100000 in
set_option maxHeartbeats 2000000 in
theorem pvalue_arg (k:KeyP) (a t:Int) (pb po:Nat) (R:Rest) (s:Pst) (g:Gh) (w:World) (h:PastAt w pb po R s g) (hs:k.word.size<=maxLen) (ha:askE s a=0) (hb:(keyB k && timeB t)=false):
  Calls Tryz.prog 118 #[.pointer (some ⟨pb,po,none⟩),.agg #[.int .i64 k.kind,.int .i64 k.a,.string k.word,.int .i64 k.b],.int .i64 a,.int .i64 t] w fun e w' =>e= .returned (.tuple #[.string ⟨#[]⟩,errV 1])/\Below w.heap.size w w' :=by
 have hR:=fun W (hB:Below w.heap.size w W)=>pright_any pb po R s g a W (h.below hB)
 rw[ha,errN_0] at hR
 have HR:=Lib.hid hR
 have hK:=fun W=>fkey_any k.kind k.a k.b k.word W hs
 rw[show(⟨k.kind,k.a,k.word,k.b⟩:KeyP)=k from rfl] at hK
 unfold errV
 clear hR ha h hs
 cases hk:keyB k
 · rw [hk] at hK
   have HK:=Lib.hid hK
   clear hK hb hk
   go_enter Tryz.func118,Tryz.ntmps118
   go_wp2_with fail
   refine(HR.out _ ((Below.refl _ _).alloc (Nat.le_refl _) _)).mono ?_
   rintro e w1 ⟨rfl,rfl⟩
   go_wp2_with fail
   refine(HK.out _).mono ?_
   rintro e w2 ⟨rfl,b2⟩
   have B2:=below_over b2
   clear b2
   go_wp2_with fail
   go_ret2
   exact⟨rfl,B2⟩
 · rw [hk] at hK hb
   have HK:=Lib.hid hK
   have ht:timeB t=false:=by simpa using hb
   clear hK hb hk
   by_cases h1:t< -1099511627776
   · clear ht
     go_enter Tryz.func118,Tryz.ntmps118
     go_wp2_with fail
     refine(HR.out _ ((Below.refl _ _).alloc (Nat.le_refl _) _)).mono ?_
     rintro e w1 ⟨rfl,rfl⟩
     go_wp2_with fail
     refine(HK.out _).mono ?_
     rintro e w2 ⟨rfl,b2⟩
     have B2:=below_over b2
     clear b2
     go_wp2_with fail
     go_ret2
     exact⟨rfl,B2⟩
   · have h2:1099511627776<=t:=by unfold timeB at ht;simp at ht;omega
     have h1' :decide (t< -1099511627776)=false:=by simpa using h1
     clear ht h1
     go_enter Tryz.func118,Tryz.ntmps118
     go_wp2_with fail
     refine(HR.out _ ((Below.refl _ _).alloc (Nat.le_refl _) _)).mono ?_
     rintro e w1 ⟨rfl,rfl⟩
     go_wp2_with fail
     refine(HK.out _).mono ?_
     rintro e w2 ⟨rfl,b2⟩
     have B2:=below_over b2
     clear b2
     go_wp2_with fail
     go_ret2
     exact⟨rfl,B2⟩
theorem find_take_none {l:List Int} {p:Int->Bool} {k:Nat} {x:Int} (h:(l.take k).find? p=none) (hx:l[k]? =some x) (hp:p x=false):(l.take (k+1)).find? p=none:=by
 rw[List.take_succ_eq_append_getElem (List.getElem?_eq_some_iff.1 hx).1,(List.getElem?_eq_some_iff.1 hx).2,List.find?_append,h]
 simp[hp]
theorem find_at {l:List Int} {p:Int->Bool} {k:Nat} {x:Int} (h:(l.take k).find? p=none) (hx:l[k]? =some x) (hp:p x=true):l.find? p=some x:=by
 have:l=l.take (k+1)++l.drop (k+1):=(List.take_append_drop _ _).symm
 rw[this,List.take_succ_eq_append_getElem (List.getElem?_eq_some_iff.1 hx).1,(List.getElem?_eq_some_iff.1 hx).2,List.find?_append,List.find?_append,h]
 simp[hp]
theorem atK_ids {s:Pst} (_hi:Ids s) (k:KeyP) (t:Int) {id:Int} (ht:timeB t=true) (hid:id∈atL (itemsK s.vs k) t): ∃v∈s.vs,v.id=id:=by
 obtain⟨x,hx,e,_⟩:=(mem_atL ht).1 hid
 obtain⟨v,hv,_,rfl⟩:=mem_itemsK.1 hx
 exact⟨v,hv,e⟩
theorem Ids.verAt {s:Pst} (h:Ids s) {v:Ver} (hv:v∈s.vs):verAt s.vs v.id=v:=by
 have hf:s.vs.find? (fun u=>decide (u.id=v.id))=some v:=by
  cases hf:s.vs.find? (fun u=>decide (u.id=v.id)) with
  | none=>
    have:=List.find?_eq_none.1 hf v hv
    simp at this
  | some u=>
    have h1:=List.find?_some hf
    have h2:=List.mem_of_find?_eq_some hf
    rw[nodup_inj (·.id) s.vs h.nod u h2 v hv (by simpa using h1)]
 unfold Go.Proofs.YtpgkjnebklknjaaGreatDoor.verAt;rw[hf];rfl
set_option maxRecDepth 100000 in
set_option maxHeartbeats 4000000 in
theorem pvalue_none (k:KeyP) (a t:Int) (pb po:Nat) (R:Rest) (s:Pst) (g:Gh) (w:World) (h:PastAt w pb po R s g) (ha:askE s a=0) (hk:keyB k=true) (ht:timeB t=true) (hy:treeFor g.ts k=none):
  Calls Tryz.prog 118 #[.pointer (some ⟨pb,po,none⟩),.agg #[.int .i64 k.kind,.int .i64 k.a,.string k.word,.int .i64 k.b],.int .i64 a,.int .i64 t] w fun e w' =>e= .returned (.tuple #[.string ⟨#[]⟩,.nilIface])/\Below w.heap.size w w' :=by
 have hR:=fun W (hB:Below w.heap.size w W)=>pright_any pb po R s g a W (h.below hB)
 rw[ha,errN_0] at hR
 have HR:=Lib.hid hR
 have hs:k.word.size<=maxLen:=by have:=(wfkey hk).2;unfold maxLen;omega
 have hK:=fun W=>fkey_any k.kind k.a k.b k.word W hs
 rw[show(⟨k.kind,k.a,k.word,k.b⟩:KeyP)=k from rfl,hk] at hK
 have hlk: ∀W,Below w.heap.size w W->(Instr.lookup 124 (.map g.tm) (.agg #[.int .i64 k.kind,.int .i64 k.a,.string k.word,.int .i64 k.b]) false).run Tryz.prog W= .ok (.pointer none) W:=fun W hB=>by
  have:=tree_look (h.below hB).trees h.keyOk hk
  rw[trPtr_none hy] at this
  exact this
 have ht' : -1099511627776<=t/\t<1099511627776:=by simpa [timeB] using ht
 obtain⟨ht1,ht2⟩:=ht'
 have ht3:decide (t< -1099511627776)=false:=by simp;omega
 have ht4:decide (1099511627776<=t)=false:=by simp;omega
 have hc: ∀W,Below w.heap.size w W->W.cell? ⟨pb,po+4,none⟩=some (.map g.tm):=fun W hB=>(past_cells (h.below hB).len (h.below hB).cells).2.2.2.2
 have HK:=Lib.hid hK
 have HLK:=Lib.hid hlk
 have HC:=Lib.hid hc
 clear hR hK hlk hc ha hk hs ht hy h
 go_enter Tryz.func118,Tryz.ntmps118
 go_wp2_with fail
 refine(HR.out _ ((Below.refl _ _).alloc (Nat.le_refl _) _)).mono ?_
 rintro e w1 ⟨rfl,rfl⟩
 go_wp2_with fail
 refine(HK.out _).mono ?_
 rintro e w2 ⟨rfl,b2⟩
 have B2:=below_over b2
 have k0:=(b2.cell (p:=⟨w.heap.size,0,none⟩) (by simp)).trans (show _=some (.int .i64 k.kind) by simp)
 have k1:=(b2.cell (p:=⟨w.heap.size,1,none⟩) (by simp)).trans (show _=some (.int .i64 k.a) by simp)
 have k2:=(b2.cell (p:=⟨w.heap.size,2,none⟩) (by simp)).trans (show _=some (.string k.word) by simp)
 have k3:=(b2.cell (p:=⟨w.heap.size,3,none⟩) (by simp)).trans (show _=some (.int .i64 k.b) by simp)
 have c4:=HC.out w2 B2
 have hl:=fun n=>HLK.out (w2.drewN n) (below_drewN' B2 n)
 have HB2:=Lib.hid B2
 clear b2 B2
 go_wp2_with fail
 go_quiet (fail)
 revert nq;intro n1
 clear hl
 go_wp2_with fail
 go_ret2
 exact⟨rfl,below_drewN' HB2.out n1⟩
set_option maxRecDepth 100000 in
set_option maxHeartbeats 4000000 in
theorem pvalue_some (k:KeyP) (a t:Int) (pb po:Nat) (R:Rest) (s:Pst) (g:Gh) (y:Tr) (w:World) (h:PastAt w pb po R s g) (ha:askE s a=0) (hk:keyB k=true) (ht:timeB t=true) (hn:s.next<=4000) (hy:treeFor g.ts k=some y):
  Calls Tryz.prog 118 #[.pointer (some ⟨pb,po,none⟩),.agg #[.int .i64 k.kind,.int .i64 k.a,.string k.word,.int .i64 k.b],.int .i64 a,.int .i64 t] w fun e w' =>e= .returned (.tuple #[.string (valueP s.vs k a t),.nilIface])/\Below w.heap.size w w' :=by
 have hR:=fun W (hB:Below w.heap.size w W)=>pright_any pb po R s g a W (h.below hB)
 rw[ha,errN_0] at hR
 have HR:=Lib.hid hR
 have hs:k.word.size<=maxLen:=by have:=(wfkey hk).2;unfold maxLen;omega
 have hK:=fun W=>fkey_any k.kind k.a k.b k.word W hs
 rw[show(⟨k.kind,k.a,k.word,k.b⟩:KeyP)=k from rfl,hk] at hK
 have hlk: ∀W,Below w.heap.size w W->(Instr.lookup 124 (.map g.tm) (.agg #[.int .i64 k.kind,.int .i64 k.a,.string k.word,.int .i64 k.b]) false).run Tryz.prog W= .ok (.pointer (some ⟨y.tb,0,none⟩)) W:=fun W hB=>by
  have:=tree_look (h.below hB).trees h.keyOk hk
  rw[trPtr_some hy] at this
  exact this
 obtain⟨hym,hyk⟩:=treeFor_some hy
 have ht' : -1099511627776<=t/\t<1099511627776:=by simpa [timeB] using ht
 obtain⟨ht1,ht2⟩:=ht'
 have ht3:decide (t< -1099511627776)=false:=by simp;omega
 have ht4:decide (1099511627776<=t)=false:=by simp;omega
 have hc: ∀W,Below w.heap.size w W->W.cell? ⟨pb,po+4,none⟩=some (.map g.tm)/\W.cell? ⟨pb,po+3,none⟩=some (.map g.am):=fun W hB=>⟨(past_cells (h.below hB).len (h.below hB).cells).2.2.2.2,(past_cells (h.below hB).len (h.below hB).cells).2.2.2.1⟩
 have hT: ∀W,Below w.heap.size w W->TreeAt W y.tb (itemsK s.vs k) y.t y.mb:=fun W hB=>by
  have:=(h.below hB).tree y hym
  rw[hyk] at this;exact this
 have hvl: ∀W,Below w.heap.size w W-> ∀v∈s.vs,(Instr.lookup 123 (.map g.am) (.int .i64 v.id) false).run Tryz.prog W= .ok (verV v) W:=fun W hB v hv=>by
  have hvs:=(h.below hB).vers
  have hr:=h.ids.rng v hv
  cases ham:g.am with
  | none=>rw[ham] at hvs;have e:s.vs= []:=hvs;rw[e] at hv;cases hv
  | some am=>rw[ham] at hvs;exact ver_look hvs hv ⟨by omega,by omega⟩
 have hil:=items_len h.ids k
 have hle:=atL_length (itemsK s.vs k) t
 have HK:=Lib.hid hK
 have HLK:=Lib.hid hlk
 have HC:=Lib.hid hc
 have HT:=Lib.hid hT
 have HVL:=Lib.hid hvl
 have HP:=Lib.hid h
 have HTT:=Lib.hid ht
 clear hR hK hlk hc ha hk hs ht hy h hym hyk hT hvl
 go_enter Tryz.func118,Tryz.ntmps118
 go_wp2_with fail
 refine(HR.out _ ((Below.refl _ _).alloc (Nat.le_refl _) _)).mono ?_
 rintro e w1 ⟨rfl,rfl⟩
 go_wp2_with fail
 refine(HK.out _).mono ?_
 rintro e w2 ⟨rfl,b2⟩
 have B2:=below_over b2
 have k0:=(b2.cell (p:=⟨w.heap.size,0,none⟩) (by simp)).trans (show _=some (.int .i64 k.kind) by simp)
 have k1:=(b2.cell (p:=⟨w.heap.size,1,none⟩) (by simp)).trans (show _=some (.int .i64 k.a) by simp)
 have k2:=(b2.cell (p:=⟨w.heap.size,2,none⟩) (by simp)).trans (show _=some (.string k.word) by simp)
 have k3:=(b2.cell (p:=⟨w.heap.size,3,none⟩) (by simp)).trans (show _=some (.int .i64 k.b) by simp)
 have c4:=(HC.out w2 B2).1
 have hl:=fun n=>HLK.out (w2.drewN n) (below_drewN' B2 n)
 have HB2:=Lib.hid B2
 clear b2 B2
 go_wp2_with fail
 go_quiet (fail)
 revert nq;intro n1
 have hB3:=below_drewN' HB2.out n1
 have HB3:=Lib.hid hB3
 clear hl k0 k1 k2 k3 c4 hB3
 go_wp2_with fail
 refine(tat_any t _ y.tb (itemsK s.vs k) y.t y.mb (HT.out _ HB3.out) (by omega)).mono ?_
 rintro e w3 ⟨v3,rfl,own3,b3⟩
 obtain⟨ids,hids⟩: ∃ids,ids=atL (itemsK s.vs k) t:=⟨_,rfl⟩
 rw[<-hids] at own3
 obtain⟨ao,cap,rfl,hcs⟩:=ownsRow_intsB own3
 have hlen:ids.length<4294967296:=by rw[hids];omega
 have hB4:Below w.heap.size w w3:=HB3.out.trans (b3.mono (HB3.out.size))
 have HB4:=Lib.hid hB4
 have HIDS:=Lib.hid hids
 have HCS:=Lib.hid hcs
 clear own3 b3 hB4 hcs hle hids
 go_wp2_with fail
 go_loopw [45] (fun i wr=> ∃j:Nat,j<=ids.length/\i= .int .i64 j/\Hid ((ids.take j).find? (fun id=>seenB (verAt s.vs id) a)=none)/\Below w3.heap.size w3 wr) (fun i _=>ids.length-(intOf i).toNat)
 case atStart=>exact⟨0,by omega,rfl,(rfl:(ids.take 0).find? _=none),Below.refl _ _⟩
 case round=>
  obtain⟨j,hj,rfl,hfd,hBr⟩:=hrel
  have HBR:=Lib.hid hBr
  have hBw:Below w.heap.size w wr:=HB4.out.trans (hBr.mono HB4.out.size)
  by_cases hlt:j<ids.length
  · obtain⟨id,hid⟩: ∃id,ids[j]? =some id:=⟨_,List.getElem?_eq_getElem hlt⟩
    obtain⟨b,rfl,_,hcell⟩:=HCS.out j id hid
    have hcw:=below_cell hBr (World.block_lt_of_cell? w3 _ hcell) hcell
    have hbw:b<wr.heap.size:=World.block_lt_of_cell? wr _ hcw
    obtain⟨v,hv,rfl⟩:=atK_ids HP.out.ids k t HTT.out (by rw[<-HIDS.out];exact List.mem_of_getElem? hid)
    have hva:=HP.out.ids.verAt hv
    have hl:=HVL.out wr hBw v hv
    unfold verV at hl
    have c3:=(HC.out wr hBw).2
    have hsn:=fun W=>vseen_any v a W
    unfold verV at hsn
    have HVA:=Lib.hid hva
    have HID:=Lib.hid hid
    have HBW:=Lib.hid hBw
    clear hva hid hcell hBr hBw hv
    cases hse:seenB v a
    · rw [hse] at hsn
      have HSN:=Lib.hid hsn
      have hnx:=find_take_none hfd.out HID.out (by rw[HVA.out];exact hse)
      have HNX:=Lib.hid hnx
      clear hsn hse hnx
      go_wp2_with fail
      refine(HSN.out _).mono ?_
      rintro e w4 ⟨rfl,b4⟩
      have B4:=HBR.out.trans ((below_over b4).mono HBR.out.size)
      have HB5:=Lib.hid B4
      clear b4 B4 hl c3 hcw
      go_wp2_with fail
      go_roundw
      case rel=>exact⟨j+1,by omega,by go_num,HNX,HB5.out⟩
      case measure=>simp[intOf];omega
    · rw [hse] at hsn
      have HSN:=Lib.hid hsn
      have hfa:=find_at hfd.out HID.out (by rw[HVA.out];exact hse)
      have hval:valueP s.vs k a t=v.val:=by unfold valueP;rw[<-HIDS.out,hfa];simp only[HVA.out]
      have HVAL:=Lib.hid hval
      clear hsn hse hfa hval
      go_wp2_with fail
      refine(HSN.out _).mono ?_
      rintro e w4 ⟨rfl,b4⟩
      have v4:=(b4.cell (p:=⟨wr.heap.size,4,none⟩) (by simp)).trans (show _=some (.string v.val) by simp)
      have B4:=HBW.out.trans ((below_over b4).mono HBW.out.size)
      have HB5:=Lib.hid B4
      clear b4 B4 hl c3 hcw
      go_wp2_with fail
      go_ret2
      exact⟨by rw[HVAL.out];rfl,HB5.out⟩
  · have hfa:ids.find? (fun id=>seenB (verAt s.vs id) a)=none:=by
     have:=hfd.out
     rw[List.take_of_length_le (by omega)] at this;exact this
    have hval:valueP s.vs k a t=⟨#[]⟩:=by unfold valueP;rw[<-HIDS.out,hfa]
    have HVAL:=Lib.hid hval
    have HBW:=Lib.hid hBw
    clear hfa hval hfd hBr hBw
    go_wp2_with fail
    go_ret2
    exact⟨by rw[HVAL.out];rfl,HBW.out⟩
theorem pvalue_any (k:KeyP) (a t:Int) (pb po:Nat) (R:Rest) (s:Pst) (g:Gh) (w:World) (h:PastAt w pb po R s g) (hs:k.word.size<=maxLen) (hn:s.next<=4000):
  Calls Tryz.prog 118 #[.pointer (some ⟨pb,po,none⟩),.agg #[.int .i64 k.kind,.int .i64 k.a,.string k.word,.int .i64 k.b],.int .i64 a,.int .i64 t] w fun e w' =>e= .returned (valV s k a t)/\Below w.heap.size w w' :=by
 by_cases ha:askE s a=0
 · cases hb:keyB k && timeB t
   · rw [valV_arg ha hb]
     exact pvalue_arg k a t pb po R s g w h hs ha hb
   · simp only[Bool.and_eq_true] at hb
     rw[valV_ok ha hb.1 hb.2]
     cases hy:treeFor g.ts k with
     | some y=>exact pvalue_some k a t pb po R s g y w h ha hb.1 hb.2 hn hy
     | none=>
       have e:valueP s.vs k a t=⟨#[]⟩:=by
        have hti:itemsK s.vs k= []:=by
         cases e:itemsK s.vs k with
         | nil=>rfl
         | cons z l=>
           obtain⟨v,hv,hvk,_⟩:=mem_itemsK.1 (show z∈itemsK s.vs k by rw[e];simp)
           obtain⟨z',hz',e'⟩:=h.all v hv
           exact absurd (e'.trans hvk) (treeFor_none hy z' hz')
        have :atL (itemsK s.vs k) t= []:=by
         have:=atL_length (itemsK s.vs k) t
         rw[hti] at this ⊢
         exact List.eq_nil_of_length_eq_zero (by simpa using this)
        unfold valueP;rw[this];rfl
       rw[e]
       exact pvalue_none k a t pb po R s g w h ha hb.1 hb.2 hy
 · rw [valV_ask ha]
   exact pvalue_ask k a t pb po R s g w h ha
def encP (p:Pc):List Value:= [.int .i64 p.fr,.int .i64 p.to,.string p.val]
def flatP (l:List Pc):List Value:=l.flatMap encP
theorem flatP_length (l:List Pc):(flatP l).length=l.length*3:=by
 induction l with
 | nil=>rfl
 | cons p l ih=>simp only[flatP,List.flatMap_cons,List.length_append] at*;rw[ih];simp[encP];omega
theorem flatP_append (l m:List Pc):flatP (l++m)=flatP l++flatP m:=by simp[flatP]
theorem flatP_get (l:List Pc) (i:Nat) (p:Pc) (h:l[i]? =some p):(flatP l)[i*3]? =some (.int .i64 p.fr)/\(flatP l)[i*3+1]? =some (.int .i64 p.to)/\(flatP l)[i*3+2]? =some (.string p.val):=by
 induction l generalizing i with
 | nil=>simp at h
 | cons q l ih=>
   cases i with
   | zero=>simp at h;subst h;simp[flatP,encP]
   | succ i=>
     have:=ih i (by simpa using h)
     have e1:(i+1)*3=i*3+1+1+1:=by omega
     rw[e1]
     simpa [flatP,encP] using this
theorem infoPiece:(Tryz.prog.info? 109).map (fun i=>(i.zero,i.size,i.bytes))=some (some (.agg #[.int .i64 0,.int .i64 0,.string ⟨#[]⟩]),3,32):=by kernel_rfl
theorem appPiece {W:World} {ops:Array Oper} {rest:List Oper} {o:Oper} {a:Act} {Q:Exit->Act->World->Prop} (hgd:o.guard=none) (s x:Operand)
  (ho:o.op= .call { callee:= .builtin .append,args:= #[s,x],argTypes:= #[103,103] }) (base:Nat) (v:Value) (l:List Pc) (hs:a.eval s=v) (hown:W.ownsRow base 109 3 v l.length (flatP l))
  (b:Nat) (p:Pc) (hx:a.eval x= .slice (some ⟨b,0,none⟩) 1 1) (hc0:W.cell? ⟨b,0,none⟩=some (.int .i64 p.fr)) (hc1:W.cell? ⟨b,1,none⟩=some (.int .i64 p.to)) (hc2:W.cell? ⟨b,2,none⟩=some (.string p.val))
  (hbytes:(l.length+1)*32<=140737488355328) (hbase:base<=W.heap.size) (w0:World) (hB:Below base w0 W)
  (h: ∀v' w',w'.ownsRow base 109 3 v' (l++ [p]).length (flatP (l++ [p]))->Below base w0 w' ->W.heap.size<=w'.heap.size->W.grownBy w' v.ownBlock->wpList Tryz.prog ops Q rest (a.put o.dst v') w'):wpList Tryz.prog ops Q (o::rest) a W:=by
 refine app1 hgd s x _ ho base 109 Tryz.underlying103 infoPiece rfl (by decide) (by decide) v l.length (flatP l) hs hown b (encP p) hx rfl (fun u hu=> ?_) (fun j u hu=> ?_) hbytes hbase w0 hB fun v' w' h2 h3 h4 h5 h6=>h v' w' ?_ h3 h4 h6
 · simp[encP] at hu;rcases hu with rfl|rfl|rfl<;>rfl
 · match j,hu with
   | 0,hu=>simp[encP] at hu;subst hu;exact hc0
   | 1,hu=>simp[encP] at hu;subst hu;exact hc1
   | 2,hu=>simp[encP] at hu;subst hu;exact hc2
 · rw [flatP_append,List.length_append]
   have e:flatP [p]=encP p:=by simp[flatP]
   rw[e];exact h2
set_option maxRecDepth 100000 in
theorem pieces1_any (p q:Pc) (w:World) (h1:rightB p.fr p.to=true) (h2:rightB q.fr q.to=true):Calls Tryz.prog 248 #[.agg #[.int .i64 p.fr,.int .i64 p.to,.string p.val],.agg #[.int .i64 q.fr,.int .i64 q.to,.string q.val]] w fun e w' =>e= .returned (.int .i64 (p.fr-q.fr))/\Lays w w' :=by
 have a1: -1099511627776<=p.fr/\p.fr<=1099511627776:=by unfold rightB at h1;simp at h1;omega
 have a2: -1099511627776<=q.fr/\q.fr<=1099511627776:=by unfold rightB at h2;simp at h2;omega
 obtain⟨b1,b2⟩:=a1
 obtain⟨b3,b4⟩:=a2
 clear h1 h2
 go_enter Tryz.func248,Tryz.ntmps248
 go_wp2
 go_ret
 exact⟨rfl,((Lays.refl _).alloc _).alloc _⟩
theorem sortPieces_own (base:Nat) (v:Value) (U:List Pc) (w:World) (hown:w.ownsRow base 109 3 v U.length (flatP U)) (hb:base<=w.heap.size) (hsz:U.length<4611686018427387904) (hr: ∀p∈U,rightB p.fr p.to=true) (hd: ∀p∈U,∀q∈U,p.fr=q.fr->p=q):
  ∃L:List Pc,L.Perm U/\L.Pairwise (fun p q=>p.fr<=q.fr)/\Calls Tryz.prog 247 #[v,.func (.func 248) #[] #[]] w fun e' w' =>e' = .returned (.tuple #[])/\w'.ownsRow base 109 3 v L.length (flatP L)/\Below base w w' :=by
 cases hU:U with
 | nil =>
   subst hU
   refine⟨[],.refl _,.nil,?_⟩
   let α:={ p:Pc // p=(⟨0,1,⟨#[]⟩⟩:Pc) }
   let cf:α->α->Int:=fun x y=>x.1.fr-y.1.fr
   haveI:Inhabited α:=⟨⟨_,rfl⟩⟩
   have hall: ∀x y:α,x=y:=fun x y=>Subtype.ext (x.2.trans y.2.symm)
   have hlt: ∀x y:α,ltOf cf x y=false:=fun x y=>by
    have:x=y:=hall x y
    subst this
    unfold ltOf;simp[cf]
   have hO:SWO (ltOf cf):=⟨(fun x=>hlt x x),(fun x y z h1 h2=>by rw[hlt] at h1;cases h1),(fun x y z h1 h2=>hlt _ _)⟩
   have hs:=sortFunc_own (α:=α) Tryz.sortPiece 3 (by decide) Tryz.isAgg109 Tryz.sizeOf109 (fun x=>encP x.1) (fun _=>rfl) (fun x v hv=>by simp[encP] at hv;rcases hv with rfl|rfl|rfl<;>rfl) cf hO (fun x y _ _=>hall x y) 248 #[] (enters_of Tryz.func248 (by kernel_rfl) rfl)
    (fun W x y=>pieces1_any x.1 y.1 W (by rw[x.2];decide) (by rw[y.2];decide)) base 109 v [] w hown hb (by decide)
   rw[List.mergeSort_nil] at hs
   exact hs
 | cons p0 U' =>
   rw[<-hU]
   have hp0:p0∈U:=by rw[hU];simp
   let α:={ p:Pc // p∈U }
   let cf:α->α->Int:=fun x y=>x.1.fr-y.1.fr
   haveI:Inhabited α:=⟨⟨p0,hp0⟩⟩
   have hlt: ∀x y:α,ltOf cf x y=decide (x.1.fr<y.1.fr):=fun x y=>by
    unfold ltOf;simp only[cf]
    rw[Bool.eq_iff_iff];simp;omega
   have hO:SWO (ltOf cf):=⟨fun x=>by rw[hlt];simp,fun x y z h1 h2=>by rw[hlt] at*;simp at*;omega,fun x y z h1 h2=>by rw[hlt] at*;simp at*;omega⟩
   have hT: ∀x y,(ltOf cf) x y=false->(ltOf cf) y x=false->x=y:=fun x y h1 h2=>by
    rw[hlt] at*;simp at*
    exact Subtype.ext (hd x.1 x.2 y.1 y.2 (by omega))
   have hmap:(U.attach.map (·.1))=U:=List.attach_map_subtype_val U
   have hfl: ∀l:List α,l.flatMap (fun x:α=>encP x.1)=flatP (l.map (·.1)):=fun l=>by simp[flatP,List.flatMap_map]
   have hown' :w.ownsRow base 109 3 v U.attach.length (U.attach.flatMap fun x:α=>encP x.1):=by rw[hfl,hmap,List.length_attach];exact hown
   have hs:=sortFunc_own (α:=α) Tryz.sortPiece 3 (by decide) Tryz.isAgg109 Tryz.sizeOf109 (fun x=>encP x.1) (fun _=>rfl) (fun x v hv=>by simp[encP] at hv;rcases hv with rfl|rfl|rfl<;>rfl) cf hO hT 248 #[] (enters_of Tryz.func248 (by kernel_rfl) rfl)
    (fun W x y=>pieces1_any x.1 y.1 W (hr x.1 x.2) (hr y.1 y.2)) base 109 v U.attach w hown' hb (by rw[List.length_attach];exact hsz)
   rw[hfl,List.length_attach] at hs
   have hperm:((U.attach.mergeSort fun x y=> !(ltOf cf) y x).map (·.1)).Perm U:=by
    have:=(List.mergeSort_perm U.attach fun x y=> !(ltOf cf) y x).map (·.1)
    rw[hmap] at this;exact this
   refine⟨_,hperm,?_,?_⟩
   · rw [List.pairwise_map]
     have:=List.pairwise_mergeSort (le:=fun x y:α=> !(ltOf cf) y x) (fun a b c h1 h2=>by rw[hlt] at*;simp at*;omega) (fun a b=>by rw[hlt,hlt];simp;omega) U.attach
     refine this.imp fun {a b} h=> ?_
     rw[hlt] at h;simp at h;exact h
   · rw[hperm.length_eq];exact hs
def pcOf (vs:List Ver) (id:Int):Pc:=⟨(verAt vs id).fr,(verAt vs id).to,(verAt vs id).val⟩
def piecesT (vs:List Ver) (a:Int) (ids:List Int):List Pc:=(ids.filter fun id=>seenB (verAt vs id) a).map (pcOf vs)
theorem piecesT_all (vs:List Ver) (k:KeyP) (a:Int):piecesT vs a (meetsL (itemsK vs k) (-1099511627776) 1099511627776)=piecesU vs k a:=rfl
theorem piecesT_yes {vs:List Ver} {a:Int} {ids:List Int} {j:Nat} {id:Int} {v:Ver} (h:ids[j]? =some id) (hv:verAt vs id=v) (hs:seenB v a=true):piecesT vs a (ids.take (j+1))=piecesT vs a (ids.take j)++ [⟨v.fr,v.to,v.val⟩]:=by
 unfold piecesT
 rw[List.take_succ_eq_append_getElem (List.getElem?_eq_some_iff.1 h).1,(List.getElem?_eq_some_iff.1 h).2,List.filter_append,List.map_append]
 congr 1
 rw[List.filter_cons_of_pos (by rw[hv];exact hs)]
 simp[pcOf,hv]
theorem piecesT_no {vs:List Ver} {a:Int} {ids:List Int} {j:Nat} {id:Int} {v:Ver} (h:ids[j]? =some id) (hv:verAt vs id=v) (hs:seenB v a=false):piecesT vs a (ids.take (j+1))=piecesT vs a (ids.take j):=by
 unfold piecesT
 rw[List.take_succ_eq_append_getElem (List.getElem?_eq_some_iff.1 h).1,(List.getElem?_eq_some_iff.1 h).2,List.filter_append,List.map_append,List.filter_cons_of_neg (by rw[hv,hs];decide)]
 simp
theorem piecesT_le (vs:List Ver) (a:Int) (ids:List Int):(piecesT vs a ids).length<=ids.length:=by unfold piecesT;rw[List.length_map];exact List.length_filter_le _ _
def PiecesPost (vs:List Ver) (k:KeyP) (a:Int) (w:World) (e:Ending) (w' :World):Prop:=
 ∃v L,e= .returned v/\L.Perm (piecesU vs k a)/\L.Pairwise (fun p q=>p.fr<=q.fr)/\w'.ownsRow w.heap.size 109 3 v L.length (flatP L)/\Below w.heap.size w w'
set_option maxRecDepth 100000 in
set_option maxHeartbeats 4000000 in
theorem ppieces_none (k:KeyP) (a:Int) (pb po:Nat) (R:Rest) (s:Pst) (g:Gh) (w:World) (h:PastAt w pb po R s g) (hk:keyB k=true) (hy:treeFor g.ts k=none):
  Calls Tryz.prog 193 #[.pointer (some ⟨pb,po,none⟩),.agg #[.int .i64 k.kind,.int .i64 k.a,.string k.word,.int .i64 k.b],.int .i64 a] w (PiecesPost s.vs k a w):=by
 have hlk: ∀W,Below w.heap.size w W->(Instr.lookup 124 (.map g.tm) (.agg #[.int .i64 k.kind,.int .i64 k.a,.string k.word,.int .i64 k.b]) false).run Tryz.prog W= .ok (.pointer none) W:=fun W hB=>by
  have:=tree_look (h.below hB).trees h.keyOk hk
  rw[trPtr_none hy] at this
  exact this
 have hti:itemsK s.vs k= []:=by
  cases e:itemsK s.vs k with
  | nil=>rfl
  | cons z l=>
    obtain⟨v,hv,hvk,_⟩:=mem_itemsK.1 (show z∈itemsK s.vs k by rw[e];simp)
    obtain⟨z',hz',e'⟩:=h.all v hv
    exact absurd (e'.trans hvk) (treeFor_none hy z' hz')
 have hU:piecesU s.vs k a= []:=by
  rw[<-piecesT_all]
  have h1:=piecesT_le s.vs a (meetsL (itemsK s.vs k) (-1099511627776) 1099511627776)
  have h2:=meetsL_length (itemsK s.vs k) (-1099511627776) 1099511627776
  have h3:(itemsK s.vs k).length=0:=by rw[hti];rfl
  exact List.eq_nil_of_length_eq_zero (by omega)
 obtain⟨W1,hW1⟩: ∃W1,W1=w.alloc (.cells #[.int .i64 k.kind,.int .i64 k.a,.string k.word,.int .i64 k.b] 97):=⟨_,rfl⟩
 have hB1:Below w.heap.size w W1:=by rw[hW1];exact(Below.refl _ _).alloc (Nat.le_refl _) _
 have P1:=h.below hB1
 obtain⟨_,_,_,_,c4⟩:=past_cells P1.len P1.cells
 obtain⟨k0,k1,k2,k3⟩:=cells4 (show W1.heap[w.heap.size]? =_ by rw[hW1];exact block_alloc_new w _)
 have hl:=fun n=>hlk (W1.drewN n) (below_drewN' hB1 n)
 have HU:=Lib.hid hU
 have HW1:=Lib.hid hW1
 have HB1:=Lib.hid hB1
 clear hlk hti hU hW1 hB1 P1 h hk hy
 go_enter Tryz.func193,Tryz.ntmps193
 go_wp2_with fail
 rw[<-HW1.out]
 go_quiet (fail)
 revert nq;intro n1
 clear hl
 go_wp2_with fail
 go_ret
 exact⟨_,[],rfl,by rw[HU.out],.nil,World.ownsRow_nil _ _ _ _,below_drewN' HB1.out n1⟩
set_option maxRecDepth 100000 in
set_option maxHeartbeats 4000000 in
theorem ppieces_some (k:KeyP) (a:Int) (pb po:Nat) (R:Rest) (s:Pst) (g:Gh) (y:Tr) (w:World) (h:PastAt w pb po R s g) (hW:Wf s) (hk:keyB k=true) (hn:s.next<=4000) (hy:treeFor g.ts k=some y):
  Calls Tryz.prog 193 #[.pointer (some ⟨pb,po,none⟩),.agg #[.int .i64 k.kind,.int .i64 k.a,.string k.word,.int .i64 k.b],.int .i64 a] w (PiecesPost s.vs k a w):=by
 obtain⟨i0,hi,hz0,hz1,hz2⟩:=info_parts infoPiece
 have hlk: ∀W,Below w.heap.size w W->(Instr.lookup 124 (.map g.tm) (.agg #[.int .i64 k.kind,.int .i64 k.a,.string k.word,.int .i64 k.b]) false).run Tryz.prog W= .ok (.pointer (some ⟨y.tb,0,none⟩)) W:=fun W hB=>by
  have:=tree_look (h.below hB).trees h.keyOk hk
  rw[trPtr_some hy] at this
  exact this
 obtain⟨hym,hyk⟩:=treeFor_some hy
 have hc: ∀W,Below w.heap.size w W->W.cell? ⟨pb,po+3,none⟩=some (.map g.am):=fun W hB=>(past_cells (h.below hB).len (h.below hB).cells).2.2.2.1
 have hT: ∀W,Below w.heap.size w W->TreeAt W y.tb (itemsK s.vs k) y.t y.mb:=fun W hB=>by
  have:=(h.below hB).tree y hym
  rw[hyk] at this;exact this
 have hvl: ∀W,Below w.heap.size w W-> ∀v∈s.vs,(Instr.lookup 123 (.map g.am) (.int .i64 v.id) false).run Tryz.prog W= .ok (verV v) W:=fun W hB v hv=>by
  have hvs:=(h.below hB).vers
  have hr:=h.ids.rng v hv
  cases ham:g.am with
  | none=>rw[ham] at hvs;have e:s.vs= []:=hvs;rw[e] at hv;cases hv
  | some am=>rw[ham] at hvs;exact ver_look hvs hv ⟨by omega,by omega⟩
 have hil:=items_len h.ids k
 have hle:=meetsL_length (itemsK s.vs k) (-1099511627776) 1099511627776
 obtain⟨W1,hW1⟩: ∃W1,W1=w.alloc (.cells #[.int .i64 k.kind,.int .i64 k.a,.string k.word,.int .i64 k.b] 97):=⟨_,rfl⟩
 have hB1:Below w.heap.size w W1:=by rw[hW1];exact(Below.refl _ _).alloc (Nat.le_refl _) _
 have P1:=h.below hB1
 obtain⟨_,_,_,_,c4⟩:=past_cells P1.len P1.cells
 obtain⟨k0,k1,k2,k3⟩:=cells4 (show W1.heap[w.heap.size]? =_ by rw[hW1];exact block_alloc_new w _)
 have hl:=fun n=>hlk (W1.drewN n) (below_drewN' hB1 n)
 have HW1:=Lib.hid hW1
 have HB1:=Lib.hid hB1
 have HC:=Lib.hid hc
 have HT:=Lib.hid hT
 have HVL:=Lib.hid hvl
 have HP:=Lib.hid h
 have HW:=Lib.hid hW
 clear hlk hW1 hB1 P1 h hk hy hW hym hyk hc hT hvl
 go_enter Tryz.func193,Tryz.ntmps193
 go_wp2_with fail
 rw[<-HW1.out]
 go_quiet (fail)
 revert nq;intro n1
 have HB2:=Lib.hid (below_drewN' HB1.out n1)
 clear hl k0 k1 k2 k3 c4
 go_wp2_with fail
 refine(tmeets_any (-1099511627776) 1099511627776 _ y.tb (itemsK s.vs k) y.t y.mb (HT.out _ HB2.out) (by omega)).mono ?_
 rintro e w3 ⟨v3,rfl,own3,b3⟩
 obtain⟨ids,hids⟩: ∃ids,ids=meetsL (itemsK s.vs k) (-1099511627776) 1099511627776:=⟨_,rfl⟩
 rw[<-hids] at own3
 obtain⟨ao,cap,rfl,hcs⟩:=ownsRow_intsB own3
 have hlen:ids.length<4001:=by rw[hids];omega
 have hB4:Below w.heap.size w w3:=HB2.out.trans (b3.mono (HB2.out.size))
 have HB4:=Lib.hid hB4
 have hs4:=hB4.size
 have HIDS:=Lib.hid hids
 have HCS:=Lib.hid hcs
 clear own3 b3 hB4 hcs hle hids
 go_wp2_with fail
 go_loopw [7,26] (fun v i wr=> ∃(j:Nat) (U:List Pc),j<=ids.length/\i= .int .i64 j/\Hid (U=piecesT s.vs a (ids.take j))/\wr.ownsRow w3.heap.size 109 3 v U.length (flatP U)/\Below w3.heap.size w3 wr) (fun _ i _=>ids.length-(intOf i).toNat)
 case atStart=>exact⟨0,[],by omega,rfl,rfl,World.ownsRow_nil _ _ _ _,Below.refl _ _⟩
 case round=>
  obtain⟨j,U,hj,rfl,hU,hown,hBr⟩:=hrel
  have HBR:=Lib.hid hBr
  have hBw:Below w.heap.size w wr:=HB4.out.trans (hBr.mono HB4.out.size)
  have hul:U.length<=4001:=by rw[hU.out];have h1:=piecesT_le s.vs a (ids.take j);rw[List.length_take] at h1;omega
  have hsr:=hBr.size
  by_cases hlt:j<ids.length
  · obtain⟨id,hid⟩: ∃id,ids[j]? =some id:=⟨_,List.getElem?_eq_getElem hlt⟩
    obtain⟨b,rfl,_,hcell⟩:=HCS.out j id hid
    have hcw:=below_cell hBr (World.block_lt_of_cell? w3 _ hcell) hcell
    have hbw:b<wr.heap.size:=World.block_lt_of_cell? wr _ hcw
    obtain⟨v,hv,hvk,rfl⟩:=(mem_allK HW.out (k:=k)).1 (by rw[<-HIDS.out];exact List.mem_of_getElem? hid)
    have hva:=HP.out.ids.verAt hv
    have hl:=HVL.out wr hBw v hv
    unfold verV at hl
    have c3:=HC.out wr hBw
    have hsn:=fun W=>vseen_any v a W
    unfold verV at hsn
    have hrg:=HP.out.ids.rng v hv
    have hib:i64 v.id:=⟨by omega,by omega⟩
    have hmi:(v.fr,v.id,v.to)∈itemsK s.vs k:=mem_itemsK.2 ⟨v,hv,hvk,rfl⟩
    have HIB:=Lib.hid hib
    have HMI:=Lib.hid hmi
    have HVA:=Lib.hid hva
    have HID:=Lib.hid hid
    have HBW:=Lib.hid hBw
    clear hva hid hcell hBr hBw hv hvk hrg hib hmi
    cases hse:seenB v a
    · rw [hse] at hsn
      have HSN:=Lib.hid hsn
      have hnx:=piecesT_no HID.out HVA.out hse
      have hU2:U=piecesT s.vs a (ids.take (j+1)):=by rw[hnx];exact hU.out
      have HU2:=Lib.hid hU2
      clear hsn hse hnx hU2
      go_wp2_with fail
      refine(HSN.out _).mono ?_
      rintro e w4 ⟨rfl,b4⟩
      have B4:=below_over b4
      have hown4:=ownsRow_below hown B4
      have HB5:=Lib.hid (HBR.out.trans (B4.mono hsr))
      clear b4 B4 hl c3 hcw
      go_wp2_with fail
      go_roundw
      case rel=>exact⟨j+1,U,by omega,by go_num,HU2,hown4,HB5.out⟩
      case measure=>simp[intOf];omega
    · rw [hse] at hsn
      have HSN:=Lib.hid hsn
      have hnx:=piecesT_yes HID.out HVA.out hse
      have hU2:U++ [⟨v.fr,v.to,v.val⟩]=piecesT s.vs a (ids.take (j+1)):=by rw[hnx,hU.out]
      have HU2:=Lib.hid hU2
      clear hsn hse hnx hU2
      go_wp2_with fail
      refine(HSN.out _).mono ?_
      rintro e w4 ⟨rfl,b4⟩
      have v4:=(b4.cell (p:=⟨wr.heap.size,4,none⟩) (by simp)).trans (show _=some (.string v.val) by simp)
      have B4:=below_over b4
      have hs4' :=b4.size
      have hown4:=ownsRow_below hown B4
      have HB5:=Lib.hid (HBR.out.trans (B4.mono hsr))
      have hvb:wr.heap.size<w4.heap.size:=by simp at hs4';omega
      have HBW4:=Lib.hid (HBW.out.trans (B4.mono HBW.out.size))
      clear b4 B4 hl c3 hcw hs4' hown
      go_wp2_with fail
      refine(tspan_has v.id v.fr v.to HIB.out w4 y.tb (itemsK s.vs k) y.t y.mb (HT.out _ HBW4.out) HMI.out).mono ?_
      rintro e w5 ⟨rfl,b5⟩
      have v5:=(b5.cell (p:=⟨wr.heap.size,4,none⟩) hvb).trans v4
      have hs5:=b5.size
      have hown5:=ownsRow_below hown4 b5
      have HB6:=Lib.hid (HB5.out.trans (b5.mono HB5.out.size))
      have hs6:=HB6.out.size
      have hvb5:wr.heap.size<w5.heap.size:=by omega
      clear b5 v4 hown4
      go_wp2_with (at_builtin;refine appPiece rfl _ _ rfl w3.heap.size _ U rfl ((hown5.alloc _).alloc _) (w5.heap.size+1) ⟨v.fr,v.to,v.val⟩ rfl (by simp) (by simp) (by simp) (by omega) (by simp;omega) w3 ((HB6.out.alloc (by omega) _).alloc (by simp;omega) _) ?_;intro v' w6 hown6 hB7 hs7 hg7)
      go_roundw
      case rel=>exact⟨j+1,_,by omega,by go_num,HU2,hown6,hB7⟩
      case measure=>simp[intOf];omega
  · have hfa:U=piecesU s.vs k a:=by
     rw[hU.out,List.take_of_length_le (by omega),HIDS.out,piecesT_all]
    have hso:=sortPieces_own w3.heap.size
    have HFA:=Lib.hid hfa
    clear hfa hso hBr hBw
    go_wp2_with fail
    obtain⟨L,l1,l2,l3⟩:=sortPieces_own w3.heap.size _ U wr hown hsr (by omega) (fun p hp=>by rw[HFA.out] at hp;exact(piecesU_good HW.out hp).2.1) (fun p hp q hq e=>by
     rw[HFA.out] at hp hq
     obtain⟨u,hu,hku,hsu,rfl⟩:=(mem_piecesU HW.out).1 hp
     obtain⟨v,hv,hkv,hsv,rfl⟩:=(mem_piecesU HW.out).1 hq
     have r1:=(piecesU_good HW.out hp).1.1
     have r2:=(piecesU_good HW.out hq).1.1
     simp only at e r1 r2
     have:=HW.out.one hu hv (hku.trans hkv.symm) (t:=u.fr) (a:=a) ⟨Int.le_refl _,r1⟩ ⟨by omega,by omega⟩ hsu hsv
     rw[this])
    refine l3.mono ?_
    rintro e w5 ⟨rfl,own5,b5⟩
    have HO5:=Lib.hid own5
    have HB5:=Lib.hid (HB4.out.trans ((HBR.out.trans b5).mono HB4.out.size))
    have HL:=Lib.hid (And.intro l1 l2)
    clear l1 l2 l3 own5 b5
    go_wp2_with fail
    go_ret
    exact⟨_,L,rfl,by rw[<-HFA.out];exact HL.out.1,HL.out.2,ownsRow_base HO5.out hs4,HB5.out⟩
theorem ppieces_any (k:KeyP) (a:Int) (pb po:Nat) (R:Rest) (s:Pst) (g:Gh) (w:World) (h:PastAt w pb po R s g) (hW:Wf s) (hk:keyB k=true) (hn:s.next<=4000):
  Calls Tryz.prog 193 #[.pointer (some ⟨pb,po,none⟩),.agg #[.int .i64 k.kind,.int .i64 k.a,.string k.word,.int .i64 k.b],.int .i64 a] w (PiecesPost s.vs k a w):=by
 cases hy:treeFor g.ts k with
 | none=>exact ppieces_none k a pb po R s g w h hk hy
 | some y=>exact ppieces_some k a pb po R s g y w h hW hk hn hy
def PcsAt (w:World) (ao:Option Addr) (l:List Pc):Prop:= ∀j p,l[j]? =some p-> ∃b,ao=some ⟨b,0,none⟩/\w.cell? ⟨b,j*3,none⟩=some (.int .i64 p.fr)/\w.cell? ⟨b,j*3+1,none⟩=some (.int .i64 p.to)/\w.cell? ⟨b,j*3+2,none⟩=some (.string p.val)
theorem ownsRow_pcs {w:World} {base n:Nat} {v:Value} {l:List Pc} {e:TypeId} (h:w.ownsRow base e 3 v n (flatP l)): ∃ao cap,v= .slice ao l.length cap/\PcsAt w ao l:=by
 have hn:n=l.length:=by have:=h.1;rw[flatP_length] at this;omega
 subst hn
 obtain⟨ao,cap,rfl,hc⟩:=ownsRow_at h
 refine⟨ao,cap,rfl,fun i p hp=> ?_⟩
 obtain⟨f1,f2,f3⟩:=flatP_get l i p hp
 obtain⟨b,h1,hb,h2⟩:=hc _ _ f1
 obtain⟨b',h1',_,h2'⟩:=hc _ _ f2
 obtain⟨b'',h1'',_,h2''⟩:=hc _ _ f3
 rw[h1] at h1' h1'';cases h1';cases h1''
 exact⟨b,h1,h2,h2',h2''⟩
theorem flatP_setLast (m:List Pc) (q:Pc) (x:Int):(flatP (m++ [q])).set (m.length*3+1) (.int .i64 x)=flatP (m++ [⟨q.fr,x,q.val⟩]):=by
 rw[flatP_append,flatP_append,List.set_append_right _ _ (by rw[flatP_length];omega),flatP_length]
 have e:m.length*3+1-m.length*3=1:=by omega
 rw[e]
 simp[flatP,encP]
theorem flatP_last (m:List Pc) (q:Pc):(flatP (m++ [q]))[m.length*3]? =some (.int .i64 q.fr)/\(flatP (m++ [q]))[m.length*3+1]? =some (.int .i64 q.to)/\(flatP (m++ [q]))[m.length*3+2]? =some (.string q.val):=flatP_get _ _ _ (by simp)
def joinT (l:List Pc) (k:Nat):List Pc:=(l.take k).foldl joinStep []
theorem joinT_snoc (l:List Pc) (k:Nat) (x:Pc) (h:l[k]? =some x):joinT l (k+1)=joinStep (joinT l k) x:=by
 unfold joinT
 rw[List.take_succ_eq_append_getElem (List.getElem?_eq_some_iff.1 h).1,List.foldl_append,(List.getElem?_eq_some_iff.1 h).2];rfl
theorem joinStep_nil (x:Pc):joinStep [] x= [x]:=rfl
theorem joinStep_hit {m:List Pc} {q x:Pc} (h:q.to=x.fr) (h2:q.val=x.val):joinStep (m++ [q]) x=m++ [⟨q.fr,x.to,q.val⟩]:=by unfold joinStep;simp[h,h2]
theorem joinStep_miss {m:List Pc} {q x:Pc} (h: ¬(q.to=x.fr/\q.val=x.val)):joinStep (m++ [q]) x=m++ [q]++ [x]:=by
 unfold joinStep
 simp only[List.getLast?_append,List.getLast?_singleton,Option.some_or]
 rw[if_neg h]
theorem bytes_beq (x y:ByteArray):(x.toList==y.toList)=decide (x=y):=by
 rw[Bool.eq_iff_iff]
 simp only[beq_iff_eq,decide_eq_true_eq]
 exact⟨fun h=>bytes_ext (by rw[<-ByteArray.toList_eq, <-ByteArray.toList_eq];exact h),fun h=>by rw[h]⟩
set_option maxRecDepth 100000 in
set_option maxHeartbeats 8000000 in
theorem pjoin_any (l:List Pc) (ao:Option Addr) (cap:Nat) (w:World) (hl:PcsAt w ao l) (hn:l.length<=4001):
  Calls Tryz.prog 192 #[.slice ao l.length cap] w fun e w' => ∃v,e= .returned v/\w'.ownsRow w.heap.size 109 3 v (joinP l).length (flatP (joinP l))/\Below w.heap.size w w' :=by
 obtain⟨i0,hi,hz0,hz1,hz2⟩:=info_parts infoPiece
 have HL:=Lib.hid hl
 clear hl
 go_enter Tryz.func192,Tryz.ntmps192
 go_wp2_with fail
 go_loopw [3,9] (fun v i wr=> ∃(k:Nat) (out:List Pc),k<=l.length/\i= .int .i64 k/\Hid (out=joinT l k)/\out.length<=k/\wr.ownsRow w.heap.size 109 3 v out.length (flatP out)/\Below w.heap.size w wr) (fun _ i _=>l.length-(intOf i).toNat)
 case atStart=>exact⟨0,[],by omega,rfl,rfl,by simp,World.ownsRow_nil _ _ _ _,Below.refl _ _⟩
 case round=>
  obtain⟨k,out,hk,rfl,hout,hole,hown,hB⟩:=hrel
  have hsz:=hB.size
  by_cases hlt:k<l.length
  · obtain⟨x,hx⟩: ∃x,l[k]? =some x:=⟨_,List.getElem?_eq_getElem hlt⟩
    obtain⟨b,rfl,d0,d1,d2⟩:=HL.out k x hx
    have hb:b<w.heap.size:=World.block_lt_of_cell? w _ d0
    have d0:=below_cell hB hb d0
    have d1:=below_cell hB hb d1
    have d2:=below_cell hB hb d2
    have hbw:b<wr.heap.size:=by omega
    have hsn:=joinT_snoc l k x hx
    rw[<-hout.out] at hsn
    obtain⟨W1,hW1⟩: ∃W1,W1=wr.alloc (.cells #[.int .i64 x.fr,.int .i64 x.to,.string x.val] 109):=⟨_,rfl⟩
    have hB1:Below wr.heap.size wr W1:=by rw[hW1];exact(Below.refl _ _).alloc (Nat.le_refl _) _
    have hs1:W1.heap.size=wr.heap.size+1:=by rw[hW1];simp
    have hxb:W1.heap[wr.heap.size]? =some (.cells #[.int .i64 x.fr,.int .i64 x.to,.string x.val] 109 (0,0)):=by rw[hW1];exact block_alloc_new wr _
    have hown1:=ownsRow_below hown hB1
    have hBB:=below_trans hB hsz hB1
    have HW1:=Lib.hid hW1
    have HBB:=Lib.hid hBB
    have HO1:=Lib.hid hown1
    have hxl:wr.heap.size<W1.heap.size:=by omega
    have hxm:w.heap.size<=W1.heap.size:=by omega
    clear hx hW1 hown hB1 hown1 hBB hs1
    rcases List.eq_nil_or_concat out with h0|⟨m,q,h0⟩
    · subst h0
      rw[joinStep_nil] at hsn
      have HS:=Lib.hid hsn
      have x0:W1.cell? ⟨wr.heap.size,0,none⟩=some (.int .i64 x.fr):=block_cell hxb 0
      have x1:W1.cell? ⟨wr.heap.size,1,none⟩=some (.int .i64 x.to):=block_cell hxb 1
      have x2:W1.cell? ⟨wr.heap.size,2,none⟩=some (.string x.val):=block_cell hxb 2
      obtain⟨ao2,cap2,rfl,_⟩:=ownsRow_at HO1.out
      clear hsn hxb
      go_wp2_with fail
      rw[<-HW1.out]
      go_quiet (fail)
      revert nq;intro n1
      obtain⟨W2,hW2⟩: ∃W2,W2=W1.drewN n1:=⟨_,rfl⟩
      have hB2:Below W1.heap.size W1 W2:=by rw[hW2];exact below_drewN' (Below.refl _ _) _
      rw[<-hW2]
      have y0:=below_cell hB2 hxl x0
      have y1:=below_cell hB2 hxl x1
      have y2:=below_cell hB2 hxl x2
      have hxl2:wr.heap.size<W2.heap.size:=by have:=hB2.size;omega
      have hxm2:w.heap.size<=W2.heap.size:=by have:=hB2.size;omega
      have HO2:=Lib.hid (ownsRow_below HO1.out hB2)
      have HBB2:=Lib.hid (HBB.out.trans (hB2.mono hxm))
      clear hW2 hB2 x0 x1 x2
      go_wp2_with (at_builtin;refine appPiece rfl _ _ rfl w.heap.size _ [] rfl (HO2.out.alloc _) W2.heap.size x rfl (by simp) (by simp) (by simp) (by simp;try omega) (by simp;omega) w (HBB2.out.alloc hxm2 _) ?_;intro v' w6 hown6 hB7 hs7 hg7)
      go_roundw
      case rel=>exact⟨k+1,_,by omega,by go_num,(by show _=_;rw[HS.out];rfl),by simp,hown6,hB7⟩
      case measure=>simp[intOf];omega
    · rw [List.concat_eq_append] at h0
      subst h0
      rw[List.length_append] at hole
      simp only[List.length_cons,List.length_nil,Nat.zero_add] at hole
      have hO:=HO1.out
      rw[List.length_append] at hO
      simp only[List.length_cons,List.length_nil,Nat.zero_add] at hO
      obtain⟨gb,gc,rfl⟩:=ownsRow_succ hO
      have hgl:=hO.lt gb rfl
      obtain⟨f0,f1,f2⟩:=flatP_last m q
      have g1:W1.cell? ⟨gb,m.length*3+1,none⟩=some (.int .i64 q.to):=by rw[hO.cellAt (m.length*3+1) (by omega)];exact f1
      have g2:W1.cell? ⟨gb,m.length*3+2,none⟩=some (.string q.val):=by rw[hO.cellAt (m.length*3+2) (by omega)];exact f2
      have g3:=hO.frozenAt (m.length*3+1)
      have HO3:=Lib.hid hO
      clear hO
      have x0:W1.cell? ⟨wr.heap.size,0,none⟩=some (.int .i64 x.fr):=block_cell hxb 0
      have x1:W1.cell? ⟨wr.heap.size,1,none⟩=some (.int .i64 x.to):=block_cell hxb 1
      have x2:W1.cell? ⟨wr.heap.size,2,none⟩=some (.string x.val):=block_cell hxb 2
      have hm0:0<=m.length:=Nat.zero_le _
      clear hxb f0 f1 f2
      rcases Decidable.em (q.to=x.fr) with ht|ht
      · rcases Decidable.em (q.val=x.val) with hv|hv
        · rw [joinStep_hit ht hv] at hsn
          have HS:=Lib.hid hsn
          have t1:(q.to==x.fr)=true:=by simpa using ht
          have t2:(q.val.toList==x.val.toList)=true:=by rw[bytes_beq];simpa using hv
          clear hsn ht hv
          go_wp2_with fail
          rw[<-HW1.out]
          go_quiet (fail)
          revert nq;intro n1
          have hst:=(ownsRow_below HO3.out (below_drewN' (Below.refl _ W1) n1)).stored (m.length*3+1) (.int .i64 x.to)
          rw[flatP_setLast] at hst
          have HST:=Lib.hid hst
          have hgw:gb<W1.heap.size:=hgl.2
          have HBB2:=Lib.hid (below_drewN' HBB.out n1)
          clear hst
          go_wp2_with fail
          refine⟨⟨k+1,m++ [⟨q.fr,x.to,q.val⟩],by omega,by go_num,(by show _=_;rw[HS.out]),by simp;omega,by rw[List.length_append];exact HST.out.1,HBB2.out.setCell (p:=⟨gb,m.length*3+1,none⟩) hgl.1 _⟩,by simp[intOf];omega⟩
        · have hne: ¬(q.to=x.fr/\q.val=x.val):=fun e=>hv e.2
          rw[joinStep_miss hne] at hsn
          have HS:=Lib.hid hsn
          have t1:(q.to==x.fr)=true:=by simpa using ht
          have t2:(q.val.toList==x.val.toList)=false:=by rw[bytes_beq];simpa using hv
          clear hsn ht hv hne
          go_wp2_with fail
          rw[<-HW1.out]
          go_quiet (fail)
          revert nq;intro n1
          obtain⟨W2,hW2⟩: ∃W2,W2=W1.drewN n1:=⟨_,rfl⟩
          have hB2:Below W1.heap.size W1 W2:=by rw[hW2];exact below_drewN' (Below.refl _ _) _
          rw[<-hW2]
          have y0:=below_cell hB2 hxl x0
          have y1:=below_cell hB2 hxl x1
          have y2:=below_cell hB2 hxl x2
          have hxl2:wr.heap.size<W2.heap.size:=by have:=hB2.size;omega
          have hxm2:w.heap.size<=W2.heap.size:=by have:=hB2.size;omega
          have HO2:=Lib.hid (ownsRow_below HO1.out hB2)
          have HBB2:=Lib.hid (HBB.out.trans (hB2.mono hxm))
          clear hW2 hB2 x0 x1 x2 g1 g2 g3
          go_wp2_with (at_builtin;refine appPiece rfl _ _ rfl w.heap.size _ (m++ [q]) rfl (HO2.out.alloc _) W2.heap.size x rfl (by simp) (by simp) (by simp) (by simp;try omega) (by simp;omega) w (HBB2.out.alloc hxm2 _) ?_;intro v' w6 hown6 hB7 hs7 hg7)
          go_roundw
          case rel=>exact⟨k+1,_,by omega,by go_num,(by show _=_;rw[HS.out]),by simp;omega,hown6,hB7⟩
          case measure=>simp[intOf];omega
      · have hne: ¬(q.to=x.fr/\q.val=x.val):=fun e=>ht e.1
        rw[joinStep_miss hne] at hsn
        have HS:=Lib.hid hsn
        have t1:(q.to==x.fr)=false:=by simpa using ht
        clear hsn ht hne
        go_wp2_with fail
        rw[<-HW1.out]
        go_quiet (fail)
        revert nq;intro n1
        obtain⟨W2,hW2⟩: ∃W2,W2=W1.drewN n1:=⟨_,rfl⟩
        have hB2:Below W1.heap.size W1 W2:=by rw[hW2];exact below_drewN' (Below.refl _ _) _
        rw[<-hW2]
        have y0:=below_cell hB2 hxl x0
        have y1:=below_cell hB2 hxl x1
        have y2:=below_cell hB2 hxl x2
        have hxl2:wr.heap.size<W2.heap.size:=by have:=hB2.size;omega
        have hxm2:w.heap.size<=W2.heap.size:=by have:=hB2.size;omega
        have HO2:=Lib.hid (ownsRow_below HO1.out hB2)
        have HBB2:=Lib.hid (HBB.out.trans (hB2.mono hxm))
        clear hW2 hB2 x0 x1 x2 g1 g2 g3
        go_wp2_with (at_builtin;refine appPiece rfl _ _ rfl w.heap.size _ (m++ [q]) rfl (HO2.out.alloc _) W2.heap.size x rfl (by simp) (by simp) (by simp) (by simp;try omega) (by simp;omega) w (HBB2.out.alloc hxm2 _) ?_;intro v' w6 hown6 hB7 hs7 hg7)
        go_roundw
        case rel=>exact⟨k+1,_,by omega,by go_num,(by show _=_;rw[HS.out]),by simp;omega,hown6,hB7⟩
        case measure=>simp[intOf];omega
  · have he:out=joinP l:=by rw[hout.out];unfold joinT;rw[List.take_of_length_le (by omega)];rfl
    have HE:=Lib.hid he
    clear he
    go_wp2_with fail
    go_ret
    exact⟨_,rfl,by rw[<-HE.out];exact hown,hB⟩
def pieE (s:Pst) (k:KeyP) (a:Int):Int:=if askE s a≠0 then askE s a else if keyB k then 0 else 1
def PcsPost (vs:List Ver) (k:KeyP) (a:Int) (w:World) (e:Ending) (w' :World):Prop:=
 ∃v L,e= .returned (.tuple #[v,.nilIface])/\L.Perm (piecesU vs k a)/\L.Pairwise (fun p q=>p.fr<=q.fr)/\w'.ownsRow w.heap.size 109 3 v (joinP L).length (flatP (joinP L))/\Below w.heap.size w w'
set_option maxRecDepth 100000 in
set_option maxHeartbeats 2000000 in
theorem pPieces_bad (k:KeyP) (a:Int) (pb po:Nat) (R:Rest) (s:Pst) (g:Gh) (w:World) (h:PastAt w pb po R s g) (hs:k.word.size<=maxLen) (hb:pieE s k a≠0):
  Calls Tryz.prog 139 #[.pointer (some ⟨pb,po,none⟩),.agg #[.int .i64 k.kind,.int .i64 k.a,.string k.word,.int .i64 k.b],.int .i64 a] w fun e w' =>e= .returned (.tuple #[.slice none 0 0,errV (pieE s k a)])/\Below w.heap.size w w' :=by
 have hR:=fun W (hB:Below w.heap.size w W)=>pright_any pb po R s g a W (h.below hB)
 by_cases ha:askE s a=0
 · have hk:keyB k=false:=by
    cases hk:keyB k with
    | false=>rfl
    | true=>exact absurd (by unfold pieE;rw[if_neg (by simpa using ha),if_pos hk]) hb
   have e:pieE s k a=1:=by unfold pieE;rw[if_neg (by simpa using ha),if_neg (by rw[hk];decide)]
   rw[e]
   rw[ha,errN_0] at hR
   have HR:=Lib.hid hR
   have hK:=fun W=>fkey_any k.kind k.a k.b k.word W hs
   rw[show(⟨k.kind,k.a,k.word,k.b⟩:KeyP)=k from rfl,hk] at hK
   have HK:=Lib.hid hK
   unfold errV
   clear hR ha h hs hK hk e hb
   go_enter Tryz.func139,Tryz.ntmps139
   go_wp2_with fail
   refine(HR.out _ ((Below.refl _ _).alloc (Nat.le_refl _) _)).mono ?_
   rintro e w1 ⟨rfl,rfl⟩
   go_wp2_with fail
   refine(HK.out _).mono ?_
   rintro e w2 ⟨rfl,b2⟩
   have B2:=below_over b2
   clear b2
   go_wp2_with fail
   go_ret2
   exact⟨rfl,B2⟩
 · have e:pieE s k a=askE s a:=by unfold pieE;rw[if_pos ha]
   rw[e]
   rw[errN_ne ha] at hR
   obtain⟨n,hn⟩: ∃n,n=askE s a:=⟨_,rfl⟩
   rw[<-hn] at hR ⊢
   unfold errV at*
   have HR:=Lib.hid hR
   clear hR hn ha h e hb
   go_enter Tryz.func139,Tryz.ntmps139
   go_wp2_with fail
   refine(HR.out _ ((Below.refl _ _).alloc (Nat.le_refl _) _)).mono ?_
   rintro e w1 ⟨rfl,rfl⟩
   go_wp2_with fail
   go_ret2
   exact⟨rfl,(Below.refl _ _).alloc (Nat.le_refl _) _⟩
set_option maxRecDepth 100000 in
set_option maxHeartbeats 2000000 in
theorem pPieces_ok (k:KeyP) (a:Int) (pb po:Nat) (R:Rest) (s:Pst) (g:Gh) (w:World) (h:PastAt w pb po R s g) (hW:Wf s) (ha:askE s a=0) (hk:keyB k=true) (hn:s.next<=4000):
  Calls Tryz.prog 139 #[.pointer (some ⟨pb,po,none⟩),.agg #[.int .i64 k.kind,.int .i64 k.a,.string k.word,.int .i64 k.b],.int .i64 a] w (PcsPost s.vs k a w):=by
 have hR:=fun W (hB:Below w.heap.size w W)=>pright_any pb po R s g a W (h.below hB)
 rw[ha,errN_0] at hR
 have HR:=Lib.hid hR
 have hs:k.word.size<=maxLen:=by have:=(wfkey hk).2;unfold maxLen;omega
 have hK:=fun W=>fkey_any k.kind k.a k.b k.word W hs
 rw[show(⟨k.kind,k.a,k.word,k.b⟩:KeyP)=k from rfl,hk] at hK
 have HK:=Lib.hid hK
 have hP:=fun W (hB:Below w.heap.size w W)=>ppieces_any k a pb po R s g W (h.below hB) hW hk hn
 have HPP:=Lib.hid hP
 have hll:=piecesU_length hW k a
 have hl2:=h.ids.len
 have HLL:=Lib.hid (show(piecesU s.vs k a).length<=4001 by omega)
 clear hR ha h hs hK hk hP hW hll hl2
 go_enter Tryz.func139,Tryz.ntmps139
 go_wp2_with fail
 refine(HR.out _ ((Below.refl _ _).alloc (Nat.le_refl _) _)).mono ?_
 rintro e w1 ⟨rfl,rfl⟩
 go_wp2_with fail
 refine(HK.out _).mono ?_
 rintro e w2 ⟨rfl,b2⟩
 have B2:=below_over b2
 have HB2:=Lib.hid B2
 have k0:=(b2.cell (p:=⟨w.heap.size,0,none⟩) (by simp)).trans (show _=some (.int .i64 k.kind) by simp)
 have k1:=(b2.cell (p:=⟨w.heap.size,1,none⟩) (by simp)).trans (show _=some (.int .i64 k.a) by simp)
 have k2:=(b2.cell (p:=⟨w.heap.size,2,none⟩) (by simp)).trans (show _=some (.string k.word) by simp)
 have k3:=(b2.cell (p:=⟨w.heap.size,3,none⟩) (by simp)).trans (show _=some (.int .i64 k.b) by simp)
 have hs2:=b2.size
 simp at hs2
 have hlt2:w.heap.size<w2.heap.size:=by omega
 clear b2 B2 hs2
 go_wp2_with fail
 refine(HPP.out w2 HB2.out).mono ?_
 rintro e w3 ⟨v,L,rfl,hp,hps,own3,b3⟩
 obtain⟨ao,cap,rfl,hpa⟩:=ownsRow_pcs own3
 have hll:L.length<=4001:=by rw[hp.length_eq];exact HLL.out
 have HB3:=Lib.hid (HB2.out.trans (b3.mono (by omega)))
 have HPA:=Lib.hid hpa
 have HPS:=Lib.hid hps
 have HPE:=Lib.hid hp
 have hs3:=b3.size
 clear hp hps own3 b3 hpa k0 k1 k2 k3
 go_wp2_with fail
 refine(pjoin_any L ao cap w3 HPA.out hll).mono ?_
 rintro e w4 ⟨v,rfl,own4,b4⟩
 have HO4:=Lib.hid own4
 have HB4:=Lib.hid (HB3.out.trans (b4.mono (by omega)))
 clear own4 b4
 go_wp2_with fail
 go_ret2
 exact⟨_,L,rfl,HPE.out,HPS.out,ownsRow_base HO4.out (by omega),HB4.out⟩
theorem ranges_frame {P:Program} {k:TypeId} {R:Value->Option (DataW Unit×List MemPlace)} {F:Nat->Prop} {w w' :World} {b r n:Nat} {D:DataW Unit} {left:Lit->Bool} {cnt:Nat} (h:w.ranges P k R b r n D left cnt) (hf:Fr F w w') (hb: ¬F b) (hr: ¬F r):w'.ranges P k R b r n D left cnt:=by
 obtain⟨es,clock,since,seen,c0,hb',F',hs,hD,hr',rest⟩:=h
 exact⟨es,clock,since,seen,c0,hf.keeps hb' hb,F',hs,hD,hf.keeps hr' hr,rest⟩
theorem wpList_next_raw {P:Program} (w:World) {ops:Array Oper} {rest:List Oper} {o:Oper} {a:Act} {Q:Exit->Act->World->Prop} (hg:o.guard=none) (it:Operand) (hop:o.op=Op.next it false) (k:TypeId) (K:Keyed P k) (R:Value->Option (DataW Unit×List MemPlace)) (b r n:Nat) (D:DataW Unit) (left:Lit->Bool) (cnt:Nat)
  (hit:a.eval it= .pointer (some ⟨r,0,none⟩)) (h:w.ranges P k R b r n D left cnt)
  (hDone:cnt=0->(∀kl,left kl=false)->wpList P ops Q rest (a.put o.dst (.tuple #[.bool false])) w)
  (hMore: ∀(key v:Value) (kl:Lit) (y:DataW Unit×List MemPlace) (w' :World) (cnt' :Nat),keyOf P k key=some kl->left kl=true->R v=some y->(∀zd,D.atKey kl zd=y.1)->w'.ranges P k R b r n D (fun z=>left z && !z.sameKey kl) cnt' ->cnt' <cnt→
   w.grownBy w' (some r)->w'.heap.size=w.heap.size->(Instr.entry (.pointer (some ⟨r,0,none⟩))).run P w' = .ok (.tuple #[key,v]) w' ->wpList P ops Q rest (a.put o.dst (.tuple #[.bool true,key,v])) w'):
  wpList P ops Q (o::rest) a w:=by
 refine wpList_plain hg fun K' hK' => ?_
 unfold Oper.wp
 rcases h.next K o.type with ⟨h0,hl,hrun⟩|⟨key,v,kl,y,w',cnt',hkey,hlk,hv,hat,hrun,hrg,hlt,hgr,hsz,hen⟩
 · simp[execOp,hop,hit,hrun,Result.andThen]
   exact hK' _ _ (hDone h0 hl)
 · simp[execOp,hop,hit,hrun,Result.andThen]
   exact hK' _ _ (hMore key v kl y w' cnt' hkey hlk hv hat hrg hlt hgr hsz hen)
theorem infoKey:(Tryz.prog.info? 97).map (fun i=>(i.zero,i.size,i.bytes))=some (some (.agg #[.int .i64 0,.int .i64 0,.string ⟨#[]⟩,.int .i64 0]),4,40):=by kernel_rfl
theorem flatKeys_append (l m:List KeyP):flatKeys (l++m)=flatKeys l++flatKeys m:=by simp[flatKeys]
theorem flatKeys_length (l:List KeyP):(flatKeys l).length=l.length*4:=by
 induction l with
 | nil=>rfl
 | cons p l ih=>simp only[flatKeys,List.flatMap_cons,List.length_append] at*;rw[ih];simp[encK];omega
theorem appKey {W:World} {ops:Array Oper} {rest:List Oper} {o:Oper} {a:Act} {Q:Exit->Act->World->Prop} (hgd:o.guard=none) (s x:Operand)
  (ho:o.op= .call { callee:= .builtin .append,args:= #[s,x],argTypes:= #[51,51] }) (base:Nat) (v:Value) (l:List KeyP) (hs:a.eval s=v) (hown:W.ownsRow base 97 4 v l.length (flatKeys l))
  (b:Nat) (p:KeyP) (hx:a.eval x= .slice (some ⟨b,0,none⟩) 1 1) (hc0:W.cell? ⟨b,0,none⟩=some (.int .i64 p.kind)) (hc1:W.cell? ⟨b,1,none⟩=some (.int .i64 p.a)) (hc2:W.cell? ⟨b,2,none⟩=some (.string p.word)) (hc3:W.cell? ⟨b,3,none⟩=some (.int .i64 p.b))
  (hbytes:(l.length+1)*40<=140737488355328) (hbase:base<=W.heap.size) (w0:World) (hB:Below base w0 W)
  (h: ∀v' w',w'.ownsRow base 97 4 v' (l++ [p]).length (flatKeys (l++ [p]))->Below base w0 w' ->W.heap.size<=w'.heap.size->W.grownBy w' v.ownBlock->wpList Tryz.prog ops Q rest (a.put o.dst v') w'):wpList Tryz.prog ops Q (o::rest) a W:=by
 refine app1 hgd s x _ ho base 97 Tryz.underlying51 infoKey rfl (by decide) (by decide) v l.length (flatKeys l) hs hown b (encK p) hx rfl (fun u hu=> ?_) (fun j u hu=> ?_) hbytes hbase w0 hB fun v' w' h2 h3 h4 h5 h6=>h v' w' ?_ h3 h4 h6
 · simp[encK] at hu;rcases hu with rfl|rfl|rfl|rfl<;>rfl
 · match j,hu with
   | 0,hu=>simp[encK] at hu;subst hu;exact hc0
   | 1,hu=>simp[encK] at hu;subst hu;exact hc1
   | 2,hu=>simp[encK] at hu;subst hu;exact hc2
   | 3,hu=>simp[encK] at hu;subst hu;exact hc3
 · rw [flatKeys_append,List.length_append]
   have e:flatKeys [p]=encK p:=by simp[flatKeys]
   rw[e];exact h2
structure KL (ts:List Tr) (p:KeyP->Prop) (left:Lit->Bool) (U:List KeyP):Prop where
 nod:U.Nodup
 mem: ∀k,k∈U↔(∃x∈ts,x.key=k/\left (kK k)=false)/\p k
theorem kK_same {x y:KeyP} (hx:keyB x=true) (hy:keyB y=true):(kK x).sameKey (kK y)=decide (x=y):=by
 rw[Bool.eq_iff_iff]
 simp only[decide_eq_true_eq]
 constructor
 · intro h;exact kK_inj hx hy (WideAt.sameKey_eq h)
 · intro h;subst h;exact WideAt.sameKey_self (kK_key _)
theorem KL.start {ts:List Tr} {p:KeyP->Prop} {left:Lit->Bool} (h: ∀x∈ts,left (kK x.key)=true):KL ts p left []:=
 ⟨List.nodup_nil,fun k=>⟨(fun h=>by cases h),(fun⟨⟨x,hx,e,hl⟩,_⟩=>by subst e;rw[h x hx] at hl;cases hl)⟩⟩
theorem KL.old {ts:List Tr} {p:KeyP->Prop} {left:Lit->Bool} {U:List KeyP} (h:KL ts p left U) {x:Tr} (_hx:x∈ts) (hl:left (kK x.key)=true):x.key∉U:=fun hm=>by
 obtain⟨⟨y,_,_,hy⟩,_⟩:=(h.mem _).1 hm
 rw[hl] at hy;cases hy
theorem left_step {ts:List Tr} (hk: ∀x∈ts,keyB x.key=true) {left:Lit->Bool} {x y:Tr} (hx:x∈ts) (hy:y∈ts):(left (kK y.key) && !(kK y.key).sameKey (kK x.key))=false↔left (kK y.key)=false\/y.key=x.key:=by
 rw[kK_same (hk y hy) (hk x hx)]
 cases left (kK y.key)<;>simp
theorem KL.yes {ts:List Tr} (hk: ∀x∈ts,keyB x.key=true) {p:KeyP->Prop} {left:Lit->Bool} {U:List KeyP} (h:KL ts p left U) {x:Tr} (hx:x∈ts) (hl:left (kK x.key)=true) (hp:p x.key):KL ts p (fun z=>left z && !z.sameKey (kK x.key)) (U++ [x.key]):=by
 refine⟨List.nodup_append.2 ⟨h.nod,by simp,fun a ha b hb e=> ?_⟩,fun k=> ?_⟩
 · simp at hb;subst hb;subst e;exact h.old hx hl ha
 · rw [List.mem_append,h.mem]
   constructor
   · rintro(⟨⟨y,hy,e,hl'⟩,hp'⟩|e)
     · subst e
       exact⟨⟨y,hy,rfl,(left_step hk hx hy).2 (.inl hl')⟩,hp'⟩
     · simp at e;subst e
       exact⟨⟨x,hx,rfl,(left_step hk hx hx).2 (.inr rfl)⟩,hp⟩
   · rintro⟨⟨y,hy,e,hl'⟩,hp'⟩
     subst e
     rcases(left_step hk hx hy).1 hl' with e|e
     · exact .inl ⟨⟨y,hy,rfl,e⟩,hp'⟩
     · exact .inr (by simp[e])
theorem KL.no {ts:List Tr} (hk: ∀x∈ts,keyB x.key=true) {p:KeyP->Prop} {left:Lit->Bool} {U:List KeyP} (h:KL ts p left U) {x:Tr} (hx:x∈ts) (hp: ¬p x.key):KL ts p (fun z=>left z && !z.sameKey (kK x.key)) U:=by
 refine⟨h.nod,fun k=> ?_⟩
 rw[h.mem]
 constructor
 · rintro⟨⟨y,hy,e,hl'⟩,hp'⟩
   subst e
   exact⟨⟨y,hy,rfl,(left_step hk hx hy).2 (.inl hl')⟩,hp'⟩
 · rintro⟨⟨y,hy,e,hl'⟩,hp'⟩
   subst e
   rcases(left_step hk hx hy).1 hl' with e|e
   · exact⟨⟨y,hy,rfl,e⟩,hp'⟩
   · rw[e] at hp';exact absurd hp' hp
theorem ownsRow_frame {F:Nat->Prop} {w w' :World} {base:Nat} {e:TypeId} {size:Nat} {v:Value} {n:Nat} {xs:List Value} (h:w.ownsRow base e size v n xs) (hf:Fr F w w') (hn: ∀g,base<=g-> ¬F g):w'.ownsRow base e size v n xs:=
 ⟨h.1,h.2.imp id fun⟨g,cap,cur,h1,h2,h3,h4⟩=>⟨g,cap,cur,h1,h2,hf.keeps h3 (hn g h2),h4⟩⟩
def keyE (s:Pst) (a t:Int):Int:=if askE s a≠0 then askE s a else if timeB t then 0 else 1
def KeysPost (s:Pst) (a t:Int) (w:World) (e:Ending) (w' :World):Prop:=
 ∃v L,e= .returned (.tuple #[v,.nilIface])/\L.Pairwise (fun x y=>keyLess x y=true)/\(∀k,k∈L↔keyB k=true/\(valueP s.vs k a t).size≠0)/\w'.ownsRow w.heap.size 97 4 v L.length (flatKeys L)/\(L.length:Int)<=s.next/\Below w.heap.size w w'
theorem keys_end {pb po:Nat} {R:Rest} {s:Pst} {g:Gh} {w:World} (h:PastAt w pb po R s g) {a t:Int} {U:List KeyP} {left:Lit->Bool} (hU:KL g.ts (fun k=>(valueP s.vs k a t).size≠0) left U) (hl: ∀kl,left kl=false) (k:KeyP):k∈U↔keyB k=true/\(valueP s.vs k a t).size≠0:=by
 rw[hU.mem]
 constructor
 · rintro⟨⟨x,hx,e,_⟩,hp⟩;subst e;exact⟨h.keyOk x hx,hp⟩
 · rintro⟨hk,hp⟩
   refine⟨?_,hp⟩
   cases hy:treeFor g.ts k with
   | some x=>exact⟨x,(treeFor_some hy).1,(treeFor_some hy).2,hl _⟩
   | none=>
     exfalso
     have hti:itemsK s.vs k= []:=by
      cases e:itemsK s.vs k with
      | nil=>rfl
      | cons z l=>
        obtain⟨v,hv,hvk,_⟩:=mem_itemsK.1 (show z∈itemsK s.vs k by rw[e];simp)
        obtain⟨z',hz',e'⟩:=h.all v hv
        exact absurd (e'.trans hvk) (treeFor_none hy z' hz')
     have h0:atL (itemsK s.vs k) t= []:=by
      have h1:=atL_length (itemsK s.vs k) t
      have h3:(itemsK s.vs k).length=0:=by rw[hti];rfl
      exact List.eq_nil_of_length_eq_zero (by omega)
     unfold valueP at hp
     rw[h0] at hp
     exact hp rfl
set_option maxRecDepth 100000 in
set_option maxHeartbeats 2000000 in
theorem pkeys_bad (a t:Int) (pb po:Nat) (R:Rest) (s:Pst) (g:Gh) (w:World) (h:PastAt w pb po R s g) (hb:keyE s a t≠0):
  Calls Tryz.prog 117 #[.pointer (some ⟨pb,po,none⟩),.int .i64 a,.int .i64 t] w fun e w' =>e= .returned (.tuple #[.slice none 0 0,errV (keyE s a t)])/\w=w' :=by
 have hR:=pright_any pb po R s g a w h
 by_cases ha:askE s a=0
 · have ht:timeB t=false:=by
    cases hk:timeB t with
    | false=>rfl
    | true=>exact absurd (by unfold keyE;rw[if_neg (by simpa using ha),if_pos hk]) hb
   have e:keyE s a t=1:=by unfold keyE;rw[if_neg (by simpa using ha),if_neg (by rw[ht];decide)]
   rw[e]
   rw[ha,errN_0] at hR
   have HR:=Lib.hid hR
   unfold errV
   clear hR ha h e hb
   by_cases h1:t< -1099511627776
   · clear ht
     go_enter Tryz.func117,Tryz.ntmps117
     go_wp2_with fail
     refine HR.out.mono ?_
     rintro e w1 ⟨rfl,rfl⟩
     go_wp2_with fail
     go_ret2
     exact⟨rfl,rfl⟩
   · have h2:1099511627776<=t:=by unfold timeB at ht;simp at ht;omega
     have h1' :decide (t< -1099511627776)=false:=by simpa using h1
     clear ht h1
     go_enter Tryz.func117,Tryz.ntmps117
     go_wp2_with fail
     refine HR.out.mono ?_
     rintro e w1 ⟨rfl,rfl⟩
     go_wp2_with fail
     go_ret2
     exact⟨rfl,rfl⟩
 · have e:keyE s a t=askE s a:=by unfold keyE;rw[if_pos ha]
   rw[e]
   rw[errN_ne ha] at hR
   obtain⟨n,hn⟩: ∃n,n=askE s a:=⟨_,rfl⟩
   rw[<-hn] at hR ⊢
   unfold errV at*
   have HR:=Lib.hid hR
   clear hR hn ha h e hb
   go_enter Tryz.func117,Tryz.ntmps117
   go_wp2_with fail
   refine HR.out.mono ?_
   rintro e w1 ⟨rfl,rfl⟩
   go_wp2_with fail
   go_ret2
   exact⟨rfl,rfl⟩
set_option maxRecDepth 100000 in
set_option maxHeartbeats 4000000 in
theorem pkeys_some (a t:Int) (pb po:Nat) (R:Rest) (s:Pst) (g:Gh) (tm:Nat) (w:World) (h:PastAt w pb po R s g) (htm:g.tm=some tm) (ha:askE s a=0) (ht:timeB t=true) (hn:s.next<=4000):
  Calls Tryz.prog 117 #[.pointer (some ⟨pb,po,none⟩),.int .i64 a,.int .i64 t] w (KeysPost s a t w):=by
 obtain⟨i0,hi,hz0,hz1,hz2⟩:=info_parts infoKey
 have hR:=pright_any pb po R s g a w h
 rw[ha,errN_0] at hR
 have HR:=Lib.hid hR
 have ht' : -1099511627776<=t/\t<1099511627776:=by simpa [timeB] using ht
 obtain⟨ht1,ht2⟩:=ht'
 have ht3:decide (t< -1099511627776)=false:=by simp;omega
 have ht4:decide (1099511627776<=t)=false:=by simp;omega
 obtain⟨_,_,_,_,c4⟩:=past_cells h.len h.cells
 rw[htm] at c4
 have htr:=h.trees
 rw[htm] at htr
 obtain⟨Dt,hown,hD⟩:=htr
 have hhas: ∀x∈g.ts,Maps.has Dt (kK x.key)=true:=fun x hx=>(hD.has _ (kK_key _)).2 ⟨x,hx,rfl⟩
 have hsz:=hD.size
 have htl:=h.tlen
 have hlen:g.ts.length<=4000:=by omega
 have hlt:=h.lt tm (.inr (.inr (.inl htm)))
 have HD:=Lib.hid hD
 have HP:=Lib.hid h
 have HST:=Lib.hid (KL.start (p:=fun k=>(valueP s.vs k a t).size≠0) hhas)
 have HSZ:=Lib.hid hsz
 have HA:=Lib.hid ha
 have HTT:=Lib.hid ht
 clear hR h htm ha ht hD hhas hsz
 go_enter Tryz.func117,Tryz.ntmps117
 go_wp2_with fail
 refine HR.out.mono ?_
 rintro e w1 ⟨rfl,rfl⟩
 go_wp2_with (at_range;refine wpList_range_own _ rfl _ 124 rfl 97 222 keyLaw Tryz.underlying124 treeR tm g.ts.length Dt rfl hown ?_;intro w2 hrg hgr hs2)
 go_frame
 have hB2:Below w.heap.size w w2:=⟨hgr.os,hgr.tape,hgr.output,hgr.size,fun i hi' =>hgr.block i hi' (by simp)⟩
 have HB2:=Lib.hid hB2
 have HRG:=Lib.hid hrg
 have HS2:=Lib.hid hs2
 obtain⟨r,hr⟩: ∃r,r=w.heap.size:=⟨_,rfl⟩
 have hrg' :w2.ranges Tryz.prog 97 treeR tm r g.ts.length Dt (Maps.has Dt) (Maps.size Dt):=by rw[hr];exact hrg
 have HRG' :=Lib.hid hrg'
 have HRE:=Lib.hid hr
 rw[<-hr]
 clear hgr hB2 hrg hs2 hown c4 hrg' hr
 go_loopw [9] (fun v wr=> ∃(left:Lit->Bool) (cnt:Nat) (U:List KeyP),wr.ranges Tryz.prog 97 treeR tm r g.ts.length Dt left cnt/\KL g.ts (fun k=>(valueP s.vs k a t).size≠0) left U/\U.length+cnt<=g.ts.length/\wr.ownsRow (r+1) 97 4 v U.length (flatKeys U)/\Below r w wr/\r<wr.heap.size/\(∀q,left q=true->Maps.has Dt q=true)) (fun _ wr=>wr.rangeLeft tm r)
 case atStart=>exact⟨_,_,[],HRG'.out,HST.out,by rw[HSZ.out];simp,World.ownsRow_nil _ _ _ _,by rw[HRE.out];exact HB2.out,by have:=HS2.out;have:=HRE.out;omega,fun _ e=>e⟩
 case round=>
  obtain⟨left,cnt,U,hrg,hKL,hcnt,hownU,hBr,hrl,hsub⟩:=hrel
  have HKL:=Lib.hid hKL
  have HBR:=Lib.hid hBr
  have HSUB:=Lib.hid hsub
  have HRGW:=Lib.hid hrg
  clear hKL hBr hsub
  go_wp2_with (at_next;refine wpList_next_raw _ rfl _ rfl 97 keyLaw treeR tm r g.ts.length Dt left cnt rfl hrg ?_ ?_)
  · intro hc0 hl0
    have HL0:=Lib.hid hl0
    clear hl0 hc0 hrg
    go_wp2_with fail
    have hle:U.length<=4000:=by omega
    refine(sortKeys_own (r+1) u9 U wr hownU (by omega) (by omega)).mono ?_
    rintro e w5 ⟨rfl,own5,b5⟩
    have HO5:=Lib.hid own5
    have HB5:=Lib.hid b5
    clear own5 b5
    go_wp2_with fail
    go_ret2
    refine⟨_,sortKeys U,rfl,sortKeys_sorted HKL.out.nod,fun k=> ?_,?_,?_,?_⟩
    · rw [(sortKeys_perm U).mem_iff]
      exact keys_end HP.out HKL.out HL0.out k
    · rw [(sortKeys_perm U).length_eq]
      exact ownsRow_base HO5.out (by rw[HRE.out];omega)
    · rw[(sortKeys_perm U).length_eq];omega
    · have h1:Below w.heap.size w wr:=by rw[<-HRE.out];exact HBR.out
      exact h1.trans (HB5.out.mono (by rw[HRE.out];omega))
  · intro key v kl y1 y2 w3 cnt3 hkey hlk hv hat hrg3 hlt3 hgr3 hs3 hen
    obtain⟨x,hx,e⟩:=HD.out.got (keyLaw.key hkey) (HSUB.out _ hlk)
    have ek:key=keyV x.key:=keyLaw.inj hkey (by rw[<-e];exact keyOf_key (HP.out.keyOk x hx))
    subst ek
    have ekl:kl=kK x.key:=e.symm
    subst ekl
    have hF3:Fr (· =r) wr w3:=Fr.ofGrown hgr3
    have hB3:Below r w w3:=HBR.out.trans (hF3.below (B:=r) (fun k _ e=>by omega) (by omega))
    have hown3:=ownsRow_frame hownU hF3 (fun g hg e=>by omega)
    have hkb:=HP.out.keyOk x hx
    have hsub3: ∀q,(left q && !q.sameKey (kK x.key))=true->Maps.has Dt q=true:=fun q hq=>HSUB.out q (by rw[Bool.and_eq_true] at hq;exact hq.1)
    obtain⟨W4,hW4⟩: ∃W4,W4=w3.alloc (.cells #[.int .i64 x.key.kind,.int .i64 x.key.a,.string x.key.word,.int .i64 x.key.b] 97):=⟨_,rfl⟩
    have hB4:Below w3.heap.size w3 W4:=by rw[hW4];exact(Below.refl _ _).alloc (Nat.le_refl _) _
    have hs4:W4.heap.size=w3.heap.size+1:=by rw[hW4];simp
    have hkc:=cells4 (show W4.heap[w3.heap.size]? =_ by rw[hW4];exact block_alloc_new w3 _)
    have hBw4:Below w.heap.size w W4:=by
     have h1:Below w.heap.size w w3:=by rw[<-HRE.out];exact hB3
     exact h1.trans (hB4.mono (by have:=HRE.out;omega))
    have hval:=pvalue_any x.key a t pb po R s g W4 (HP.out.below hBw4) (by have:=(wfkey hkb).2;unfold maxLen;omega) hn
    rw[valV_ok HA.out hkb HTT.out] at hval
    obtain⟨vx,hvx⟩: ∃vx,vx=valueP s.vs x.key a t:=⟨_,rfl⟩
    rw[<-hvx] at hval
    have HVAL:=Lib.hid hval
    have HVX:=Lib.hid hvx
    have HW4:=Lib.hid hW4
    have HB4:=Lib.hid hB4
    have HKC:=Lib.hid hkc
    have HRG3:=Lib.hid hrg3
    have HS3:=Lib.hid hs3
    have HB3:=Lib.hid hB3
    have HSUB3:=Lib.hid hsub3
    have HX:=Lib.hid hx
    have HLK:=Lib.hid hlk
    have hrl3:r<w3.heap.size:=by omega
    have hsl4:w3.heap.size<W4.heap.size:=by omega
    have htr:tm<r:=by have:=HRE.out;omega
    have hown4:=ownsRow_below hown3 hB4
    clear hval hvx hW4 hB4 hkc hrg3 hs3 hB3 hsub3 hat hkey e hv hgr3 hF3 hx hlk hkb hs4 hBw4 hown3 hownU hrg
    unfold keyV at hen
    have frame: ∀W,Below (r+1) w3 W->W.ranges Tryz.prog 97 treeR tm r g.ts.length Dt (fun z=>left z && !z.sameKey (kK x.key)) cnt3:=fun W hB=>ranges_frame HRG3.out (Fr.ofBelow hB) (by omega) (by omega)
    have HFRM:=Lib.hid frame
    clear frame
    by_cases h0:vx.size=0
    · have hv1:=empty_true h0
      have hv2:(!vx.toList.isEmpty)=false:=by rw[hv1];rfl
      have hkl:=KL.no HP.out.keyOk HKL.out HX.out (x:=x) (by rw[<-HVX.out];exact fun h=>h h0)
      have HKL2:=Lib.hid hkl
      clear h0 hkl
      go_wp2_with fail
      rw[<-HW4.out]
      refine HVAL.out.mono ?_
      rintro e w5 ⟨rfl,b5⟩
      have hB5:Below (r+1) w3 w5:=(HB4.out.mono (by omega)).trans (b5.mono (by omega))
      have hown5:=ownsRow_below hown4 b5
      have HB5:=Lib.hid hB5
      have hs5:=b5.size
      clear b5 hB5
      go_wp2_with fail
      go_roundw
      case rel=>exact⟨_,cnt3,U,HFRM.out _ HB5.out,HKL2.out,by omega,hown5,HB3.out.trans (HB5.out.mono (by omega)),by omega,HSUB3.out⟩
      case measure=>rw[(HFRM.out _ HB5.out).left_eq,HRGW.out.left_eq];exact hlt3
    · have hv1:=empty_false h0
      have hv2:(!vx.toList.isEmpty)=true:=by rw[hv1];rfl
      have hkl:=KL.yes HP.out.keyOk HKL.out HX.out HLK.out (by rw[<-HVX.out];exact h0)
      have HKL2:=Lib.hid hkl
      clear h0 hkl
      go_wp2_with fail
      rw[<-HW4.out]
      refine HVAL.out.mono ?_
      rintro e w5 ⟨rfl,b5⟩
      have hB5:Below (r+1) w3 w5:=(HB4.out.mono (by omega)).trans (b5.mono (by omega))
      have hown5:=ownsRow_below hown4 b5
      have HB5:=Lib.hid hB5
      have hs5:=b5.size
      obtain⟨kc0,kc1,kc2,kc3⟩:=HKC.out
      have k0:=below_cell b5 hsl4 kc0
      have k1:=below_cell b5 hsl4 kc1
      have k2:=below_cell b5 hsl4 kc2
      have k3:=below_cell b5 hsl4 kc3
      have hsl5:w3.heap.size<w5.heap.size:=by omega
      clear b5 hB5 kc0 kc1 kc2 kc3
      go_wp2_with (at_builtin;refine appKey rfl _ _ rfl (r+1) _ U rfl (hown5.alloc _) w5.heap.size x.key rfl (by simp) (by simp) (by simp) (by simp) (by omega) (by simp;omega) w5 ((Below.refl _ _).alloc (by omega) _) ?_;intro v' w6 hown6 hB6 hs6 hg6)
      have hB7:Below (r+1) w3 w6:=HB5.out.trans hB6
      have hs7:=hB7.size
      go_roundw
      case rel=>exact⟨_,cnt3,U++ [x.key],HFRM.out _ hB7,HKL2.out,by rw[List.length_append];simp;omega,hown6,HB3.out.trans (hB7.mono (by omega)),by omega,HSUB3.out⟩
      case measure=>rw[(HFRM.out _ hB7).left_eq,HRGW.out.left_eq];exact hlt3
set_option maxRecDepth 100000 in
set_option maxHeartbeats 2000000 in
theorem pkeys_none (a t:Int) (pb po:Nat) (R:Rest) (s:Pst) (g:Gh) (w:World) (h:PastAt w pb po R s g) (htm:g.tm=none) (ha:askE s a=0) (ht:timeB t=true):
  Calls Tryz.prog 117 #[.pointer (some ⟨pb,po,none⟩),.int .i64 a,.int .i64 t] w (KeysPost s a t w):=by
 have hR:=pright_any pb po R s g a w h
 rw[ha,errN_0] at hR
 have HR:=Lib.hid hR
 have ht' : -1099511627776<=t/\t<1099511627776:=by simpa [timeB] using ht
 obtain⟨ht1,ht2⟩:=ht'
 have ht3:decide (t< -1099511627776)=false:=by simp;omega
 have ht4:decide (1099511627776<=t)=false:=by simp;omega
 obtain⟨_,_,_,_,c4⟩:=past_cells h.len h.cells
 rw[htm] at c4
 have hvs:s.vs= []:=by
  have h1:=h.vers
  rw[h.both.2 htm] at h1;exact h1
 have hnv: ∀k,(valueP s.vs k a t).size=0:=fun k=>by
  have :atL (itemsK s.vs k) t= []:=by
   have h1:=atL_length (itemsK s.vs k) t
   have h3:(itemsK s.vs k).length=0:=by rw[hvs];rfl
   exact List.eq_nil_of_length_eq_zero (by omega)
  unfold valueP;rw[this];rfl
 have hs:=sortKeys_own (w.heap.size+1) (.slice none 0 0) []
 have r1:=run_range_nilMap (P:=Tryz.prog) w 124 97 222 Tryz.underlying124
 have r2:=fun ty=>run_next_nilMap (P:=Tryz.prog) w ty 0 0 #[]
 have HNV:=Lib.hid hnv
 have hn0:=h.ids.next0
 have HS:=Lib.hid hs
 clear hR h htm ha ht hvs hnv hs
 go_enter Tryz.func117,Tryz.ntmps117
 go_wp2_with fail
 refine HR.out.mono ?_
 rintro e w1 ⟨rfl,rfl⟩
 go_wp2_with fail
 refine wp_loop_rounds 1 ?_
 rw[rounds_succ]
 go_wp2_with fail
 refine(HS.out _ (World.ownsRow_nil _ _ _ _) (by simp) (by decide)).mono ?_
 rintro e w5 ⟨rfl,own5,b5⟩
 have HO5:=Lib.hid own5
 have HB5:=Lib.hid b5
 clear own5 b5
 go_wp2_with fail
 go_ret2
 refine⟨_,[],rfl,.nil,fun k=>⟨(fun h=>by cases h),(fun h=>absurd (HNV.out k) h.2)⟩,World.ownsRow_nil _ _ _ _,by simpa using hn0,?_⟩
 exact((Below.refl _ w).alloc (Nat.le_refl _) _).trans (HB5.out.mono (by omega))
theorem pkeys_ok (a t:Int) (pb po:Nat) (R:Rest) (s:Pst) (g:Gh) (w:World) (h:PastAt w pb po R s g) (ha:askE s a=0) (ht:timeB t=true) (hn:s.next<=4000):
  Calls Tryz.prog 117 #[.pointer (some ⟨pb,po,none⟩),.int .i64 a,.int .i64 t] w (KeysPost s a t w):=by
 cases htm:g.tm with
 | none=>exact pkeys_none a t pb po R s g w h htm ha ht
 | some tm=>exact pkeys_some a t pb po R s g tm w h htm ha ht hn
end Go.Proofs.YtpgkjnebklknjaaGreatDoor
