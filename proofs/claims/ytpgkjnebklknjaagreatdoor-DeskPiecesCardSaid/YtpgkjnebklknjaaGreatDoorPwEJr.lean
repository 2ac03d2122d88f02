/-What a change does,step by step (plain);versions struck and ended in the maps of a past. -/
import Derived.Maps.OwnSet
import Derived.Deep.SlicePairs
import Derived.ProofKit
import Derived.Lib.SmallJoins
import Derived.DeepKeys4
import Derived.WideKeyArgs2
import Derived.Deep.QuietTactic
import Derived.BigQuiet
import Derived.StillTailTactics
import Derived.Test.YtpgkjnebklknjaaGreatDoorPastQJr
import Derived.Test.YtpgkjnebklknjaaGreatDoorTreeRJr
import Derived.Test.YtpgkjnebklknjaaGreatDoorFcGJr
import Derived.Test.YtpgkjnebklknjaaGreatDoorFcKJr
import Derived.Test.YtpgkjnebklknjaaGreatDoorErrCJr
namespace Go.Proofs.YtpgkjnebklknjaaGreatDoor
open Go
def noVer:Ver:=⟨0,⟨0,0,⟨#[]⟩,0⟩,0,0,⟨#[]⟩,0,0⟩
def verAt (vs:List Ver) (id:Int):Ver:=(vs.find? fun u=>decide (u.id=id)).getD noVer
theorem Wf.verAt {s:Pst} (h:Wf s) {v:Ver} (hv:v∈s.vs):verAt s.vs v.id=v:=by
 unfold Go.Proofs.YtpgkjnebklknjaaGreatDoor.verAt;rw[h.found hv];rfl
def seenB (v:Ver) (a:Int):Bool:=decide (v.bg<=a) && (decide (v.en=0)||decide (a<v.en))
theorem seenB_iff {v:Ver} {a:Int}:seenB v a=true↔v.seen a:=by unfold seenB Ver.seen;simp
def timeB (t:Int):Bool:=decide (-1099511627776<=t/\t<1099511627776)
theorem mem_atL {L:List It} {t id:Int} (ht:timeB t=true):id∈atL L t↔ ∃x∈L,x.2.1=id/\x.1<=t/\t<x.2.2:=by
 have ht' : -1099511627776<=t/\t<1099511627776:=by simpa [timeB] using ht
 unfold atL
 rw[if_pos ht',mem_meetsL (by unfold rightB;simp;omega)]
 constructor
 · rintro⟨x,h1,h2,h3,h4⟩;exact⟨x,h1,h2,by omega,h4⟩
 · rintro⟨x,h1,h2,h3,h4⟩;exact⟨x,h1,h2,by omega,h4⟩
theorem mem_atK {s:Pst} (_h:Wf s) {k:KeyP} {t id:Int} (ht:timeB t=true):id∈atL (itemsK s.vs k) t↔ ∃v∈s.vs,v.key=k/\v.id=id/\v.has t:=by
 rw[mem_atL ht]
 constructor
 · rintro⟨x,hx,h1,h2,h3⟩
   obtain⟨v,hv,hk,rfl⟩:=mem_itemsK.1 hx
   exact⟨v,hv,hk,h1,h2,h3⟩
 · rintro⟨v,hv,hk,h1,h2,h3⟩
   exact⟨v.item,mem_itemsK.2 ⟨v,hv,hk,rfl⟩,h1,h2,h3⟩
def valueP (vs:List Ver) (k:KeyP) (a t:Int):ByteArray:=match (atL (itemsK vs k) t).find? fun id=>seenB (verAt vs id) a with
 | some id=>(verAt vs id).val
 | none=>⟨#[]⟩
theorem size0 {x:ByteArray} (h:x.size=0):x=⟨#[]⟩:=by
 apply bytes_ext
 have:x.data.toList.length=0:=by simpa using h
 rw[List.eq_nil_of_length_eq_zero this]
theorem value_sees {s:Pst} (h:Wf s) {k:KeyP} {a t:Int} (ht:timeB t=true):(∃x,Sees s.vs k a t x/\valueP s.vs k a t=x)\/((∀x,¬Sees s.vs k a t x)/\valueP s.vs k a t=⟨#[]⟩):=by
 unfold valueP
 cases hf:(atL (itemsK s.vs k) t).find? fun id=>seenB (verAt s.vs id) a with
 | some id=>
   left
   have h1:=List.find?_some hf
   obtain⟨v,hv,hk,rfl,h2⟩:=(mem_atK h ht).1 (List.mem_of_find?_eq_some hf)
   simp only[h.verAt hv] at h1 ⊢
   exact⟨v.val,⟨v,hv,hk,h2,seenB_iff.1 h1,rfl⟩,rfl⟩
 | none=>
   right
   refine⟨fun x=> ?_,rfl⟩
   rintro⟨v,hv,hk,h1,h2,_⟩
   have:=List.find?_eq_none.1 hf v.id ((mem_atK h ht).2 ⟨v,hv,hk,rfl,h1⟩)
   rw[h.verAt hv] at this
   exact this (seenB_iff.2 h2)
theorem value_told {hist:List (List OpP)} {s:Pst} (h:Wf s) (hT:Told hist s) {k:KeyP} {n:Nat} {t:Int} (ht:timeB t=true) (h1:s.gone<=n) (h2:n<=hist.length):valueP s.vs k n t=saidH hist k n t:=by
 rcases value_sees h (k:=k) (a:=n) ht with ⟨x,hx,e⟩|⟨hx,e⟩
 · rw[e,((hT.told k n t x h1 h2).1 hx).2]
 · rw [e]
   by_cases h0:(saidH hist k n t).size=0
   · rw[size0 h0]
   · exact absurd ((hT.told k n t _ h1 h2).2 ⟨h0,rfl⟩) (hx _)
def piecesU (vs:List Ver) (k:KeyP) (a:Int):List Pc:=((meetsL (itemsK vs k) (-1099511627776) 1099511627776).filter fun id=>seenB (verAt vs id) a).map fun id=>⟨(verAt vs id).fr,(verAt vs id).to,(verAt vs id).val⟩
theorem mem_allK {s:Pst} (h:Wf s) {k:KeyP} {id:Int}:id∈meetsL (itemsK s.vs k) (-1099511627776) 1099511627776↔ ∃v∈s.vs,v.key=k/\v.id=id:=by
 rw[mem_meetsL (by decide)]
 constructor
 · rintro⟨x,hx,h1,_⟩
   obtain⟨v,hv,hk,rfl⟩:=mem_itemsK.1 hx
   exact⟨v,hv,hk,h1⟩
 · rintro⟨v,hv,hk,h1⟩
   have:=h.right v hv
   unfold rightB at this
   simp at this
   exact⟨v.item,mem_itemsK.2 ⟨v,hv,hk,rfl⟩,h1,by simp only[Ver.item];omega,by simp only[Ver.item];omega⟩
theorem meets_nod {s:Pst} (h:Wf s) (k:KeyP) (f t:Int):(meetsL (itemsK s.vs k) f t).Nodup:=by
 unfold meetsL
 split
 · exact(List.mergeSort_perm _ _).nodup_iff.2 ((items_nod h k).sublist (List.Sublist.map _ List.filter_sublist))
 · exact List.nodup_nil
theorem mem_piecesU {s:Pst} (h:Wf s) {k:KeyP} {a:Int} {p:Pc}:p∈piecesU s.vs k a↔ ∃v∈s.vs,v.key=k/\v.seen a/\p=⟨v.fr,v.to,v.val⟩:=by
 unfold piecesU
 rw[List.mem_map]
 constructor
 · rintro⟨id,hid,rfl⟩
   obtain⟨h1,h2⟩:=List.mem_filter.1 hid
   obtain⟨v,hv,hk,rfl⟩:=(mem_allK h).1 h1
   rw[h.verAt hv] at h2 ⊢
   exact⟨v,hv,hk,seenB_iff.1 h2,rfl⟩
 · rintro⟨v,hv,hk,h1,rfl⟩
   refine⟨v.id,List.mem_filter.2 ⟨(mem_allK h).2 ⟨v,hv,hk,rfl⟩,?_⟩,?_⟩
   · rw[h.verAt hv];exact seenB_iff.2 h1
   · rw[h.verAt hv]
theorem piecesU_cov {s:Pst} (h:Wf s) {k:KeyP} {a t:Int} {x:ByteArray}:Cov (piecesU s.vs k a) t x↔Sees s.vs k a t x:=by
 unfold Cov Sees
 constructor
 · rintro⟨p,hp,h1,h2⟩
   obtain⟨v,hv,hk,hs,rfl⟩:=(mem_piecesU h).1 hp
   exact⟨v,hv,hk,h1,hs,h2⟩
 · rintro⟨v,hv,hk,h1,hs,h2⟩
   exact⟨_,(mem_piecesU h).2 ⟨v,hv,hk,hs,rfl⟩,h1,h2⟩
theorem piecesU_good {s:Pst} (h:Wf s) {k:KeyP} {a:Int} {p:Pc} (hp:p∈piecesU s.vs k a):p.good/\rightB p.fr p.to=true/\wordB p.val=true:=by
 obtain⟨v,hv,hk,hs,rfl⟩:=(mem_piecesU h).1 hp
 have h1:=h.right v hv
 have h2:=h.vals v hv
 refine⟨⟨?_,?_⟩,h1,h2⟩
 · unfold rightB at h1;simp at h1;exact h1.2.2
 · unfold wordB at h2;simp at h2;simp only;omega
theorem piecesU_apart {s:Pst} (h:Wf s) (k:KeyP) (a:Int):(piecesU s.vs k a).Pairwise fun p q=> ∀t,p.has t-> ¬q.has t:=by
 unfold piecesU
 rw[List.pairwise_map]
 have hn:=(meets_nod h k (-1099511627776) 1099511627776).sublist (List.filter_sublist (p:=fun id=>seenB (verAt s.vs id) a))
 refine List.Pairwise.imp_of_mem ?_ hn
 intro i j hi hj hne t h1 h2
 obtain⟨hi1,hi2⟩:=List.mem_filter.1 hi
 obtain⟨hj1,hj2⟩:=List.mem_filter.1 hj
 obtain⟨u,hu,hku,rfl⟩:=(mem_allK h).1 hi1
 obtain⟨v,hv,hkv,rfl⟩:=(mem_allK h).1 hj1
 rw[h.verAt hu] at h1 hi2
 rw[h.verAt hv] at h2 hj2
 have:=h.one hu hv (hku.trans hkv.symm) (t:=t) (a:=a) h1 h2 (seenB_iff.1 hi2) (seenB_iff.1 hj2)
 exact hne (by rw[this])
theorem rows_of {U L:List Pc} (hg: ∀p∈U,p.good) (ha:U.Pairwise fun p q=> ∀t,p.has t-> ¬q.has t) (hp:L.Perm U) (hs:L.Pairwise fun p q=>p.fr<=q.fr):Rows L:=by
 have hgL: ∀p∈L,p.good:=fun p h=>hg p (hp.mem_iff.1 h)
 refine⟨hgL,?_⟩
 have haL:L.Pairwise fun p q=> ∀t,p.has t-> ¬q.has t:=(hp.symm.pairwise_iff (fun {p q} h t h1 h2=>h t h2 h1)).1 ha
 refine List.Pairwise.imp_of_mem ?_ (hs.and haL)
 intro p q hpm hqm h
 have g1:=(hgL p hpm).1
 have g2:=(hgL q hqm).1
 rcases Int.lt_or_le q.fr p.to with hlt|hle
 · exact absurd ⟨Int.le_refl _,g2⟩ (h.2 q.fr ⟨h.1,hlt⟩)
 · exact hle
structure PiecesOf (hist:List (List OpP)) (k:KeyP) (n:Nat) (L:List Pc):Prop where
 canon:Canon L
 cov: ∀t x,Cov L t x↔(x.size≠0/\saidH hist k n t=x)
theorem PiecesOf.one {hist hist' :List (List OpP)} {k:KeyP} {n n' :Nat} {L M:List Pc} (h:PiecesOf hist k n L) (h' :PiecesOf hist' k n' M) (he: ∀t,saidH hist k n t=saidH hist' k n' t):L=M:=
 canon_unique h.canon h'.canon fun t x=>by rw[h.cov,h'.cov,he]
theorem pieces_told {hist:List (List OpP)} {s:Pst} (h:Wf s) (hT:Told hist s) {k:KeyP} {n:Nat} (h1:s.gone<=n) (h2:n<=hist.length) {L:List Pc} (hp:L.Perm (piecesU s.vs k n)) (hs:L.Pairwise fun p q=>p.fr<=q.fr):PiecesOf hist k n (joinP L):=by
 have hr:Rows L:=rows_of (fun p hp=>(piecesU_good h hp).1) (piecesU_apart h k n) hp hs
 obtain⟨c1,c2⟩:=join_spec hr
 refine⟨c1,fun t x=> ?_⟩
 rw[c2, <-hT.told k n t x h1 h2, <-piecesU_cov h]
 unfold Cov
 exact⟨fun⟨p,h3,r⟩=>⟨p,hp.mem_iff.1 h3,r⟩,fun⟨p,h3,r⟩=>⟨p,hp.mem_iff.2 h3,r⟩⟩
theorem piecesU_length {s:Pst} (_h:Wf s) (k:KeyP) (a:Int):(piecesU s.vs k a).length<=s.vs.length:=by
 unfold piecesU
 rw[List.length_map]
 refine Nat.le_trans (List.length_filter_le _ _) (Nat.le_trans (meetsL_length _ _ _) ?_)
 unfold itemsK
 rw[List.length_map]
 exact List.length_filter_le _ _
def everB (vs:List Ver) (a b:Int) (id:Int):Bool:=decide ((verAt vs id).bg<=b) && (decide ((verAt vs id).en=0)||decide (a<(verAt vs id).en))
def everU (vs:List Ver) (k:KeyP) (a b f t:Int):List ByteArray:=((meetsL (itemsK vs k) f t).filter (everB vs a b)).map fun id=>(verAt vs id).val
def EverIs (hist:List (List OpP)) (k:KeyP) (n m:Nat) (f t:Int) (x:ByteArray):Prop:=x.size≠0/\ ∃i:Nat,n<=i/\i<=m/\ ∃y,f<=y/\y<t/\saidH hist k i y=x
theorem ever_told {hist:List (List OpP)} {s:Pst} (h:Wf s) (hT:Told hist s) {k:KeyP} {n m:Nat} (h1:s.gone<=n) (hnm:n<=m) (h2:m<=hist.length) {f t:Int} (hr:rightB f t=true) (x:ByteArray):x∈everU s.vs k n m f t↔EverIs hist k n m f t x:=by
 have hft:f<t:=by unfold rightB at hr;simp at hr;exact hr.2.2
 unfold everU EverIs
 rw[List.mem_map]
 constructor
 · rintro⟨id,hid,rfl⟩
   obtain⟨hi1,hi2⟩:=List.mem_filter.1 hid
   obtain⟨y,hy,e,h3,h4⟩:=(mem_meetsL hr).1 hi1
   obtain⟨v,hv,hk,rfl⟩:=mem_itemsK.1 hy
   change v.id=id at e
   subst e
   change v.fr<t at h3
   change f<v.to at h4
   unfold everB at hi2
   rw[h.verAt hv] at hi2 ⊢
   simp only[Bool.and_eq_true,Bool.or_eq_true,decide_eq_true_eq] at hi2
   have hl:=h.life v hv
   have hvr:=h.right v hv
   unfold rightB at hvr;simp at hvr
   have hvv:=h.vals v hv
   unfold wordB at hvv;simp at hvv
   refine⟨by omega,?_⟩
   obtain⟨i,hi⟩: ∃i:Nat,(i:Int)=imax (n:Int) v.bg:=⟨(imax (n:Int) v.bg).toNat,by unfold imax;omega⟩
   unfold imax at hi
   refine⟨i,by omega,by omega,imax f v.fr,by unfold imax;omega,by unfold imax;omega,?_⟩
   have:=(hT.told k i (imax f v.fr) v.val (by omega) (by omega)).1 ⟨v,hv,hk,⟨by unfold imax;omega,by unfold imax;omega⟩,⟨by omega,by omega⟩,rfl⟩
   exact this.2
 · rintro⟨h0,i,hi1,hi2,y,hy1,hy2,e⟩
   obtain⟨v,hv,hk,hh,hs,rfl⟩:=(hT.told k i y x (by omega) (by omega)).2 ⟨h0,e⟩
   refine⟨v.id,List.mem_filter.2 ⟨(mem_meetsL hr).2 ⟨v.item,mem_itemsK.2 ⟨v,hv,hk,rfl⟩,rfl,?_,?_⟩,?_⟩,by rw[h.verAt hv]⟩
   · show v.fr<t;have:=hh.1;omega
   · show f<v.to;have:=hh.2;omega
   · unfold everB
     rw[h.verAt hv]
     simp only[Bool.and_eq_true,Bool.or_eq_true,decide_eq_true_eq]
     have:=hs.1
     rcases hs.2 with h3|h3
     · exact⟨by omega,.inl h3⟩
     · exact⟨by omega,.inr (by omega)⟩
theorem strict_unique {α:Type} {r:α->α->Prop} (hi: ∀a,¬r a a) (ha: ∀a b,r a b-> ¬r b a) {l m:List α} (hl:l.Pairwise r) (hm:m.Pairwise r) (h: ∀x,x∈l↔x∈m):l=m:=by
 have n1:l.Nodup:=List.Pairwise.imp (fun {a b} (h:r a b) (e:a=b)=>hi a (by subst e;exact h)) hl
 have n2:m.Nodup:=List.Pairwise.imp (fun {a b} (h:r a b) (e:a=b)=>hi a (by subst e;exact h)) hm
 exact List.Perm.eq_of_pairwise (le:=r) (fun a b _ _ h1 h2=>absurd h2 (ha a b h1)) hl hm ((List.perm_ext_iff_of_nodup n1 n2).2 h)
def KeysIs (hist:List (List OpP)) (n:Nat) (t:Int) (l:List KeyP):Prop:=l.Pairwise (fun x y=>keyLess x y=true)/\ ∀k,k∈l↔(saidH hist k n t).size≠0
theorem KeysIs.one {hist hist' :List (List OpP)} {n n' :Nat} {t t' :Int} {l m:List KeyP} (h:KeysIs hist n t l) (h' :KeysIs hist' n' t' m) (he: ∀k,saidH hist k n t=saidH hist' k n' t'):l=m:=
 strict_unique (fun a e=>by rw[keyLess_irrefl] at e;cases e) (fun a b h1 h2=>by rw[keyLess_asymm a b h1] at h2;cases h2) h.1 h'.1 fun k=>by rw[h.2,h'.2,he]
def bLess (x y:ByteArray):Prop:=Op.bytesLess x.data.toList y.data.toList=true
def EversIs (hist:List (List OpP)) (k:KeyP) (n m:Nat) (f t:Int) (l:List ByteArray):Prop:=l.Pairwise bLess/\ ∀x,x∈l↔EverIs hist k n m f t x
theorem EversIs.one {hist hist' :List (List OpP)} {k k' :KeyP} {n n' m m' :Nat} {f t f' t' :Int} {l l' :List ByteArray} (h:EversIs hist k n m f t l) (h' :EversIs hist' k' n' m' f' t' l') (he: ∀x,EverIs hist k n m f t x↔EverIs hist' k' n' m' f' t' x):l=l' :=
 strict_unique (fun a e=>by unfold bLess at e;rw[bless_irrefl] at e;cases e) (fun a b h1 h2=>by unfold bLess at*;rw[bless_asymm _ _ h1] at h2;cases h2) h.1 h'.1 fun x=>by rw[h.2,h'.2,he]
open Go.Maps
section
variable {α:Type} {kl:α->Lit} {dt:α->DataW Unit}
structure MapOf (kl:α->Lit) (dt:α->DataW Unit) (D:DataW Unit) (L:List α):Prop where
 tidy:Tidy D
 size:Maps.size D=L.length
 has: ∀q,WideAt.IsKeyLit q->(Maps.has D q=true↔ ∃x∈L,kl x=q)
 at' : ∀x∈L,∀d,D.atKey (kl x) d=dt x
theorem mapOf_nil:MapOf kl dt (.map []) []:=⟨tidy_empty,rfl,fun q _=>⟨(fun h=>by cases h),(fun⟨x,hx,_⟩=>by cases hx)⟩,fun x hx=>by cases hx⟩
theorem MapOf.perm {D:DataW Unit} {L L' :List α} (h:MapOf kl dt D L) (hp:L.Perm L'):MapOf kl dt D L' :=
 ⟨h.tidy,by rw[h.size,hp.length_eq],fun q hq=>by rw[h.has q hq];exact⟨fun⟨x,hx,e⟩=>⟨x,hp.mem_iff.1 hx,e⟩,fun⟨x,hx,e⟩=>⟨x,hp.mem_iff.2 hx,e⟩⟩,fun x hx=>h.at' x (hp.mem_iff.2 hx)⟩
theorem MapOf.none {D:DataW Unit} {L:List α} (h:MapOf kl dt D L) {q:Lit} (hq:WideAt.IsKeyLit q) (hn: ∀y∈L,kl y≠q):Maps.has D q=false:=by
 cases e:Maps.has D q with
 | false=>rfl
 | true=>obtain⟨x,hx,e'⟩:=(h.has q hq).1 e;exact absurd e' (hn x hx)
theorem MapOf.put {D:DataW Unit} {L:List α} (h:MapOf kl dt D L) (x:α) (hk:WideAt.IsKeyLit (kl x)) (hn: ∀y∈L,kl y≠kl x):MapOf kl dt (D.put (kl x) (dt x)) (x::L):=by
 refine⟨h.tidy.put hk _,?_,fun q hq=> ?_,fun y hy d=> ?_⟩
 · rw[size_put h.tidy,h.none hk hn,h.size];simp
 · by_cases e:q=kl x
   · subst e
     rw[has_put_same h.tidy.isMap hk]
     exact⟨fun _=>⟨x,by simp,rfl⟩,fun _=>rfl⟩
   · rw [has_put_other e,h.has q hq]
     constructor
     · rintro⟨y,hy,e'⟩;exact⟨y,List.mem_cons_of_mem _ hy,e'⟩
     · rintro⟨y,hy,e'⟩
       rcases List.mem_cons.1 hy with rfl|hy
       · exact absurd e'.symm e
       · exact⟨y,hy,e'⟩
 · rcases List.mem_cons.1 hy with rfl|hy
   · exact atKey_put_same h.tidy.isMap hk _ _
   · rw[atKey_put_other (hn y hy)];exact h.at' y hy d
theorem MapOf.over {D:DataW Unit} {L:List α} {x:α} (h:MapOf kl dt D (x::L)) (x' :α) (e:kl x' =kl x) (hk:WideAt.IsKeyLit (kl x)) (hn: ∀y∈L,kl y≠kl x):MapOf kl dt (D.put (kl x') (dt x')) (x' ::L):=by
 have hx:Maps.has D (kl x)=true:=(h.has _ hk).2 ⟨x,by simp,rfl⟩
 rw[e]
 refine⟨h.tidy.put hk _,?_,fun q hq=> ?_,fun y hy d=> ?_⟩
 · rw[size_put h.tidy,hx,h.size];simp
 · by_cases e2:q=kl x
   · subst e2
     rw[has_put_same h.tidy.isMap hk]
     exact⟨fun _=>⟨x',by simp,e⟩,fun _=>rfl⟩
   · rw [has_put_other e2,h.has q hq]
     constructor
     · rintro⟨y,hy,e'⟩
       rcases List.mem_cons.1 hy with rfl|hy
       · exact absurd e'.symm e2
       · exact⟨y,List.mem_cons_of_mem _ hy,e'⟩
     · rintro⟨y,hy,e'⟩
       rcases List.mem_cons.1 hy with rfl|hy
       · exact absurd (e.symm.trans e').symm e2
       · exact⟨y,List.mem_cons_of_mem _ hy,e'⟩
 · rcases List.mem_cons.1 hy with rfl|hy
   · rw[e];exact atKey_put_same h.tidy.isMap hk _ _
   · rw[atKey_put_other (hn y hy)];exact h.at' y (List.mem_cons_of_mem _ hy) d
theorem MapOf.del {D:DataW Unit} {L:List α} {x:α} (h:MapOf kl dt D (x::L)) (hk:WideAt.IsKeyLit (kl x)) (hn: ∀y∈L,kl y≠kl x):MapOf kl dt (D.del (kl x)) L:=by
 have hx:Maps.has D (kl x)=true:=(h.has _ hk).2 ⟨x,by simp,rfl⟩
 refine⟨h.tidy.del _,?_,fun q hq=> ?_,fun y hy d=> ?_⟩
 · have:=size_del (k:=kl x) h.tidy
   rw[hx,h.size] at this
   simp at this;omega
 · by_cases e:q=kl x
   · subst e
     rw[has_del_same]
     exact⟨(fun h=>by cases h),(fun⟨y,hy,e⟩=>absurd e (hn y hy))⟩
   · rw [has_del_other e,h.has q hq]
     constructor
     · rintro⟨y,hy,e'⟩
       rcases List.mem_cons.1 hy with rfl|hy
       · exact absurd e'.symm e
       · exact⟨y,hy,e'⟩
     · rintro⟨y,hy,e'⟩;exact⟨y,List.mem_cons_of_mem _ hy,e'⟩
 · rw[atKey_del_other (hn y hy)];exact h.at' y (List.mem_cons_of_mem _ hy) d
theorem MapOf.got {D:DataW Unit} {L:List α} (h:MapOf kl dt D L) {q:Lit} (hq:WideAt.IsKeyLit q) (hs:Maps.has D q=true): ∃x∈L,kl x=q:=(h.has q hq).1 hs
end
end Go.Proofs.YtpgkjnebklknjaaGreatDoor
namespace Go.Proofs.YtpgkjnebklknjaaGreatDoor
open Go.RowKit Go.Deep Go.Shelf Go.Sort Go.Maps
theorem tree_new {w:World} {tb:Nat} (h:w.heap[tb]? =some (.cells #[.pointer none,.map none] 285 (0,0))):TreeAt w tb [] .nil none:=
 ⟨h,trivial,List.nodup_nil,trivial,trivial,List.Pairwise.nil,List.nodup_nil,.refl _,rfl,(by simp[blocksT]),fun m e=>by cases e⟩
set_option maxRecDepth 100000 in
set_option maxHeartbeats 2000000 in
theorem tspan_has (id f tz:Int) (hi:i64 id) (w:World) (tb:Nat) (L:List It) (t:BT Nd) (mb:Option Nat) (h:TreeAt w tb L t mb) (hx:(f,id,tz)∈L):
  Calls Tryz.prog 227 #[.pointer (some ⟨tb,0,none⟩),.int .i64 id] w fun e w' =>e= .returned (.tuple #[.agg #[.int .i64 f,.int .i64 tz],.nilIface])/\Below w.heap.size w w' :=by
 cases mb with
 | none=>have hL:L= []:=h.mp;subst hL;cases hx
 | some m=>
   have HI:=Lib.hid hi
   have htb:tb<w.heap.size:=h.lt tb (Or.inl rfl)
   obtain⟨D,hown,hD⟩:=h.mp
   have hhas:Maps.has D (.int .i64 id)=true:=(hD.has id).trans (List.any_eq_true.2 ⟨_,hx,by simp⟩)
   have hat:D.atKey (.int .i64 id) (spanD 0 0)=spanD f tz:=hD.at' (f,id,tz) hx _
   obtain⟨tp,et⟩:=ptr_some t
   have hc:=h.cells
   rw[et] at hc
   have c1:=(tree_cells hc).2.1
   have HHAS:=Lib.hid hhas
   have HAT:=Lib.hid hat
   clear hc et hi hx hhas hat hD h
   go_enter Tryz.func227,Tryz.ntmps227
   go_wp2_with (at_lookup;refine wpList_lookup_own_ok _ rfl _ _ 283 rfl 3 107 intLaw Tryz.underlying283 spanR (zeroSpan _) (spanD 0 0) [] rfl m L.length D rfl (hown.alloc _) _ _ rfl (keyOf_int_mk Tryz.underlying3 (wfI HI.out)) ?_;intro v ps hv;obtain⟨vf,vt,rfl,hv2⟩:=spanR_inv hv;rw[HHAS.out];have hv3:=spanD_inj (HAT.out.symm.trans (congrArg Prod.fst hv2));obtain⟨rfl,rfl⟩:=hv3;clear hv hv2)
   exact bodyPost_ret (v:= .tuple #[.agg #[.int .i64 f,.int .i64 tz],.nilIface]) (by simp[results,Tryz.results227,go_sem]) rfl ⟨rfl,((Below.refl _ w).alloc (Nat.le_refl _) _).alloc (by simp) _⟩
open Go.ChangeShapes Go.WideShapes Go.ChangeAt Go.RowKit Go.Joins Go.Deep
theorem cellsKey:Tryz.prog.cellsOf 97=4:=by kernel_rfl
theorem cellsIntO:Tryz.prog.cellsOf 3=1:=by kernel_rfl
theorem cellsStrO:Tryz.prog.cellsOf 9=1:=by kernel_rfl
open Go.RowKit Go.Deep Go.Shelf Go.Sort Go.Maps Go.WideMaps
def keyV (k:KeyP):Value:= .agg #[.int .i64 k.kind,.int .i64 k.a,.string k.word,.int .i64 k.b]
def keyLs (k:KeyP):List Lit:= [.int .i64 k.kind,.int .i64 k.a,.string k.word.data.toList,.int .i64 k.b]
def kK (k:KeyP):Lit:= .string (keyBytes (keyLs k))
theorem kK_key (k:KeyP):WideAt.IsKeyLit (kK k):=by trivial
theorem key_keyType:Tryz.prog.keyType 97=true:=by kernel_rfl
theorem key_laidOut:laidOutB Tryz.prog=true:=by kernel_rfl
theorem key_row:(97:TypeId)<Tryz.prog.types.size:=of_decide_eq_true (by kernel_rfl)
theorem key_wide:(match Tryz.prog.underlying 97 with|some (.array _ _)|some (.struct _)=>true|_=>false)=true:=by kernel_rfl
theorem key_at:Tryz.prog.keyTypeAt 2 97=true:=by kernel_rfl
set_option maxRecDepth 100000 in
theorem keyLaw:Keyed Tryz.prog 97:=Keyed.of_law (deep_law_laid key_laidOut (m:=2) (by decide) key_row key_at key_wide)
theorem succ_of_lt {a n:Nat} (h:a<n): ∃m,n=m+1:=⟨n-1,by omega⟩
theorem key_sizes: ∃n,Tryz.prog.types.size=n+1:=succ_of_lt key_row
theorem wfkey {k:KeyP} (h:keyB k=true):(i64 k.kind/\i64 k.a/\i64 k.b)/\k.word.size<=12:=by
 have hw:=key_word h
 unfold keyB nodeB at h
 have hs:k.word.size<=12:=by
  rcases hw with hw|hw
  · omega
  · unfold wordB at hw;simp at hw;omega
 unfold i64
 split at h
 · rename_i h1;simp at h;refine⟨⟨?_,?_,?_⟩,hs⟩<;>omega
 · split at h
   · rename_i h1;simp at h;refine⟨⟨?_,?_,?_⟩,hs⟩<;>omega
   · split at h
     · rename_i h1;simp at h;refine⟨⟨?_,?_,?_⟩,hs⟩<;>omega
     · cases h
set_option maxRecDepth 100000 in
theorem key_lits (n:Nat) (k:KeyP) (h:keyB k=true):Tryz.prog.keyLits (n+2) 97 [.int .i64 k.kind,.int .i64 k.a,.string k.word,.int .i64 k.b]=some (keyLs k):=by
 obtain⟨⟨h1,h2,h3⟩,h4⟩:=wfkey h
 have w1:=wfI h1
 have w2:=wfI h2
 have w3:=wfI h3
 have w4:k.word.size<=maxLen:=by unfold maxLen;omega
 simp[Program.keyLits,Tryz.underlying97,Tryz.underlying3,Tryz.underlying9,cellsKey,cellsIntO,cellsStrO,w1,w2,w3,w4,keyLs]
theorem keyOf_key {k:KeyP} (h:keyB k=true):keyOf Tryz.prog 97 (keyV k)=some (kK k):=by
 obtain⟨n,hn⟩:=key_sizes
 have hf:(keyV k).formed Tryz.prog 97=true:=by
  unfold keyV Value.formed;simp only[Tryz.underlying97,cellsKey];rfl
 unfold keyOf
 rw[Tryz.underlying97]
 simp only[key_keyType,hf,Bool.and_self,if_true,hn]
 show((Tryz.prog.keyLits (n+1+1) 97 [.int .i64 k.kind,.int .i64 k.a,.string k.word,.int .i64 k.b]).map fun ls=>Lit.string (keyBytes ls))=_
 rw[key_lits n k h];rfl
theorem keyV_inj {x y:KeyP} (h:keyV x=keyV y):x=y:=by
 obtain⟨a,b,c,d⟩:=x;obtain⟨a',b',c',d'⟩:=y
 simp[keyV] at h
 obtain⟨rfl,rfl,rfl,rfl⟩:=h;rfl
theorem kK_inj {x y:KeyP} (hx:keyB x=true) (hy:keyB y=true) (h:kK x=kK y):x=y:=keyV_inj (keyLaw.inj (keyOf_key hx) (by rw[h];exact keyOf_key hy))
def verV (v:Ver):Value:= .agg #[.int .i64 v.key.kind,.int .i64 v.key.a,.string v.key.word,.int .i64 v.key.b,.string v.val,.int .i64 v.bg,.int .i64 v.en]
def verD7 (k a:Int) (s:ByteArray) (b:Int) (x:ByteArray) (g e:Int):DataW Unit:= .agg [.lit (.int .i64 k),.lit (.int .i64 a),.lit (.string s.data.toList),.lit (.int .i64 b),.lit (.string x.data.toList),.lit (.int .i64 g),.lit (.int .i64 e)]
def verD (v:Ver):DataW Unit:=verD7 v.key.kind v.key.a v.key.word v.key.b v.val v.bg v.en
def verR:Value->Option (DataW Unit×List MemPlace)
 | .agg ⟨[.int .i64 k,.int .i64 a,.string s,.int .i64 b,.string x,.int .i64 g,.int .i64 e]⟩=>some (verD7 k a s b x g e,[])
 | _=>none
theorem verR_mk (v:Ver):verR (verV v)=some (verD v,[]):=rfl
theorem verR_shape {v:Value} {z:DataW Unit×List MemPlace} (h:verR v=some z): ∃k a s b x g e,v= .agg #[.int .i64 k,.int .i64 a,.string s,.int .i64 b,.string x,.int .i64 g,.int .i64 e]/\z=(verD7 k a s b x g e,[]):=by
 unfold verR at h
 split at h
 · rename_i k a s b x g e;cases h;exact⟨k,a,s,b,x,g,e,rfl,rfl⟩
 · cases h
theorem verD7_inj {k a b g e k' a' b' g' e' :Int} {s x s' x' :ByteArray} (h:verD7 k a s b x g e=verD7 k' a' s' b' x' g' e'):k=k' /\a=a' /\s=s' /\b=b' /\x=x' /\g=g' /\e=e' :=by
 simp[verD7] at h
 obtain⟨h1,h2,h3,h4,h5,h6,h7⟩:=h
 exact⟨h1,h2,bytes_ext (by rw[h3]),h4,bytes_ext (by rw[h5]),h6,h7⟩
theorem verR_inv {v:Value} {u:Ver} {ps:List MemPlace} (h:verR v=some (verD u,ps)):v=verV u:=by
 obtain⟨k,a,s,b,x,g,e,rfl,h2⟩:=verR_shape h
 obtain⟨h3,h4,h5,h6,h7,h8,h9⟩:=verD7_inj (congrArg Prod.fst h2)
 unfold verV
 rw[h3,h4,h5,h6,h7,h8,h9]
def vK (v:Ver):Lit:=kI v.id
theorem zeroVer (w:World):(zeroValue 221).run Tryz.prog w= .ok (verV noVer) w:=by kernel_rfl
def versAt (w:World) (vs:List Ver):Option Nat->Prop
 | none=>vs= []
 | some m=> ∃D,w.ownsMap Tryz.prog 3 verR m vs.length D/\MapOf vK verD D vs
theorem versAt.frame {F:Nat->Prop} {w w' :World} {vs:List Ver} {am:Option Nat} (h:versAt w vs am) (hf:Fr F w w') (hn: ∀m,am=some m-> ¬F m):versAt w' vs am:=by
 cases am with
 | none=>exact h
 | some m=>obtain⟨D,h1,h2⟩:=h;exact⟨D,owns_frame h1 hf (hn m rfl),h2⟩
theorem ver_look {w:World} {vs:List Ver} {m:Nat} (h:versAt w vs (some m)) {v:Ver} (hv:v∈vs) (hi:i64 v.id):(Instr.lookup 123 (.map (some m)) (.int .i64 v.id) false).run Tryz.prog w= .ok (verV v) w:=by
 obtain⟨D,hown,hD⟩:=h
 obtain⟨u,ps,hr,hu⟩:=hown.lookup intLaw Tryz.underlying123 (zeroVer w) (verR_mk noVer) (keyOf_int_mk Tryz.underlying3 (wfI hi))
 rw[show D.atKey (.int .i64 v.id) (verD noVer)=verD v from hD.at' v hv _] at hu
 rw[hr,verR_inv hu]
structure Tr where
 key:KeyP
 tb:Nat
 t:BT Nd
 mb:Option Nat
def Tr.foot (x:Tr) (k:Nat):Prop:=Go.Proofs.YtpgkjnebklknjaaGreatDoor.foot x.tb x.t x.mb k
def ptrD (n:Int):DataW Unit:= .lit (.int .i64 n)
def treeR:Value->Option (DataW Unit×List MemPlace)
 | .pointer none=>some (ptrD (-1),[])
 | .pointer (some ⟨b,0,none⟩)=>some (ptrD (b:Nat),[])
 | _=>none
theorem treeR_none {v:Value} {ps:List MemPlace} (h:treeR v=some (ptrD (-1),ps)):v= .pointer none:=by
 unfold treeR at h
 split at h
 · rfl
 · exfalso;simp[ptrD] at h
 · cases h
theorem treeR_some {v:Value} {b:Nat} {ps:List MemPlace} (h:treeR v=some (ptrD (b:Nat),ps)):v= .pointer (some ⟨b,0,none⟩):=by
 unfold treeR at h
 split at h
 · exfalso;simp[ptrD] at h
 · rename_i b'
   simp[ptrD] at h
   have e:b' =b:=by omega
   rw[e]
 · cases h
def tK (x:Tr):Lit:=kK x.key
def tD (x:Tr):DataW Unit:=ptrD (x.tb:Nat)
def treeFor (ts:List Tr) (k:KeyP):Option Tr:=ts.find? fun x=>decide (x.key=k)
def trPtr (ts:List Tr) (k:KeyP):Value:=match treeFor ts k with|some x=> .pointer (some ⟨x.tb,0,none⟩)|none=> .pointer none
def treesAt (w:World) (ts:List Tr):Option Nat->Prop
 | none=>ts= []
 | some m=> ∃D,w.ownsMap Tryz.prog 97 treeR m ts.length D/\MapOf tK tD D ts
theorem treesAt.frame {F:Nat->Prop} {w w' :World} {ts:List Tr} {tm:Option Nat} (h:treesAt w ts tm) (hf:Fr F w w') (hn: ∀m,tm=some m-> ¬F m):treesAt w' ts tm:=by
 cases tm with
 | none=>exact h
 | some m=>obtain⟨D,h1,h2⟩:=h;exact⟨D,owns_frame h1 hf (hn m rfl),h2⟩
theorem zeroTree (w:World):(zeroValue 222).run Tryz.prog w= .ok (.pointer none) w:=by kernel_rfl
theorem tree_look {w:World} {ts:List Tr} {tm:Option Nat} (h:treesAt w ts tm) (hts: ∀x∈ts,keyB x.key=true) {k:KeyP} (hk:keyB k=true):(Instr.lookup 124 (.map tm) (keyV k) false).run Tryz.prog w= .ok (trPtr ts k) w:=by
 cases tm with
 | none=>
   have e:ts= []:=h
   subst e
   exact look_nil false keyLaw Tryz.underlying124 (zeroTree w) (keyOf_key hk)
 | some m=>
   obtain⟨D,hown,hD⟩:=h
   obtain⟨u,ps,hr,hu⟩:=hown.lookup keyLaw Tryz.underlying124 (zeroTree w) (zd:=ptrD (-1)) rfl (keyOf_key hk)
   rw[hr]
   unfold trPtr treeFor
   cases hf:ts.find? fun x=>decide (x.key=k) with
   | some x=>
     have e:x.key=k:=by simpa using List.find?_some hf
     rw[<-e,show D.atKey (kK x.key) (ptrD (-1))=ptrD (x.tb:Nat) from hD.at' x (List.mem_of_find?_eq_some hf) _] at hu
     rw[treeR_some hu]
   | none=>
     have hn:Maps.has D (kK k)=false:=hD.none (kK_key k) fun y hy e=>by
      have:=List.find?_eq_none.1 hf y hy
      exact this (by simpa using kK_inj (hts y hy) hk e)
     rw[atKey_of_not_has hn] at hu
     rw[treeR_none hu]
theorem treeFor_some {ts:List Tr} {k:KeyP} {x:Tr} (h:treeFor ts k=some x):x∈ts/\x.key=k:=⟨List.mem_of_find?_eq_some h,by simpa using List.find?_some h⟩
theorem treeFor_none {ts:List Tr} {k:KeyP} (h:treeFor ts k=none): ∀x∈ts,x.key≠k:=fun x hx e=>by
 have:=List.find?_eq_none.1 h x hx
 exact this (by simpa using e)
theorem trPtr_some {ts:List Tr} {k:KeyP} {x:Tr} (h:treeFor ts k=some x):trPtr ts k= .pointer (some ⟨x.tb,0,none⟩):=by unfold trPtr;rw[h]
theorem trPtr_none {ts:List Tr} {k:KeyP} (h:treeFor ts k=none):trPtr ts k= .pointer none:=by unfold trPtr;rw[h]
structure Rest where
 pre:List Value
 post:List Value
 ty:TypeId
structure Gh where
 am:Option Nat
 tm:Option Nat
 ts:List Tr
def Gh.foot (g:Gh) (pb k:Nat):Prop:=k=pb\/g.am=some k\/g.tm=some k\/ ∃x∈g.ts,x.foot k
def noGh:Gh:=⟨none,none,[]⟩
def pcells (R:Rest) (n go nx:Int) (am tm:Option Nat):Array Value:=(R.pre++([.int .i64 n,.int .i64 go,.int .i64 nx,.map am,.map tm]:List Value)++R.post).toArray
structure Ids (s:Pst):Prop where
 nod:(s.vs.map (·.id)).Nodup
 rng: ∀v∈s.vs,0<=v.id/\v.id<s.next
 key: ∀v∈s.vs,keyB v.key=true
 next0:0<=s.next
 len:(s.vs.length:Int)<=s.next
structure PastI (w:World) (pb po:Nat) (R:Rest) (s:Pst) (g:Gh) (I:KeyP->List It):Prop where
 len:R.pre.length=po
 cells:w.heap[pb]? =some (.cells (pcells R s.now s.gone s.next g.am g.tm) R.ty (0,0))
 ids:Ids s
 vers:versAt w s.vs g.am
 trees:treesAt w g.ts g.tm
 both:g.am=none↔g.tm=none
 keys:(g.ts.map (·.key)).Nodup
 keyOk: ∀x∈g.ts,keyB x.key=true
 tree: ∀x∈g.ts,TreeAt w x.tb (I x.key) x.t x.mb
 all: ∀v∈s.vs,∃x∈g.ts,x.key=v.key
 apart:g.ts.Pairwise fun x y=> ∀k,x.foot k-> ¬y.foot k
 ne: ∀x∈g.ts,∀k,x.foot k->k≠pb/\g.am≠some k/\g.tm≠some k
 nea: ∀m,g.am=some m->m≠pb/\g.tm≠some m
 net: ∀m,g.tm=some m->m≠pb
structure PastAt (w:World) (pb po:Nat) (R:Rest) (s:Pst) (g:Gh):Prop extends PastI w pb po R s g (itemsK s.vs) where
 tlen:(g.ts.length:Int)<=s.next
theorem pcells_at {R:Rest} {po:Nat} (hl:R.pre.length=po) (n go nx:Int) (am tm:Option Nat):(pcells R n go nx am tm)[po]? =some (.int .i64 n)/\(pcells R n go nx am tm)[po+1]? =some (.int .i64 go)/\(pcells R n go nx am tm)[po+2]? =some (.int .i64 nx)/\(pcells R n go nx am tm)[po+3]? =some (.map am)/\(pcells R n go nx am tm)[po+4]? =some (.map tm):=by
 subst hl
 unfold pcells
 refine⟨?_,?_,?_,?_,?_⟩<;>simp
theorem pcells_set0 {R:Rest} {po:Nat} (hl:R.pre.length=po) (n go nx n' :Int) (am tm:Option Nat):(pcells R n go nx am tm).setIfInBounds po (.int .i64 n')=pcells R n' go nx am tm:=by subst hl;simp[pcells]
theorem pcells_set1 {R:Rest} {po:Nat} (hl:R.pre.length=po) (n go nx n' :Int) (am tm:Option Nat):(pcells R n go nx am tm).setIfInBounds (po+1) (.int .i64 n')=pcells R n n' nx am tm:=by subst hl;simp[pcells]
theorem pcells_set2 {R:Rest} {po:Nat} (hl:R.pre.length=po) (n go nx n' :Int) (am tm:Option Nat):(pcells R n go nx am tm).setIfInBounds (po+2) (.int .i64 n')=pcells R n go n' am tm:=by subst hl;simp[pcells]
theorem pcells_set3 {R:Rest} {po:Nat} (hl:R.pre.length=po) (n go nx:Int) (am tm am' :Option Nat):(pcells R n go nx am tm).setIfInBounds (po+3) (.map am')=pcells R n go nx am' tm:=by subst hl;simp[pcells]
theorem pcells_set4 {R:Rest} {po:Nat} (hl:R.pre.length=po) (n go nx:Int) (am tm tm' :Option Nat):(pcells R n go nx am tm).setIfInBounds (po+4) (.map tm')=pcells R n go nx am tm' :=by subst hl;simp[pcells]
theorem past_cells {w:World} {pb po:Nat} {R:Rest} {n go nx:Int} {am tm:Option Nat} (hl:R.pre.length=po) (h:w.heap[pb]? =some (.cells (pcells R n go nx am tm) R.ty (0,0))):
  w.cell? ⟨pb,po,none⟩=some (.int .i64 n)/\w.cell? ⟨pb,po+1,none⟩=some (.int .i64 go)/\w.cell? ⟨pb,po+2,none⟩=some (.int .i64 nx)/\w.cell? ⟨pb,po+3,none⟩=some (.map am)/\w.cell? ⟨pb,po+4,none⟩=some (.map tm):=by
 obtain⟨a,b,c,d,e⟩:=pcells_at hl n go nx am tm
 exact⟨(block_cell h _).trans a,(block_cell h _).trans b,(block_cell h _).trans c,(block_cell h _).trans d,(block_cell h _).trans e⟩
theorem past_free {w:World} {pb:Nat} {R:Rest} {n go nx:Int} {am tm:Option Nat} (h:w.heap[pb]? =some (.cells (pcells R n go nx am tm) R.ty (0,0))) (i:Nat):w.frozen? ⟨pb,i,none⟩=false:=block_free h i
theorem PastI.lt {w:World} {pb po:Nat} {R:Rest} {s:Pst} {g:Gh} {I:KeyP->List It} (h:PastI w pb po R s g I): ∀k,g.foot pb k->k<w.heap.size:=by
 intro k hk
 rcases hk with rfl|hk|hk|⟨x,hx,hk⟩
 · exact lt_of_block h.cells
 · have:=h.vers;rw[hk] at this;obtain⟨D,h1,_⟩:=this;exact h1.lt
 · have:=h.trees;rw[hk] at this;obtain⟨D,h1,_⟩:=this;exact h1.lt
 · exact(h.tree x hx).lt k hk
theorem PastI.frame {F:Nat->Prop} {w w' :World} {pb po:Nat} {R:Rest} {s:Pst} {g:Gh} {I:KeyP->List It} (h:PastI w pb po R s g I) (hf:Fr F w w') (hn: ∀k,g.foot pb k-> ¬F k):PastI w' pb po R s g I:=
 ⟨h.len,hf.keeps h.cells (hn _ (.inl rfl)),h.ids,h.vers.frame hf (fun m e=>hn m (.inr (.inl e))),h.trees.frame hf (fun m e=>hn m (.inr (.inr (.inl e)))),h.both,h.keys,h.keyOk,
  fun x hx=>(h.tree x hx).frame hf (fun k hk=>hn k (.inr (.inr (.inr ⟨x,hx,hk⟩)))),h.all,h.apart,h.ne,h.nea,h.net⟩
theorem PastI.below {w w' :World} {pb po:Nat} {R:Rest} {s:Pst} {g:Gh} {I:KeyP->List It} (h:PastI w pb po R s g I) (hb:Below w.heap.size w w'):PastI w' pb po R s g I:=
 h.frame (F:=fun _=>False) (Fr.new hb) (fun _ _ e=>e)
theorem PastAt.lt {w:World} {pb po:Nat} {R:Rest} {s:Pst} {g:Gh} (h:PastAt w pb po R s g): ∀k,g.foot pb k->k<w.heap.size:=PastI.lt h.toPastI
theorem PastAt.frame {F:Nat->Prop} {w w' :World} {pb po:Nat} {R:Rest} {s:Pst} {g:Gh} (h:PastAt w pb po R s g) (hf:Fr F w w') (hn: ∀k,g.foot pb k-> ¬F k):PastAt w' pb po R s g:=⟨PastI.frame h.toPastI hf hn,h.tlen⟩
theorem PastAt.below {w w' :World} {pb po:Nat} {R:Rest} {s:Pst} {g:Gh} (h:PastAt w pb po R s g) (hb:Below w.heap.size w w'):PastAt w' pb po R s g:=⟨PastI.below h.toPastI hb,h.tlen⟩
theorem past_new {w:World} {pb po:Nat} {R:Rest} (hl:R.pre.length=po) (h:w.heap[pb]? =some (.cells (pcells R 0 0 0 none none) R.ty (0,0))):PastAt w pb po R ⟨0,0,0,[]⟩ noGh:=
 ⟨⟨hl,h,⟨List.nodup_nil,(fun _ hv=>by cases hv),(fun _ hv=>by cases hv),Int.le_refl _,Int.le_refl _⟩,rfl,rfl,Iff.rfl,List.nodup_nil,(fun _ hx=>by cases hx),(fun _ hx=>by cases hx),(fun _ hx=>by cases hx),.nil,(fun _ hx=>by cases hx),(fun _ e=>by cases e),(fun _ e=>by cases e)⟩,Int.le_refl _⟩
def Grows (g g' :Gh) (pb:Nat) (w:World):Prop:= ∀k,g'.foot pb k->g.foot pb k\/w.heap.size<=k
theorem Grows.refl (g:Gh) (pb:Nat) (w:World):Grows g g pb w:=fun _ h=> .inl h
theorem Grows.trans {g g' g'' :Gh} {pb:Nat} {w w' :World} (h:Grows g g' pb w) (h' :Grows g' g'' pb w') (hs:w.heap.size<=w'.heap.size):Grows g g'' pb w:=fun k hk=>by
 rcases h' k hk with e|e
 · exact h k e
 · exact .inr (Nat.le_trans hs e)
def Keeps (g g' :Gh):Prop:= ∀y∈g.ts,∃y' ∈g'.ts,y'.key=y.key/\y'.tb=y.tb
theorem Keeps.refl (g:Gh):Keeps g g:=fun y hy=>⟨y,hy,rfl,rfl⟩
theorem Keeps.trans {a b c:Gh} (h:Keeps a b) (k:Keeps b c):Keeps a c:=fun y hy=>by
 obtain⟨y1,h1,h2,h3⟩:=h y hy
 obtain⟨y2,k1,k2,k3⟩:=k y1 h1
 exact⟨y2,k1,k2.trans h2,k3.trans h3⟩
theorem Fr.past {g g' :Gh} {pb:Nat} {a b c:World} (h:Fr (g.foot pb) a b) (k:Fr (g'.foot pb) b c) (hg:Grows g g' pb a):Fr (g.foot pb) a c:=
 h.next k fun i hi hf=>by
  rcases hg i hf with e|e
  · exact e
  · omega
theorem TreeAt.perm' {w:World} {tb:Nat} {L L' :List It} {t:BT Nd} {mb:Option Nat} (h:TreeAt w tb L t mb) (hp:L.Perm L'):TreeAt w tb L' t mb:=
 ⟨h.cells,h.tin,h.sep,h.fit,h.bal,h.srt,h.ids,h.perm.trans hp,by
  have hm:=h.mp
  cases mb with
  | none=>have e:L= []:=hm;subst e;exact hp.symm.eq_nil
  | some m=>obtain⟨D,h1,h2⟩:=hm;exact⟨D,by rw[<-hp.length_eq];exact h1,h2.perm hp⟩,h.nt,h.nm⟩
theorem PastI.perm {w:World} {pb po:Nat} {R:Rest} {s:Pst} {g:Gh} {I J:KeyP->List It} (h:PastI w pb po R s g I) (hp: ∀x∈g.ts,(I x.key).Perm (J x.key)):PastI w pb po R s g J:=
 ⟨h.len,h.cells,h.ids,h.vers,h.trees,h.both,h.keys,h.keyOk,fun x hx=>(h.tree x hx).perm' (hp x hx),h.all,h.apart,h.ne,h.nea,h.net⟩
def setTr (ts:List Tr) (x' :Tr):List Tr:=ts.map fun y=>if y.key=x'.key then x' else y
def Gh.set (g:Gh) (x' :Tr):Gh:={ g with ts:=setTr g.ts x' }
def updI (I:KeyP->List It) (k:KeyP) (L:List It) (k' :KeyP):List It:=if k' =k then L else I k'
theorem MapOf.same {α:Type} {kl:α->Lit} {dt:α->DataW Unit} {D:DataW Unit} {L:List α} (h:MapOf kl dt D L) (f:α->α) (hk: ∀x∈L,kl (f x)=kl x) (hd: ∀x∈L,dt (f x)=dt x):MapOf kl dt D (L.map f):=
 ⟨h.tidy,by rw[h.size,List.length_map],fun q hq=>by
  rw[h.has q hq]
  constructor
  · rintro⟨x,hx,rfl⟩;exact⟨f x,List.mem_map.2 ⟨x,hx,rfl⟩,hk x hx⟩
  · rintro⟨y,hy,rfl⟩;obtain⟨x,hx,rfl⟩:=List.mem_map.1 hy;exact⟨x,hx,(hk x hx).symm⟩,fun y hy d=>by
  obtain⟨x,hx,rfl⟩:=List.mem_map.1 hy
  rw[hk x hx,hd x hx];exact h.at' x hx d⟩
theorem Keeps.set {g:Gh} {x x' :Tr} (hd:(g.ts.map (·.key)).Nodup) (hx:x∈g.ts) (hk:x'.key=x.key) (hb:x'.tb=x.tb):Keeps g (g.set x'):=fun y hy=>by
 refine⟨_,List.mem_map.2 ⟨y,hy,rfl⟩,?_,?_⟩
 · split
   · rename_i e;exact e.symm
   · rfl
 · split
   · rename_i e
     rw[hb,nodup_inj (·.key) g.ts hd y hy x hx (e.trans hk)]
   · rfl
theorem PastI.turn {w w' :World} {pb po:Nat} {R:Rest} {s:Pst} {g:Gh} {I:KeyP->List It} {x x' :Tr} {L:List It} (h:PastI w pb po R s g I) (hx:x∈g.ts) (hk:x'.key=x.key) (hb:x'.tb=x.tb)
  (ht:TreeAt w' x'.tb L x'.t x'.mb) (hf:Fr x.foot w w') (hg: ∀k,x'.foot k->x.foot k\/w.heap.size<=k):PastI w' pb po R s (g.set x') (updI I x.key L)/\Grows g (g.set x') pb w/\Fr (g.foot pb) w w' :=by
 have hkeys: ∀y∈g.ts,y.key=x'.key->y=x:=fun y hy e=>nodup_inj (·.key) g.ts h.keys y hy x hx (e.trans hk)
 have hfx: ∀k,x.foot k->g.foot pb k:=fun k hk=> .inr (.inr (.inr ⟨x,hx,hk⟩))
 have hpf: ∀k,k=pb\/g.am=some k\/g.tm=some k-> ¬x.foot k:=fun k hk hf=>by
  obtain⟨a,b,c⟩:=h.ne x hx k hf
  rcases hk with e|e|e
  · exact a e
  · exact b e
  · exact c e
 have hother: ∀y∈g.ts,y≠x-> ∀k,y.foot k-> ¬x.foot k:=fun y hy hne k h1 h2=>by
  have : ∀l:List Tr,l.Pairwise (fun x y=> ∀k,x.foot k-> ¬y.foot k)-> ∀a∈l,∀b∈l,a≠b-> ∀k,a.foot k-> ¬b.foot k:=fun l=>by
   induction l with
   | nil=>intro _ a ha;cases ha
   | cons c l ih=>
     intro hp a ha b hb hab k ka kb
     obtain⟨p1,p2⟩:=List.pairwise_cons.1 hp
     rcases List.mem_cons.1 ha with e1|a1
     · rcases List.mem_cons.1 hb with e2|b1
       · exact hab (e1.trans e2.symm)
       · exact p1 b b1 k (by rw[<-e1];exact ka) kb
     · rcases List.mem_cons.1 hb with e2|b1
       · exact p1 a a1 k (by rw[<-e2];exact kb) ka
       · exact ih p2 a a1 b b1 hab k ka kb
  exact this g.ts h.apart y hy x hx hne k h1 h2
 have hmem: ∀y' ∈setTr g.ts x',y' =x' \/(y' ∈g.ts/\y' ≠x/\y'.key≠x'.key):=fun y' hy' =>by
  obtain⟨y,hy,rfl⟩:=List.mem_map.1 hy'
  by_cases e:y.key=x'.key
  · rw[if_pos e];exact .inl rfl
  · rw[if_neg e];exact .inr ⟨hy,fun e' =>e (by rw[e',hk]),e⟩
 have hkm: ∀y∈g.ts,(if y.key=x'.key then x' else y).key=y.key:=fun y hy=>by
  split
  · rename_i e;exact e.symm
  · rfl
 have hgr:Grows g (g.set x') pb w:=by
  rintro k (e|e|e|⟨y',hy',e⟩)
  · exact .inl (.inl e)
  · exact .inl (.inr (.inl e))
  · exact .inl (.inr (.inr (.inl e)))
  · rcases hmem y' hy' with rfl|⟨hy,_,_⟩
    · rcases hg k e with e|e
      · exact .inl (hfx k e)
      · exact .inr e
    · exact .inl (.inr (.inr (.inr ⟨y',hy,e⟩)))
 have hlt:=h.lt
 refine⟨⟨h.len,hf.keeps h.cells (hpf _ (.inl rfl)),h.ids,h.vers.frame hf (fun m e=>hpf m (.inr (.inl e))),?_,h.both,?_,?_,?_,?_,?_,?_,h.nea,h.net⟩,hgr,hf.mono (fun k _ hk=>hfx k hk)⟩
 · have h1:=h.trees.frame hf (fun m e=>hpf m (.inr (.inr e)))
   show treesAt w' (setTr g.ts x') g.tm
   cases ht' :g.tm with
   | none=>
     rw[ht'] at h1
     have e:g.ts= []:=h1
     rw[e] at hx;cases hx
   | some m=>
     rw[ht'] at h1
     obtain⟨D,h2,h3⟩:=h1
     refine⟨D,by unfold setTr;rw[List.length_map];exact h2,h3.same _ (fun y hy=> ?_) (fun y hy=> ?_)⟩
     · show kK _=kK _
       rw[hkm y hy]
     · show ptrD _=ptrD _
       split
       · rename_i e;rw[hkeys y hy e,hb]
       · rfl
 · have e:(setTr g.ts x').map (·.key)=g.ts.map (·.key):=by
    unfold setTr
    rw[List.map_map]
    exact List.map_congr_left hkm
   show((setTr g.ts x').map (·.key)).Nodup
   rw[e];exact h.keys
 · intro y' hy'
   rcases hmem y' hy' with rfl|⟨hy,_,_⟩
   · rw[hk];exact h.keyOk x hx
   · exact h.keyOk y' hy
 · intro y' hy'
   rcases hmem y' hy' with rfl|⟨hy,hne,hke⟩
   · unfold updI;rw[if_pos hk];exact ht
   · unfold updI
     rw[if_neg (by rw[<-hk];exact hke)]
     exact(h.tree y' hy).frame hf (fun k h1=>hother y' hy hne k h1)
 · intro v hv
   obtain⟨y,hy,e⟩:=h.all v hv
   exact⟨_,List.mem_map.2 ⟨y,hy,rfl⟩,by rw[hkm y hy];exact e⟩
 · show(setTr g.ts x').Pairwise _
   unfold setTr
   rw[List.pairwise_map]
   have hn:g.ts.Pairwise fun a b=>a.key≠b.key:=List.pairwise_map.1 h.keys
   refine List.Pairwise.imp_of_mem ?_ (h.apart.and hn)
   intro a b ha hb hab k
   by_cases ea:a.key=x'.key
   · have eb:b.key≠x'.key:=fun e=>hab.2 (ea.trans e.symm)
     rw[if_pos ea,if_neg eb]
     intro h1 h2
     rcases hg k h1 with h1|h1
     · exact hab.1 k (by rw[hkeys a ha ea];exact h1) h2
     · have:=hlt k (.inr (.inr (.inr ⟨b,hb,h2⟩)));omega
   · rw [if_neg ea]
     by_cases eb:b.key=x'.key
     · rw [if_pos eb]
       intro h1 h2
       rcases hg k h2 with h2|h2
       · exact hab.1 k h1 (by rw[hkeys b hb eb];exact h2)
       · have:=hlt k (.inr (.inr (.inr ⟨a,ha,h1⟩)));omega
     · rw[if_neg eb];exact hab.1 k
 · intro y' hy' k hk'
   rcases hmem y' hy' with rfl|⟨hy,_,_⟩
   · rcases hg k hk' with e|e
     · exact h.ne x hx k e
     · refine⟨fun e' => ?_,fun e' => ?_,fun e' => ?_⟩
       · have:=hlt k (.inl e');omega
       · have:=hlt k (.inr (.inl e'));omega
       · have:=hlt k (.inr (.inr (.inl e')));omega
   · exact h.ne y' hy k hk'
theorem PastI.store {w w' :World} {pb po:Nat} {R:Rest} {s s' :Pst} {g:Gh} {I:KeyP->List It} {m:Nat} (h:PastI w pb po R s g I) (hm:g.am=some m) (hf:Fr (· =m) w w') (hv:versAt w' s'.vs (some m)) (hi:Ids s')
  (e1:s'.now=s.now) (e2:s'.gone=s.gone) (e3:s'.next=s.next) (hall: ∀v∈s'.vs,∃x∈g.ts,x.key=v.key):PastI w' pb po R s' g I/\Fr (g.foot pb) w w' :=by
 obtain⟨a1,a2⟩:=h.nea m hm
 refine⟨⟨h.len,?_,hi,by rw[hm];exact hv,h.trees.frame hf (fun k e e' =>a2 (by rw[<-e'];exact e)),h.both,h.keys,h.keyOk,fun x hx=>(h.tree x hx).frame hf (fun k hk e=>(h.ne x hx k hk).2.1 (by rw[e];exact hm)),hall,h.apart,h.ne,h.nea,h.net⟩,hf.mono (fun k _ e=> .inr (.inl (by rw[e];exact hm)))⟩
 rw[e1,e2,e3]
 exact hf.keeps h.cells (fun e=>a1 e.symm)
theorem PastI.place {w:World} {pb po:Nat} {R:Rest} {s s' :Pst} {g:Gh} {I:KeyP->List It} {i:Nat} {v:Value} (h:PastI w pb po R s g I) (hc:(pcells R s.now s.gone s.next g.am g.tm).setIfInBounds i v=pcells R s'.now s'.gone s'.next g.am g.tm)
  (hi:Ids s') (hv:s'.vs=s.vs):PastI (w.setCell ⟨pb,i,none⟩ v) pb po R s' g I/\Fr (g.foot pb) w (w.setCell ⟨pb,i,none⟩ v):=by
 have hf:Fr (· =pb) w (w.setCell ⟨pb,i,none⟩ v):=Fr.setCell (F:=(· =pb)) (Fr.refl _ w) (p:=⟨pb,i,none⟩) (fun _=>rfl) _
 refine⟨⟨h.len,?_,hi,by rw[hv];exact h.vers.frame hf (fun m e=>(h.nea m e).1),h.trees.frame hf (fun m e=>h.net m e),h.both,h.keys,h.keyOk,fun x hx=>(h.tree x hx).frame hf (fun k hk=>(h.ne x hx k hk).1),by rw[hv];exact h.all,h.apart,h.ne,h.nea,h.net⟩,hf.mono (fun k _ e=> .inl e)⟩
 rw[<-hc]
 exact block_set h.cells i v
theorem PastI.newTree {w w' :World} {pb po:Nat} {R:Rest} {s:Pst} {g:Gh} {I:KeyP->List It} {m tb:Nat} {k:KeyP} (h:PastI w pb po R s g I) (hm:g.tm=some m) (hf:Fr (· =m) w w') (hk:keyB k=true) (hn: ∀x∈g.ts,x.key≠k) (hI:I k= [])
  (hb:w.heap[tb]? =some (.cells #[.pointer none,.map none] 285 (0,0))) (hfree: ¬g.foot pb tb) (ht:treesAt w' (⟨k,tb,.nil,none⟩::g.ts) (some m)):
  PastI w' pb po R s { g with ts:=⟨k,tb,.nil,none⟩::g.ts } I/\Fr (g.foot pb) w w' :=by
 have hft: ∀j,(⟨k,tb,.nil,none⟩:Tr).foot j->j=tb:=fun j hj=>by
  rcases hj with e|e|e
  · exact e
  · cases e
  · cases e
 have hmt:tb≠m:=fun e=>hfree (.inr (.inr (.inl (by rw[e];exact hm))))
 refine⟨⟨h.len,hf.keeps h.cells (fun e=>h.net m hm e.symm),h.ids,h.vers.frame hf (fun j e e' =>(h.nea j e).2 (by rw[e'];exact hm)),by rw[hm];exact ht,h.both,?_,?_,?_,?_,?_,?_,h.nea,h.net⟩,hf.mono (fun j _ e=> .inr (.inr (.inl (by rw[e];exact hm))))⟩
 · refine List.nodup_cons.2 ⟨fun hc=> ?_,h.keys⟩
   obtain⟨x,hx,e⟩:=List.mem_map.1 hc
   exact hn x hx e
 · intro x hx
   rcases List.mem_cons.1 hx with rfl|hx
   · exact hk
   · exact h.keyOk x hx
 · intro x hx
   rcases List.mem_cons.1 hx with rfl|hx
   · show TreeAt w' tb (I k) .nil none
     rw[hI]
     exact tree_new (hf.keeps hb hmt)
   · exact(h.tree x hx).frame hf (fun j hj e=>(h.ne x hx j hj).2.2 (by rw[e];exact hm))
 · intro v hv
   obtain⟨x,hx,e⟩:=h.all v hv
   exact⟨x,List.mem_cons_of_mem _ hx,e⟩
 · refine List.pairwise_cons.2 ⟨fun x hx j h1 h2=> ?_,h.apart⟩
   exact hfree (.inr (.inr (.inr ⟨x,hx,by rw[<-hft j h1];exact h2⟩)))
 · intro x hx j hj
   rcases List.mem_cons.1 hx with rfl|hx
   · have e:=hft j hj
     subst e
     exact⟨fun e' =>hfree (.inl e'),fun e' =>hfree (.inr (.inl e')),fun e' =>hfree (.inr (.inr (.inl e')))⟩
   · exact h.ne x hx j hj
theorem pnow_any (pb po:Nat) (R:Rest) (s:Pst) (g:Gh) (w:World) (h:PastAt w pb po R s g):
  Calls Tryz.prog 125 #[.pointer (some ⟨pb,po,none⟩)] w fun e w' =>e= .returned (.int .i64 s.now)/\w=w' :=by
 obtain⟨c0,_,_,_,_⟩:=past_cells h.len h.cells
 clear h
 go_enter Tryz.func125,Tryz.ntmps125
 go_wp2
 go_ret
 exact⟨rfl,rfl⟩
theorem pknown_any (pb po:Nat) (R:Rest) (s:Pst) (g:Gh) (w:World) (h:PastAt w pb po R s g):
  Calls Tryz.prog 136 #[.pointer (some ⟨pb,po,none⟩)] w fun e w' =>e= .returned (.int .i64 s.gone)/\w=w' :=by
 obtain⟨_,c1,_,_,_⟩:=past_cells h.len h.cells
 clear h
 go_enter Tryz.func136,Tryz.ntmps136
 go_wp2
 go_ret
 exact⟨rfl,rfl⟩
def Begun (pb po:Nat) (R:Rest) (s:Pst) (g:Gh) (w:World) (e:Ending) (w' :World):Prop:=
 ∃g',e= .returned (.tuple #[])/\PastAt w' pb po R s g' /\g'.am.isSome=true/\g'.tm.isSome=true/\Fr (g.foot pb) w w' /\Grows g g' pb w/\Keeps g g'
set_option maxRecDepth 100000 in
theorem pbegin_some (pb po:Nat) (R:Rest) (s:Pst) (g:Gh) (m:Nat) (w:World) (h:PastAt w pb po R s g) (hm:g.am=some m):
  Calls Tryz.prog 163 #[.pointer (some ⟨pb,po,none⟩)] w (Begun pb po R s g w):=by
 obtain⟨_,_,_,c3,_⟩:=past_cells h.len h.cells
 rw[hm] at c3
 have hend:Begun pb po R s g w (.returned (.tuple #[])) w:=⟨g,rfl,h,by rw[hm];rfl,by
  cases ht:g.tm with
  | none=>rw[h.both.2 ht] at hm;cases hm
  | some _=>rfl,Fr.refl _ _,Grows.refl _ _ _,Keeps.refl _⟩
 have HE:=Lib.hid hend
 have hqm:=fun(w:World)=>run_eql_map_nil (P:=Tryz.prog) w 123 3 221 (some m) Tryz.underlying123
 clear h hm hend
 go_enter Tryz.func163,Tryz.ntmps163
 go_wp2
 refine bodyPost_end (results_none rfl _ _ _) rfl ?_
 exact HE.out
theorem begun_none {pb po:Nat} {R:Rest} {s:Pst} {g:Gh} {w:World} (h:PastAt w pb po R s g) (hm:g.am=none) (ht:g.tm=none):
  Begun pb po R s g w (.returned (.tuple #[])) ((((w.setCell ⟨pb,po+3,none⟩ (.map (some w.heap.size))).setCell ⟨pb,po+4,none⟩ (.map (some (w.heap.size+1)))).alloc (.map #[] 0)).alloc (.map #[] 0)):=by
 have hlt:=lt_of_block h.cells
 have hvs:s.vs= []:=by have:=h.vers;rw[hm] at this;exact this
 have hts:g.ts= []:=by have:=h.trees;rw[ht] at this;exact this
 obtain⟨W2,hW2⟩: ∃W2,W2=(w.setCell ⟨pb,po+3,none⟩ (.map (some w.heap.size))).setCell ⟨pb,po+4,none⟩ (.map (some (w.heap.size+1))):=⟨_,rfl⟩
 rw[<-hW2]
 have hs2:W2.heap.size=w.heap.size:=by rw[hW2];simp
 have hc2:W2.heap[pb]? =some (.cells (pcells R s.now s.gone s.next (some w.heap.size) (some (w.heap.size+1))) R.ty (0,0)):=by
  have c:=h.cells
  rw[hm,ht] at c
  have c1:=block_set c (po+3) (.map (some w.heap.size))
  rw[pcells_set3 h.len] at c1
  have c2:=block_set c1 (po+4) (.map (some (w.heap.size+1)))
  rw[pcells_set4 h.len] at c2
  rw[hW2];exact c2
 have hf2:Fr (· =pb) w W2:=by
  rw[hW2]
  exact Fr.setCell (F:=(· =pb)) (Fr.setCell (F:=(· =pb)) (Fr.refl _ w) (p:=⟨pb,po+3,none⟩) (fun _=>rfl) _) (p:=⟨pb,po+4,none⟩) (fun _=>rfl) _
 have hv:versAt ((W2.alloc (.map #[] 0)).alloc (.map #[] 0)) s.vs (some w.heap.size):=by
  rw[hvs]
  refine⟨.map [],?_,mapOf_nil⟩
  have:=(World.ownsMap_made W2 Tryz.prog 3 verR).alloc (.map #[] 0)
  rw[hs2] at this
  exact this
 have htm:treesAt ((W2.alloc (.map #[] 0)).alloc (.map #[] 0)) g.ts (some (w.heap.size+1)):=by
  rw[hts]
  refine⟨.map [],?_,mapOf_nil⟩
  have:=World.ownsMap_made (W2.alloc (.map #[] 0)) Tryz.prog 97 treeR
  have e:(W2.alloc (.map #[] 0)).heap.size=w.heap.size+1:=by simp[hs2]
  rw[e] at this
  exact this
 refine⟨⟨some w.heap.size,some (w.heap.size+1),g.ts⟩,rfl,⟨⟨h.len,block_alloc (block_alloc hc2 _) _,h.ids,hv,htm,by simp,h.keys,h.keyOk,?_,h.all,h.apart,?_,?_,?_⟩,h.tlen⟩,rfl,rfl,((hf2.alloc _).alloc _).mono (fun k _ e=> .inl e),?_,fun y hy=>⟨y,hy,rfl,rfl⟩⟩
 · intro x hx;rw[hts] at hx;cases hx
 · intro x hx;rw[hts] at hx;cases hx
 · intro m e
   cases e
   exact⟨by omega,by simp⟩
 · intro m e
   cases e
   omega
 · rintro k (e|e|e|⟨x,hx,_⟩)
   · exact .inl (.inl e)
   · cases e;exact .inr (Nat.le_refl _)
   · cases e;exact .inr (by omega)
   · change x∈g.ts at hx
     rw[hts] at hx;cases hx
set_option maxRecDepth 100000 in
theorem pbegin_none (pb po:Nat) (R:Rest) (s:Pst) (g:Gh) (w:World) (h:PastAt w pb po R s g) (hm:g.am=none):
  Calls Tryz.prog 163 #[.pointer (some ⟨pb,po,none⟩)] w (Begun pb po R s g w):=by
 have ht:=h.both.1 hm
 obtain⟨_,_,_,c3,c4⟩:=past_cells h.len h.cells
 have f3:=past_free h.cells (po+3)
 have f4:=past_free h.cells (po+4)
 rw[hm] at c3
 rw[ht] at c4
 have hlt:=lt_of_block h.cells
 have HE:=Lib.hid (begun_none h hm ht)
 have hqm:=fun(w:World)=>run_eql_map_nil (P:=Tryz.prog) w 123 3 221 none Tryz.underlying123
 have hmm:= @run_makeMap Tryz.prog
 clear h hm ht
 go_enter Tryz.func163,Tryz.ntmps163
 go_wp2
 refine bodyPost_end (results_none rfl _ _ _) rfl ?_
 exact HE.out
theorem pbegin_any (pb po:Nat) (R:Rest) (s:Pst) (g:Gh) (w:World) (h:PastAt w pb po R s g):
  Calls Tryz.prog 163 #[.pointer (some ⟨pb,po,none⟩)] w (Begun pb po R s g w):=by
 cases hm:g.am with
 | none=>exact pbegin_none pb po R s g w h hm
 | some m=>exact pbegin_some pb po R s g m w h hm
def askE (s:Pst) (a:Int):Int:=if a<0\/s.now<a then 2 else if a<s.gone then 7 else 0
def errN (n:Int):Value:=if n=0 then .nilIface else errV n
theorem errN_0:errN 0= .nilIface:=rfl
theorem errN_ne {n:Int} (h:n≠0):errN n=errV n:=by unfold errN;rw[if_neg h]
set_option maxRecDepth 100000 in
theorem pright_any (pb po:Nat) (R:Rest) (s:Pst) (g:Gh) (a:Int) (w:World) (h:PastAt w pb po R s g):
  Calls Tryz.prog 168 #[.pointer (some ⟨pb,po,none⟩),.int .i64 a] w fun e w' =>e= .returned (errN (askE s a))/\w=w' :=by
 obtain⟨c0,c1,_,_,_⟩:=past_cells h.len h.cells
 clear h
 by_cases h0:a<0
 · have e:errN (askE s a)= .iface 56 (.int .i64 2):=by unfold askE;rw[if_pos (.inl h0)];rfl
   have HE:=Lib.hid e
   clear e
   go_enter Tryz.func168,Tryz.ntmps168
   go_wp2
   go_ret
   exact⟨by rw[HE.out];rfl,rfl⟩
 · by_cases h1:s.now<a
   · have e:errN (askE s a)= .iface 56 (.int .i64 2):=by unfold askE;rw[if_pos (.inr h1)];rfl
     have HE:=Lib.hid e
     have h0' :decide (a<0)=false:=by simpa using h0
     clear e
     go_enter Tryz.func168,Tryz.ntmps168
     go_wp2
     go_ret
     exact⟨by rw[HE.out];rfl,rfl⟩
   · have h0' :decide (a<0)=false:=by simpa using h0
     have h1' :decide (s.now<a)=false:=by simpa using h1
     by_cases h2:a<s.gone
     · have e:errN (askE s a)= .iface 56 (.int .i64 7):=by unfold askE;rw[if_neg (by omega),if_pos h2];rfl
       have HE:=Lib.hid e
       clear e
       go_enter Tryz.func168,Tryz.ntmps168
       go_wp2
       go_ret
       exact⟨by rw[HE.out];rfl,rfl⟩
     · have e:errN (askE s a)= .nilIface:=by unfold askE;rw[if_neg (by omega),if_neg h2];rfl
       have HE:=Lib.hid e
       clear e
       go_enter Tryz.func168,Tryz.ntmps168
       go_wp2
       go_ret
       exact⟨by rw[HE.out];rfl,rfl⟩
set_option maxRecDepth 100000 in
theorem vseen_any (v:Ver) (a:Int) (w:World):Calls Tryz.prog 173 #[verV v,.int .i64 a] w fun e w' =>e= .returned (.bool (seenB v a))/\Below w.heap.size w w' :=by
 unfold verV
 by_cases h0:v.bg<=a
 · by_cases h1:v.en=0
   · have HE:=Lib.hid (show seenB v a=true by unfold seenB;simp[h0,h1])
     have h1' :(v.en==0)=true:=by simpa using h1
     clear h1
     go_enter Tryz.func173,Tryz.ntmps173
     go_wp2
     go_ret
     exact⟨by rw[HE.out];rfl,(Below.refl _ _).alloc (Nat.le_refl _) _⟩
   · have h1' :(v.en==0)=false:=by simpa using h1
     have HE:=Lib.hid (show seenB v a=decide (a<v.en) by unfold seenB;simp[h0,h1])
     clear h1
     go_enter Tryz.func173,Tryz.ntmps173
     go_wp2
     go_ret
     exact⟨by rw[HE.out];rfl,(Below.refl _ _).alloc (Nat.le_refl _) _⟩
 · have HE:=Lib.hid (show seenB v a=false by unfold seenB;simp[h0])
   have h0' :decide (v.bg<=a)=false:=by simpa using h0
   go_enter Tryz.func173,Tryz.ntmps173
   go_wp2
   go_ret
   exact⟨by rw[HE.out];rfl,(Below.refl _ _).alloc (Nat.le_refl _) _⟩
theorem cells4 {w:World} {b:Nat} {x0 x1 x2 x3:Value} {t:TypeId} {fz:Nat×Nat} (h:w.heap[b]? =some (.cells #[x0,x1,x2,x3] t fz)):w.cell? ⟨b,0,none⟩=some x0/\w.cell? ⟨b,1,none⟩=some x1/\w.cell? ⟨b,2,none⟩=some x2/\w.cell? ⟨b,3,none⟩=some x3:=
 ⟨block_cell h 0,block_cell h 1,block_cell h 2,block_cell h 3⟩
theorem cells2 {w:World} {b:Nat} {x0 x1:Value} {t:TypeId} {fz:Nat×Nat} (h:w.heap[b]? =some (.cells #[x0,x1] t fz)):w.cell? ⟨b,0,none⟩=some x0/\w.cell? ⟨b,1,none⟩=some x1:=⟨block_cell h 0,block_cell h 1⟩
theorem below_drewN' {B:Nat} {a w:World} (h:Below B a w) (n:Nat):Below B a (w.drewN n):=⟨h.os,h.tape,h.output,h.size,h.block⟩
structure KBox (w:World) (b:Nat) (k:KeyP) (f t:Int):Prop where
 key:w.heap[b]? =some (.cells #[.int .i64 k.kind,.int .i64 k.a,.string k.word,.int .i64 k.b] 97 (0,0))
 span:w.heap[b+1]? =some (.cells #[.int .i64 f,.int .i64 t] 107 (0,0))
theorem KBox.new (w:World) (k:KeyP) (f t:Int):KBox ((w.alloc (.cells #[.int .i64 k.kind,.int .i64 k.a,.string k.word,.int .i64 k.b] 97)).alloc (.cells #[.int .i64 f,.int .i64 t] 107)) w.heap.size k f t:=
 ⟨block_alloc (block_alloc_new w _) _,by
  have:=block_alloc_new (w.alloc (.cells #[.int .i64 k.kind,.int .i64 k.a,.string k.word,.int .i64 k.b] 97)) (.cells #[.int .i64 f,.int .i64 t] 107)
  rw[show(w.alloc (.cells #[.int .i64 k.kind,.int .i64 k.a,.string k.word,.int .i64 k.b] 97)).heap.size=w.heap.size+1 by simp] at this
  exact this⟩
theorem KBox.frame {F:Nat->Prop} {w w' :World} {b:Nat} {k:KeyP} {f t:Int} (h:KBox w b k f t) (hf:Fr F w w') (h1: ¬F b) (h2: ¬F (b+1)):KBox w' b k f t:=⟨hf.keeps h.key h1,hf.keeps h.span h2⟩
theorem KBox.cells {w:World} {b:Nat} {k:KeyP} {f t:Int} (h:KBox w b k f t):w.cell? ⟨b,0,none⟩=some (.int .i64 k.kind)/\w.cell? ⟨b,1,none⟩=some (.int .i64 k.a)/\w.cell? ⟨b,2,none⟩=some (.string k.word)/\w.cell? ⟨b,3,none⟩=some (.int .i64 k.b)/\w.cell? ⟨b+1,0,none⟩=some (.int .i64 f)/\w.cell? ⟨b+1,1,none⟩=some (.int .i64 t):=by
 obtain⟨a,b,c,d⟩:=cells4 h.key
 obtain⟨e,g⟩:=cells2 h.span
 exact⟨a,b,c,d,e,g⟩
theorem itemsK_add (s:Pst) (k:KeyP) (f t:Int) (x:ByteArray) (k' :KeyP):itemsK (addV s k f t x).vs k' =updI (itemsK s.vs) k ((f,s.next,t)::itemsK s.vs k) k' :=by
 unfold updI itemsK addV
 by_cases e:k' =k
 · subst e;simp[Ver.item]
 · rw [if_neg e]
   rw[List.filter_cons_of_neg (by simpa using fun e' =>e e'.symm)]
theorem Ids.add {s:Pst} (h:Ids s) {k:KeyP} (hk:keyB k=true) (f t:Int) (x:ByteArray):Ids (addV s k f t x):=by
 refine⟨?_,fun v hv=> ?_,fun v hv=> ?_,?_,?_⟩
 · simp only[addV,List.map_cons,List.nodup_cons]
   refine⟨fun hm=> ?_,h.nod⟩
   obtain⟨v,hv,e⟩:=List.mem_map.1 hm
   have:=(h.rng v hv).2
   omega
 · rcases List.mem_cons.1 hv with rfl|hv
   · exact⟨h.next0,by simp only[addV];omega⟩
   · have:=h.rng v hv;exact⟨this.1,by simp only[addV];omega⟩
 · rcases List.mem_cons.1 hv with rfl|hv
   · exact hk
   · exact h.key v hv
 · simp only[addV];have:=h.next0;omega
 · simp only[addV,List.length_cons];have:=h.len;omega
theorem items_any {s:Pst} (h:Ids s) (k:KeyP):(itemsK s.vs k).any (fun y=>y.2.1==s.next)=false:=by
 cases e:(itemsK s.vs k).any (fun y=>y.2.1==s.next) with
 | false=>rfl
 | true=>
   obtain⟨y,hy,e1⟩:=List.any_eq_true.1 e
   obtain⟨v,hv,_,rfl⟩:=mem_itemsK.1 hy
   have:=(h.rng v hv).2
   simp[Ver.item] at e1
   omega
theorem items_len {s:Pst} (h:Ids s) (k:KeyP):((itemsK s.vs k).length:Int)<=s.next:=by
 have h1:=List.length_filter_le (fun v:Ver=>decide (v.key=k)) s.vs
 have h2:=h.len
 unfold itemsK
 rw[List.length_map];omega
theorem setTr_mem {ts:List Tr} {x x' :Tr} (hx:x∈ts) (hk:x'.key=x.key):x' ∈setTr ts x' :=List.mem_map.2 ⟨x,hx,by rw[if_pos hk.symm]⟩
theorem padded {w w3 w4 w5:World} {pb po:Nat} {R:Rest} {s:Pst} {g g3:Gh} {k:KeyP} {f t:Int} {x:ByteArray} {am:Nat} {y:Tr} {t' :BT Nd} {mb' :Option Nat} {D5:DataW Unit}
  (h3:PastI w3 pb po R s g3 (itemsK s.vs)) (htl:(g3.ts.length:Int)<=s.next+1) (hg3:Grows g g3 pb w) (hkp:Keeps g g3) (hf3:Fr (g.foot pb) w w3) (hs3:w.heap.size<=w3.heap.size) (ha:g3.am=some am) (ht:g3.tm.isSome=true) (hk:keyB k=true) (hy:y∈g3.ts) (hyk:y.key=k)
  (hT:TreeAt w4 y.tb ((f,s.next,t)::itemsK s.vs k) t' mb') (hF:Fr y.foot w3 w4) (hG: ∀j,Go.Proofs.YtpgkjnebklknjaaGreatDoor.foot y.tb t' mb' j->y.foot j\/w3.heap.size<=j)
  (o2:MapOf vK verD D5 s.vs) (hown:w5.ownsMap Tryz.prog 3 verR am (s.vs.length+1) (D5.put (kI s.next) (verD ⟨s.next,k,f,t,x,s.now,0⟩))) (F5:Fr (· =am) w4 w5):
  Begun pb po R (addV s k f t x) g w (.returned (.tuple #[])) (w5.setCell ⟨pb,po+2,none⟩ (.int .i64 (s.next+1))):=by
 obtain⟨h4,G4,F4⟩:=PastI.turn (x' :=⟨k,y.tb,t',mb'⟩) h3 hy hyk.symm rfl hT hF hG
 have hids:=h3.ids.add hk f t x
 have hnew: ∀v∈s.vs,vK v≠vK ⟨s.next,k,f,t,x,s.now,0⟩:=fun v hv=>kI_ne (by have:=(h3.ids.rng v hv).2;simp only;omega)
 have hv5:versAt w5 (addV s k f t x).vs (some am):=⟨_,hown,o2.put ⟨s.next,k,f,t,x,s.now,0⟩ kI_key hnew⟩
 obtain⟨a1,a2⟩:=h4.nea am ha
 have hall: ∀v∈(addV s k f t x).vs,∃z∈(g3.set ⟨k,y.tb,t',mb'⟩).ts,z.key=v.key:=fun v hv=>by
  rcases List.mem_cons.1 hv with rfl|hv
  · exact⟨_,setTr_mem hy hyk.symm,rfl⟩
  · exact h4.all v hv
 have F6:Fr (· =pb) w5 (w5.setCell ⟨pb,po+2,none⟩ (.int .i64 (s.next+1))):=Fr.setCell (F:=(· =pb)) (Fr.refl _ w5) (p:=⟨pb,po+2,none⟩) (fun _=>rfl) _
 have hc5:w5.heap[pb]? =some (.cells (pcells R s.now s.gone s.next (g3.set ⟨k,y.tb,t',mb'⟩).am (g3.set ⟨k,y.tb,t',mb'⟩).tm) R.ty (0,0)):=F5.keeps h4.cells (fun e=>a1 e.symm)
 have hc6:=block_set hc5 (po+2) (.int .i64 (s.next+1))
 rw[pcells_set2 h3.len] at hc6
 have h6:PastI (w5.setCell ⟨pb,po+2,none⟩ (.int .i64 (s.next+1))) pb po R (addV s k f t x) (g3.set ⟨k,y.tb,t',mb'⟩) (updI (itemsK s.vs) y.key ((f,s.next,t)::itemsK s.vs k)):=by
  refine⟨h4.len,hc6,hids,?_,?_,h4.both,h4.keys,h4.keyOk,fun z hz=> ?_,hall,h4.apart,h4.ne,h4.nea,h4.net⟩
  · rw [show(g3.set ⟨k,y.tb,t',mb'⟩).am=some am from ha]
    exact hv5.frame F6 (fun m e=>by cases e;exact a1)
  · exact(h4.trees.frame F5 (fun m e e' =>a2 (by rw[<-e'];exact e))).frame F6 (fun m e=>h4.net m e)
  · exact((h4.tree z hz).frame F5 (fun j hj e=>(h4.ne z hz j hj).2.1 (by rw[e];exact ha))).frame F6 (fun j hj=>(h4.ne z hz j hj).1)
 have hF:Fr ((g3.set ⟨k,y.tb,t',mb'⟩).foot pb) w4 (w5.setCell ⟨pb,po+2,none⟩ (.int .i64 (s.next+1))):=
  (F5.mono (fun j _ e=> .inr (.inl (by rw[e];exact ha)))).trans (F6.mono (fun j _ e=> .inl e))
 refine⟨g3.set ⟨k,y.tb,t',mb'⟩,rfl,⟨h6.perm (fun z _=>by rw[hyk,itemsK_add]),by show((setTr g3.ts _).length:Int)<=s.next+1;unfold setTr;rw[List.length_map];exact htl⟩,by rw[show(g3.set ⟨k,y.tb,t',mb'⟩).am=some am from ha];rfl,ht,?_,hg3.trans G4 hs3,hkp.trans (Keeps.set h3.keys hy hyk.symm rfl)⟩
 exact hf3.past (F4.past hF G4) hg3
set_option maxRecDepth 100000 in
set_option maxHeartbeats 4000000 in
theorem padd_old (k:KeyP) (f t:Int) (x:ByteArray) (pb po:Nat) (R:Rest) (s:Pst) (g:Gh) (am tm:Nat) (y:Tr) (w:World) (h:PastAt w pb po R s g) (ha:g.am=some am) (ht:g.tm=some tm) (hk:keyB k=true) (hr:rightB f t=true) (hn:s.next<4000) (hy:treeFor g.ts k=some y):
  Calls Tryz.prog 229 #[.pointer (some ⟨pb,po,none⟩),.agg #[.int .i64 k.kind,.int .i64 k.a,.string k.word,.int .i64 k.b],.agg #[.int .i64 f,.int .i64 t],.string x,.int .i64 s.now] w (Begun pb po R (addV s k f t x) g w):=by
 obtain⟨W1,hW1⟩: ∃W1,W1=(w.alloc (.cells #[.int .i64 k.kind,.int .i64 k.a,.string k.word,.int .i64 k.b] 97)).alloc (.cells #[.int .i64 f,.int .i64 t] 107):=⟨_,rfl⟩
 have hB1:Below w.heap.size w W1:=by rw[hW1];exact((Below.refl _ w).alloc (Nat.le_refl _) _).alloc (by simp) _
 have hs1:W1.heap.size=w.heap.size+2:=by rw[hW1];simp
 have hK1:KBox W1 w.heap.size k f t:=by rw[hW1];exact KBox.new w k f t
 have P1:=h.below hB1
 have hlk: ∀n,(Instr.lookup 124 (.map (some tm)) (.agg #[.int .i64 k.kind,.int .i64 k.a,.string k.word,.int .i64 k.b]) false).run Tryz.prog (W1.drewN n)= .ok (.pointer (some ⟨y.tb,0,none⟩)) (W1.drewN n):=fun n=>by
  have hT:=P1.trees.frame (Fr.drewN (Fr.refl (fun _=>False) W1) n) (fun _ _ e=>e)
  have:=tree_look hT P1.keyOk hk
  rw[ht,trPtr_some hy] at this
  exact this
 obtain⟨_,_,c2,_,c4⟩:=past_cells P1.len P1.cells
 rw[ht] at c4
 obtain⟨k0,k1,k2,k3,k4,k5⟩:=hK1.cells
 have HW1:=Lib.hid hW1
 have HB1:=Lib.hid hB1
 have HK1:=Lib.hid hK1
 have HS1:=Lib.hid hs1
 have HP:=Lib.hid h
 have HP1:=Lib.hid P1
 have HA:=Lib.hid ha
 have HT:=Lib.hid ht
 have HY:=Lib.hid hy
 have HK:=Lib.hid hk
 have HR:=Lib.hid hr
 clear hW1 hB1 hK1 hs1 h P1 ha ht hy hk hr
 go_enter Tryz.func229,Tryz.ntmps229
 go_wp2_with fail
 rw[<-HW1.out]
 go_quiet (fail)
 revert nq;intro n1
 go_wp2_with fail
 obtain⟨W2,hW2⟩: ∃W2,W2=W1.drewN n1:=⟨_,rfl⟩
 rw[<-hW2]
 have hB2:Below W1.heap.size W1 W2:=by rw[hW2];exact below_drewN' (Below.refl _ _) _
 have hs2:W2.heap.size=w.heap.size+2:=by rw[hW2];exact HS1.out
 have hK2:=HK1.out.frame (Fr.new (F:=fun _=>False) hB2) (fun e=>e) (fun e=>e)
 have P2:=HP1.out.below hB2
 have HK2:=Lib.hid hK2
 have HP2:=Lib.hid P2
 have HS2:=Lib.hid hs2
 have HB2:=Lib.hid (HB1.out.trans (hB2.mono (by rw[HS1.out];omega)))
 clear c2 c4 k0 k1 k2 k3 k4 k5 hlk
 obtain⟨_,_,c2,c3,_⟩:=past_cells P2.len P2.cells
 rw[HA.out] at c3
 obtain⟨k0,k1,k2,k3,k4,k5⟩:=hK2.cells
 clear hW2 hB2 hs2 hK2 P2
 refine wp_region_tail 6 (by kernel_rfl) (by kernel_rfl) ?_
 simp only[List.take_succ_cons,List.take_zero,List.drop_succ_cons,List.drop_zero]
 repeat still_step
 refine wpStill_nil ?_
 go_wp2_with fail
 have hym:=(treeFor_some HY.out).1
 have hyk:=(treeFor_some HY.out).2
 have HYK:=Lib.hid hyk
 have HYM:=Lib.hid hym
 have T2:TreeAt W2.drew y.tb (itemsK s.vs k) y.t y.mb:=by
  have:=(HP2.out.below ((Below.refl _ W2).drew)).tree y hym
  rw[hyk] at this;exact this
 have HT2:=Lib.hid T2
 clear hyk hym T2
 refine(tadd_ok s.next f t W2.drew y.tb (itemsK s.vs k) y.t y.mb HT2.out HP.out.ids.next0 (by omega) HR.out (items_any HP.out.ids k) (by have:=items_len HP.out.ids k;omega)).mono ?_
 rintro e w4 ⟨t4,m4,rfl,T4,F4,G4⟩
 have F4' :Fr y.foot W2 w4:=(Fr.drew (Fr.refl _ W2)).trans F4
 have hfy: ∀j,y.foot j->j<w.heap.size:=fun j hj=>HP.out.lt j (.inr (.inr (.inr ⟨y,HYM.out,hj⟩)))
 have hK4:=HK2.out.frame F4' (fun e=>by have:=hfy _ e;omega) (fun e=>by have:=hfy _ e;omega)
 have hc4:=F4'.keeps HP2.out.cells (fun e=>(HP.out.ne y HYM.out pb e).1 rfl)
 have hv4:=HP2.out.vers.frame F4' (fun j e e' =>(HP.out.ne y HYM.out j e').2.1 e)
 rw[HA.out] at hv4
 obtain⟨D,hown,hD⟩:=hv4
 have HT4:=Lib.hid T4
 have HF4:=Lib.hid F4'
 have HG4:=Lib.hid G4
 have HD:=Lib.hid hD
 have hsz4:=F4'.size
 have HSZ4:=Lib.hid hsz4
 clear T4 F4 F4' G4 hD hfy hsz4 c2 c3 k0 k1 k2 k3 k4 k5
 obtain⟨_,_,c2,c3,_⟩:=past_cells HP2.out.len hc4
 have f2:=past_free hc4 (po+2)
 rw[HA.out] at c3
 obtain⟨k0,k1,k2,k3,_,_⟩:=hK4.cells
 have HC4:=Lib.hid hc4
 have hl:=HP.out.ids.len
 have hn0:=HP.out.ids.next0
 have hib:i64 s.next:=⟨by omega,by omega⟩
 have HIB:=Lib.hid hib
 have hva:=(HP.out.nea am HA.out).1
 clear hK4 hc4 hib
 go_wp2_with fail
 refine wp_region_tail 12 (by kernel_rfl) (by kernel_rfl) ?_
 simp only[List.take_succ_cons,List.take_zero,List.drop_succ_cons,List.drop_zero]
 repeat still_step
 refine wpStill_nil ?_
 go_wp2_with (at_mapUpdate;refine wpList_mapUpdate_own _ rfl _ _ _ 123 rfl 3 221 intLaw Tryz.underlying123 verR am s.vs.length D rfl (World.ownsMap.drew hown) (by unfold maxLen;omega) _ _ _ rfl rfl (keyOf_int_mk Tryz.underlying3 (wfI HIB.out)) (verD ⟨s.next,k,f,t,x,s.now,0⟩) [] (verR_mk ⟨s.next,k,f,t,x,s.now,0⟩) ?_;intro w5 hown5 hgrow5;have F5:Fr (· =am) w4 w5:=(Fr.drew (Fr.refl _ w4)).trans (Fr.ofGrown hgrow5);have hc5:=F5.keeps HC4.out (fun e=>hva e.symm);have HF5:=Lib.hid F5;have HO5:=Lib.hid hown5;clear hgrow5 F5 hown5 c2 c3 f2 k0 k1 k2 k3;obtain⟨_,_,c2,_,_⟩:=past_cells HP2.out.len hc5;have f2:=past_free hc5 (po+2);have hb5:=lt_of_block hc5;clear hc5)
 have hend:=padded (t:=t) (x:=x) HP2.out.toPastI (by have:=HP2.out.tlen;omega) (Grows.refl _ _ _) (Keeps.refl _) (Fr.new HB2.out) HB2.out.size HA.out (by rw[HT.out];rfl) HK.out HYM.out HYK.out HT4.out HF4.out (fun j hj=>HG4.out j hj) HD.out HO5.out HF5.out
 refine bodyPost_end (results_none rfl _ _ _) rfl ?_
 exact hend
set_option maxRecDepth 100000 in
set_option maxHeartbeats 4000000 in
theorem padd_new (k:KeyP) (f t:Int) (x:ByteArray) (pb po:Nat) (R:Rest) (s:Pst) (g:Gh) (am tm:Nat) (w:World) (h:PastAt w pb po R s g) (ha:g.am=some am) (ht:g.tm=some tm) (hk:keyB k=true) (hr:rightB f t=true) (hn:s.next<4000) (hy:treeFor g.ts k=none):
  Calls Tryz.prog 229 #[.pointer (some ⟨pb,po,none⟩),.agg #[.int .i64 k.kind,.int .i64 k.a,.string k.word,.int .i64 k.b],.agg #[.int .i64 f,.int .i64 t],.string x,.int .i64 s.now] w (Begun pb po R (addV s k f t x) g w):=by
 obtain⟨W1,hW1⟩: ∃W1,W1=(w.alloc (.cells #[.int .i64 k.kind,.int .i64 k.a,.string k.word,.int .i64 k.b] 97)).alloc (.cells #[.int .i64 f,.int .i64 t] 107):=⟨_,rfl⟩
 have hB1:Below w.heap.size w W1:=by rw[hW1];exact((Below.refl _ w).alloc (Nat.le_refl _) _).alloc (by simp) _
 have hs1:W1.heap.size=w.heap.size+2:=by rw[hW1];simp
 have hK1:KBox W1 w.heap.size k f t:=by rw[hW1];exact KBox.new w k f t
 have P1:=h.below hB1
 have hlk: ∀n,(Instr.lookup 124 (.map (some tm)) (.agg #[.int .i64 k.kind,.int .i64 k.a,.string k.word,.int .i64 k.b]) false).run Tryz.prog (W1.drewN n)= .ok (.pointer none) (W1.drewN n):=fun n=>by
  have hT:=P1.trees.frame (Fr.drewN (Fr.refl (fun _=>False) W1) n) (fun _ _ e=>e)
  have:=tree_look hT P1.keyOk hk
  rw[ht,trPtr_none hy] at this
  exact this
 obtain⟨_,_,c2,_,c4⟩:=past_cells P1.len P1.cells
 rw[ht] at c4
 obtain⟨k0,k1,k2,k3,k4,k5⟩:=hK1.cells
 have HW1:=Lib.hid hW1
 have HB1:=Lib.hid hB1
 have HK1:=Lib.hid hK1
 have HS1:=Lib.hid hs1
 have HP:=Lib.hid h
 have HP1:=Lib.hid P1
 have HA:=Lib.hid ha
 have HT:=Lib.hid ht
 have HY:=Lib.hid hy
 have HK:=Lib.hid hk
 have HR:=Lib.hid hr
 clear hW1 hB1 hK1 hs1 h P1 ha ht hy hk hr
 go_enter Tryz.func229,Tryz.ntmps229
 go_wp2_with fail
 rw[<-HW1.out]
 go_quiet (fail)
 revert nq;intro n1
 go_wp2_with fail
 obtain⟨tb,htb⟩: ∃tb,tb=W1.heap.size:=⟨_,rfl⟩
 rw[<-htb]
 obtain⟨W2,hW2⟩: ∃W2,W2=(W1.drewN n1).alloc (.cells #[.pointer none,.map none] 285):=⟨_,rfl⟩
 rw[<-hW2]
 have hB2:Below W1.heap.size W1 W2:=by rw[hW2];exact(below_drewN' (Below.refl _ _) _).alloc (Nat.le_refl _) _
 have hs2:W2.heap.size=w.heap.size+3:=by rw[hW2];have:=HS1.out;simp[this]
 have hK2:=HK1.out.frame (Fr.new (F:=fun _=>False) hB2) (fun e=>e) (fun e=>e)
 have P2:=HP1.out.below hB2
 have ht2:W2.heap[tb]? =some (.cells #[.pointer none,.map none] 285 (0,0)):=by
  rw[hW2,htb];exact block_alloc_new (W1.drewN n1) _
 have htb' :tb=w.heap.size+2:=by rw[htb];exact HS1.out
 have HTB:=Lib.hid htb'
 have HT2B:=Lib.hid ht2
 have HK2:=Lib.hid hK2
 have HP2:=Lib.hid P2
 have HS2:=Lib.hid hs2
 have HB2:=Lib.hid (HB1.out.trans (hB2.mono (by rw[HS1.out];omega)))
 clear c2 c4 k0 k1 k2 k3 k4 k5 hlk
 have hv2:=P2.trees
 rw[HT.out] at hv2
 obtain⟨Dt,hownt,hDt⟩:=hv2
 have HDT:=Lib.hid hDt
 obtain⟨_,_,_,_,c4⟩:=past_cells P2.len P2.cells
 rw[HT.out] at c4
 obtain⟨k0,k1,k2,k3,k4,k5⟩:=hK2.cells
 have htl:=HP.out.tlen
 have hnet:=HP.out.net tm HT.out
 have htm:tm<w.heap.size:=HP.out.lt tm (.inr (.inr (.inl HT.out)))
 clear hW2 hB2 hs2 hK2 P2 ht2 htb htb' hDt
 refine wp_region_tail 6 (by kernel_rfl) (by kernel_rfl) ?_
 simp only[List.take_succ_cons,List.take_zero,List.drop_succ_cons,List.drop_zero]
 repeat still_step
 refine wpStill_nil ?_
 go_wp2_with (at_mapUpdate;refine wpList_mapUpdate_own _ rfl _ _ _ 124 rfl 97 222 keyLaw Tryz.underlying124 treeR tm g.ts.length Dt rfl (World.ownsMap.drew hownt) (by unfold maxLen;omega) _ _ _ rfl rfl (keyOf_key HK.out) (ptrD (tb:Nat)) [] rfl ?_;intro w3 hown3 hgrow3)
 have F3:Fr (· =tm) W2 w3:=(Fr.drew (Fr.refl _ W2)).trans (Fr.ofGrown hgrow3)
 have hnk:=treeFor_none HY.out
 have hnt: ∀z∈g.ts,tK z≠tK ⟨k,tb,.nil,none⟩:=fun z hz e=>hnk z hz (kK_inj (HP.out.keyOk z hz) HK.out e)
 have hti:itemsK s.vs k= []:=by
  cases e:itemsK s.vs k with
  | nil=>rfl
  | cons z l=>
    obtain⟨v,hv,hvk,_⟩:=mem_itemsK.1 (show z∈itemsK s.vs k by rw[e];simp)
    obtain⟨z',hz',e'⟩:=HP.out.all v hv
    exact absurd (e'.trans hvk) (hnk z' hz')
 have hfree: ¬g.foot pb tb:=fun e=>by have:=HP.out.lt tb e;have:=HTB.out;omega
 obtain⟨P3,FF3⟩:=PastI.newTree HP2.out.toPastI HT.out F3 HK.out hnk hti HT2B.out hfree ⟨_,hown3,HDT.out.put (⟨k,tb,.nil,none⟩:Tr) (kK_key k) hnt⟩
 have hK3:=HK2.out.frame F3 (by omega) (by omega)
 have hs3:=F3.size
 obtain⟨y,hY⟩: ∃y:Tr,y=⟨k,tb,.nil,none⟩:=⟨_,rfl⟩
 rw[<-hY] at P3
 obtain⟨g3,hG3⟩: ∃g3:Gh,g3={ g with ts:=y::g.ts }:=⟨_,rfl⟩
 have hG3' :({ am:=g.am,tm:=g.tm,ts:=y::g.ts }:Gh)=g3:=hG3.symm
 rw[hG3'] at P3
 have ha3:g3.am=some am:=by rw[hG3];exact HA.out
 have ht3:g3.tm.isSome=true:=by rw[hG3];show g.tm.isSome=true;rw[HT.out];rfl
 have hym:y∈g3.ts:=by rw[hG3];simp
 have hyk:y.key=k:=by rw[hY]
 have hytb:y.tb=tb:=by rw[hY]
 have htl3:(g3.ts.length:Int)<=s.next+1:=by rw[hG3];simp only[List.length_cons];omega
 have hgr3:Grows g g3 pb w:=by
  rw[hG3]
  rintro j (e|e|e|⟨z,hz,e⟩)
  · exact .inl (.inl e)
  · exact .inl (.inr (.inl e))
  · exact .inl (.inr (.inr (.inl e)))
  · rcases List.mem_cons.1 hz with rfl|hz
    · rw [hY] at e
      rcases e with e|e|e
      · right;have e' :j=tb:=e;have:=HTB.out;omega
      · cases e
      · cases e
    · exact .inl (.inr (.inr (.inr ⟨z,hz,e⟩)))
 have hkp3:Keeps g g3:=by rw[hG3];exact fun z hz=>⟨z,List.mem_cons_of_mem _ hz,rfl,rfl⟩
 have hfy: ∀j,y.foot j->j=tb:=fun j hj=>by
  rw[hY] at hj
  rcases hj with e|e|e
  · exact e
  · cases e
  · cases e
 have hFF3:Fr (g.foot pb) w w3:=(Fr.new HB2.out).next FF3 (fun _ _ e=>e)
 have HY3:=Lib.hid (And.intro ha3 (And.intro ht3 (And.intro hym (And.intro hyk (And.intro hytb (And.intro htl3 (And.intro hgr3 (And.intro hfy (And.intro hFF3 hkp3)))))))))
 have HP3:=Lib.hid P3
 have HK3:=Lib.hid hK3
 have HSZ3:=Lib.hid hs3
 clear k0 k1 k2 k3 k4 k5 c4 hgrow3 hown3 hownt F3 hnk hnt hti hfree FF3 ha3 ht3 hym hyk htl3 hgr3 hfy hFF3 hkp3 hY hG3 hG3'
 obtain⟨_,_,c2,c3,_⟩:=past_cells P3.len P3.cells
 rw[HY3.out.1] at c3
 obtain⟨k0,k1,k2,k3,k4,k5⟩:=hK3.cells
 have hbt:W2.heap.size<=w3.heap.size:=hs3
 clear hK3 P3 hs3
 go_wp2_with fail
 rw[<-hytb]
 clear hytb
 refine wp_region_tail 6 (by kernel_rfl) (by kernel_rfl) ?_
 simp only[List.take_succ_cons,List.take_zero,List.drop_succ_cons,List.drop_zero]
 repeat still_step
 refine wpStill_nil ?_
 go_wp2_with fail
 have T3:TreeAt w3.drew y.tb (itemsK s.vs k) y.t y.mb:=by
  have:=(HP3.out.below ((Below.refl _ w3).drew)).tree y HY3.out.2.2.1
  rw[HY3.out.2.2.2.1] at this;exact this
 have HT3:=Lib.hid T3
 clear T3
 refine(tadd_ok s.next f t w3.drew y.tb (itemsK s.vs k) y.t y.mb HT3.out HP.out.ids.next0 (by omega) HR.out (items_any HP.out.ids k) (by have:=items_len HP.out.ids k;omega)).mono ?_
 rintro e w4 ⟨t4,m4,rfl,T4,F4,G4⟩
 have F4' :Fr y.foot w3 w4:=(Fr.drew (Fr.refl _ w3)).trans F4
 have hfy: ∀j,y.foot j->j=tb:=HY3.out.2.2.2.2.2.2.2.1
 have hK4:=HK3.out.frame F4' (fun e=>by have:=hfy _ e;have:=HTB.out;omega) (fun e=>by have:=hfy _ e;have:=HTB.out;omega)
 have hc4:=F4'.keeps HP3.out.cells (fun e=>(HP3.out.ne y HY3.out.2.2.1 pb e).1 rfl)
 have hv4:=HP3.out.vers.frame F4' (fun j e e' =>(HP3.out.ne y HY3.out.2.2.1 j e').2.1 e)
 rw[HY3.out.1] at hv4
 obtain⟨D,hown,hD⟩:=hv4
 have HT4:=Lib.hid T4
 have HF4:=Lib.hid F4'
 have HG4:=Lib.hid G4
 have HD:=Lib.hid hD
 have hsz4:=F4'.size
 have HSZ4:=Lib.hid hsz4
 clear T4 F4 F4' G4 hD hfy hsz4 c2 c3 k0 k1 k2 k3 k4 k5
 obtain⟨_,_,c2,c3,_⟩:=past_cells HP3.out.len hc4
 have f2:=past_free hc4 (po+2)
 rw[HY3.out.1] at c3
 obtain⟨k0,k1,k2,k3,_,_⟩:=hK4.cells
 have HC4:=Lib.hid hc4
 have hl:=HP.out.ids.len
 have hn0:=HP.out.ids.next0
 have hib:i64 s.next:=⟨by omega,by omega⟩
 have HIB:=Lib.hid hib
 have hva:=(HP3.out.nea am HY3.out.1).1
 clear hK4 hc4 hib
 go_wp2_with fail
 refine wp_region_tail 12 (by kernel_rfl) (by kernel_rfl) ?_
 simp only[List.take_succ_cons,List.take_zero,List.drop_succ_cons,List.drop_zero]
 repeat still_step
 refine wpStill_nil ?_
 go_wp2_with (at_mapUpdate;refine wpList_mapUpdate_own _ rfl _ _ _ 123 rfl 3 221 intLaw Tryz.underlying123 verR am s.vs.length D rfl (World.ownsMap.drew hown) (by unfold maxLen;omega) _ _ _ rfl rfl (keyOf_int_mk Tryz.underlying3 (wfI HIB.out)) (verD ⟨s.next,k,f,t,x,s.now,0⟩) [] (verR_mk ⟨s.next,k,f,t,x,s.now,0⟩) ?_;intro w5 hown5 hgrow5;have F5:Fr (· =am) w4 w5:=(Fr.drew (Fr.refl _ w4)).trans (Fr.ofGrown hgrow5);have hc5:=F5.keeps HC4.out (fun e=>hva e.symm);have HF5:=Lib.hid F5;have HO5:=Lib.hid hown5;clear hgrow5 F5 hown5 c2 c3 f2 k0 k1 k2 k3;obtain⟨_,_,c2,_,_⟩:=past_cells HP3.out.len hc5;have f2:=past_free hc5 (po+2);have hb5:=lt_of_block hc5;clear hc5)
 have hend:=padded (t:=t) (x:=x) HP3.out HY3.out.2.2.2.2.2.1 HY3.out.2.2.2.2.2.2.1 HY3.out.2.2.2.2.2.2.2.2.2 HY3.out.2.2.2.2.2.2.2.2.1 (by have:=HB2.out.size;omega) HY3.out.1 HY3.out.2.1 HK.out HY3.out.2.2.1 HY3.out.2.2.2.1 HT4.out HF4.out (fun j hj=>HG4.out j hj) HD.out HO5.out HF5.out
 refine bodyPost_end (results_none rfl _ _ _) rfl ?_
 exact hend
theorem padd_any (k:KeyP) (f t:Int) (x:ByteArray) (pb po:Nat) (R:Rest) (s:Pst) (g:Gh) (w:World) (h:PastAt w pb po R s g) (ha:g.am.isSome=true) (ht:g.tm.isSome=true) (hk:keyB k=true) (hr:rightB f t=true) (hn:s.next<4000):
  Calls Tryz.prog 229 #[.pointer (some ⟨pb,po,none⟩),.agg #[.int .i64 k.kind,.int .i64 k.a,.string k.word,.int .i64 k.b],.agg #[.int .i64 f,.int .i64 t],.string x,.int .i64 s.now] w (Begun pb po R (addV s k f t x) g w):=by
 obtain⟨am,ha⟩:=Option.isSome_iff_exists.1 ha
 obtain⟨tm,ht⟩:=Option.isSome_iff_exists.1 ht
 cases hy:treeFor g.ts k with
 | none=>exact padd_new k f t x pb po R s g am tm w h ha ht hk hr hn hy
 | some y=>exact padd_old k f t x pb po R s g am tm y w h ha ht hk hr hn hy
theorem Fr.cell {F:Nat->Prop} {w w' :World} (h:Fr F w w') {b o:Nat} {v:Value} (hc:w.cell? ⟨b,o,none⟩=some v) (hn: ¬F b):w'.cell? ⟨b,o,none⟩=some v:=
 (World.cell?_of_block (w:=w) (a:=⟨b,o,none⟩) (h.block b (World.block_lt_of_cell? w _ hc) hn)).trans hc
theorem ownsRow_at {w:World} {base:Nat} {e:TypeId} {size:Nat} {v:Value} {n:Nat} {xs:List Value} (h:w.ownsRow base e size v n xs):
  ∃ao cap,v= .slice ao n cap/\ ∀j u,xs[j]? =some u-> ∃b,ao=some ⟨b,0,none⟩/\base<=b/\w.cell? ⟨b,j,none⟩=some u:=by
 have h0:=h
 rcases h.2 with ⟨rfl,hn⟩|⟨g,cap,cur,rfl,hbg,hh,hnc,hcm,hcs,htk⟩
 · subst hn
   have hx:xs= []:=List.eq_nil_of_length_eq_zero (by simpa using h.1)
   subst hx
   exact⟨none,0,rfl,fun j u hu=>by simp at hu⟩
 · refine⟨some ⟨g,0,none⟩,cap,rfl,fun j u hu=>⟨g,rfl,hbg,?_⟩⟩
   have hj:j<n*size:=by
    rw[<-h.1];exact(List.getElem?_eq_some_iff.1 hu).1
   rw[h0.cellAt j hj,hu]
theorem ownsRow_intsB {w:World} {base n:Nat} {v:Value} {l:List Int} {e:TypeId} (h:w.ownsRow base e 1 v n (l.map (Value.int .i64))): ∃ao cap,v= .slice ao l.length cap/\ ∀j x,l[j]? =some x-> ∃b,ao=some ⟨b,0,none⟩/\base<=b/\w.cell? ⟨b,j,none⟩=some (.int .i64 x):=by
 have hn:n=l.length:=by have:=h.1;simp at this;omega
 subst hn
 obtain⟨ao,cap,rfl,hc⟩:=ownsRow_at h
 exact⟨ao,cap,rfl,fun i x hx=>hc i (.int .i64 x) (by simp[hx])⟩
theorem ownsRow_spansB {w:World} {base n:Nat} {v:Value} {l:List (Int×Int)} {e:TypeId} (h:w.ownsRow base e 2 v n (flat l)): ∃ao cap,v= .slice ao l.length cap/\ ∀j x y,l[j]? =some (x,y)-> ∃b,ao=some ⟨b,0,none⟩/\base<=b/\w.cell? ⟨b,j*2,none⟩=some (.int .i64 x)/\w.cell? ⟨b,j*2+1,none⟩=some (.int .i64 y):=by
 have hn:n=l.length:=by have:=h.1;rw[flat_length] at this;omega
 subst hn
 obtain⟨ao,cap,rfl,hc⟩:=ownsRow_at h
 refine⟨ao,cap,rfl,fun i x y hx=> ?_⟩
 obtain⟨f1,f2⟩:=flat_get l i x y hx
 obtain⟨b,h1,hb,h2⟩:=hc _ _ f1
 obtain⟨b',h1',_,h2'⟩:=hc _ _ f2
 rw[h1] at h1';cases h1'
 exact⟨b,h1,hb,h2,h2'⟩
theorem sayAll_snoc (o:OpP) (s:Pst) (l:List Int) (k:Nat) (id:Int) (h:l[k]? =some id):sayAll o s (l.take (k+1))=sayId o (sayAll o s (l.take k)) id:=by
 unfold sayAll
 rw[List.take_succ_eq_append_getElem (List.getElem?_eq_some_iff.1 h).1,List.foldl_append,(List.getElem?_eq_some_iff.1 h).2];rfl
theorem addAll_snoc (s:Pst) (k:KeyP) (x:ByteArray) (l:List (Int×Int)) (j:Nat) (a b:Int) (h:l[j]? =some (a,b)):addAll s k x (l.take (j+1))=addV (addAll s k x (l.take j)) k a b x:=by
 unfold addAll
 rw[List.take_succ_eq_append_getElem (List.getElem?_eq_some_iff.1 h).1,List.foldl_append,(List.getElem?_eq_some_iff.1 h).2];rfl
theorem sayId_skip {o:OpP} {s:Pst} {id:Int} {v:Ver} (hf:s.vs.find? (fun u=>decide (u.id=id))=some v) (h:0<v.en):sayId o s id=s:=by
 unfold sayId;rw[hf];show(if 0<v.en then s else cutV s o v)=s;rw[if_pos h]
theorem sayId_cut {o:OpP} {s:Pst} {id:Int} {v:Ver} (hf:s.vs.find? (fun u=>decide (u.id=id))=some v) (h: ¬0<v.en):sayId o s id=cutV s o v:=by
 unfold sayId;rw[hf];show(if 0<v.en then s else cutV s o v)=_;rw[if_neg h]
theorem filter_perm_cons {α:Type} (f:α->Int): ∀ {l:List α},(l.map f).Nodup-> ∀ {v:α},v∈l->l.Perm (v::l.filter fun u=>decide (f u≠f v))
 | [],_,_,hv=>by cases hv
 | a ::l,hn,v,hv=>by
   rw[List.map_cons,List.nodup_cons] at hn
   rcases List.mem_cons.1 hv with e|hv
   · subst e
     rw[List.filter_cons_of_neg (by simp)]
     have :l.filter (fun u=>decide (f u≠f v))=l:=by
      rw[List.filter_eq_self]
      intro u hu
      simp only[decide_eq_true_eq]
      exact fun e=>hn.1 (List.mem_map.2 ⟨u,hu,e⟩)
     rw[this]
   · have hne:f a≠f v:=fun e=>hn.1 (List.mem_map.2 ⟨v,hv,e.symm⟩)
     rw[List.filter_cons_of_pos (by simpa using hne)]
     exact((filter_perm_cons f hn.2 hv).cons a).trans (List.Perm.swap _ _ _)
theorem dropV_perm {s:Pst} (h:(s.vs.map (·.id)).Nodup) {v:Ver} (hv:v∈s.vs):s.vs.Perm (v::(dropV s v.id).vs):=filter_perm_cons (fun u:Ver=>u.id) h hv
theorem endV_perm {s:Pst} (h:(s.vs.map (·.id)).Nodup) {v:Ver} (hv:v∈s.vs):(endV s v.id).vs.Perm ({ v with en:=s.now }::(dropV s v.id).vs):=by
 have h1:=(dropV_perm h hv).map fun u:Ver=>if u.id=v.id then { u with en:=s.now } else u
 rw[List.map_cons,if_pos rfl] at h1
 have e:((dropV s v.id).vs.map fun u:Ver=>if u.id=v.id then { u with en:=s.now } else u)=(dropV s v.id).vs:=by
  refine(List.map_congr_left (g:=id) fun u hu=> ?_).trans (List.map_id _)
  rw[if_neg (mem_drop.1 hu).2];rfl
 rw[e] at h1
 exact h1
theorem itemsK_perm {l m:List Ver} (h:l.Perm m) (k:KeyP):(itemsK l k).Perm (itemsK m k):=(h.filter _).map _
theorem itemsK_cons (v:Ver) (l:List Ver) (k:KeyP):itemsK (v::l) k=if v.key=k then v.item::itemsK l k else itemsK l k:=by
 unfold itemsK
 split
 · rename_i e;rw[List.filter_cons_of_pos (by simpa using e)];rfl
 · rename_i e;rw[List.filter_cons_of_neg (by simpa using e)]
theorem items_drop {s:Pst} (h:(s.vs.map (·.id)).Nodup) {v:Ver} (hv:v∈s.vs):(itemsK s.vs v.key).Perm ((v.fr,v.id,v.to)::itemsK (dropV s v.id).vs v.key):=by
 have:=itemsK_perm (dropV_perm h hv) v.key
 rw[itemsK_cons,if_pos rfl] at this
 exact this
theorem items_drop' {s:Pst} (h:(s.vs.map (·.id)).Nodup) {v:Ver} (hv:v∈s.vs) (k:KeyP):(updI (itemsK s.vs) v.key (itemsK (dropV s v.id).vs v.key) k).Perm (itemsK (dropV s v.id).vs k):=by
 unfold updI
 split
 · rename_i e;rw[e]
 · rename_i e
   have:=itemsK_perm (dropV_perm h hv) k
   rw[itemsK_cons,if_neg (fun e' =>e e'.symm)] at this
   exact this
theorem items_end {s:Pst} (id:Int) (k:KeyP):itemsK (endV s id).vs k=itemsK s.vs k:=by
 unfold itemsK endV
 induction s.vs with
 | nil=>rfl
 | cons u l ih=>
   have e1:(if u.id=id then { u with en:=s.now } else u).key=u.key:=by split<;>rfl
   have e2:(if u.id=id then { u with en:=s.now } else u).item=u.item:=by split<;>rfl
   simp only[List.map_cons]
   by_cases hk:u.key=k
   · rw[List.filter_cons_of_pos (by rw[e1];simpa using hk),List.filter_cons_of_pos (by simpa using hk),List.map_cons,List.map_cons,e2,ih]
   · rw[List.filter_cons_of_neg (by rw[e1];simpa using hk),List.filter_cons_of_neg (by simpa using hk),ih]
theorem Ids.drop {s:Pst} (h:Ids s) (id:Int):Ids (dropV s id):=by
 have hm: ∀v∈(dropV s id).vs,v∈s.vs:=fun v hv=>(mem_drop.1 hv).1
 refine⟨h.nod.sublist (List.Sublist.map _ List.filter_sublist),fun v hv=>h.rng v (hm v hv),fun v hv=>h.key v (hm v hv),h.next0,?_⟩
 have:=List.length_filter_le (fun u:Ver=>decide (u.id≠id)) s.vs
 have:=h.len
 simp only[dropV];omega
theorem Ids.end' {s:Pst} (h:Ids s) (id:Int):Ids (endV s id):=by
 refine⟨?_,fun v hv=> ?_,fun v hv=> ?_,h.next0,by simpa [endV] using h.len⟩
 · have :(endV s id).vs.map (·.id)=s.vs.map (·.id):=by
    simp only[endV,List.map_map]
    refine List.map_congr_left fun u _=> ?_
    simp only[Function.comp];split<;>rfl
   rw[this];exact h.nod
 · rcases mem_end.1 hv with ⟨hv,_⟩|⟨u,hu,_,rfl⟩
   · exact h.rng v hv
   · exact h.rng u hu
 · rcases mem_end.1 hv with ⟨hv,_⟩|⟨u,hu,_,rfl⟩
   · exact h.key v hv
   · exact h.key u hu
theorem past_drop {w w4 w5:World} {pb po:Nat} {R:Rest} {s:Pst} {g:Gh} {am:Nat} {y:Tr} {v:Ver} {t' :BT Nd} {mb' :Option Nat} {D:DataW Unit} {n:Nat}
  (h:PastAt w pb po R s g) (ha:g.am=some am) (hy:y∈g.ts) (hyk:y.key=v.key) (hv:v∈s.vs)
  (hT:TreeAt w4 y.tb (itemsK (dropV s v.id).vs v.key) t' mb') (hF:Fr y.foot w w4) (hG: ∀j,Go.Proofs.YtpgkjnebklknjaaGreatDoor.foot y.tb t' mb' j->y.foot j)
  (o2:MapOf vK verD D s.vs) (hown:w5.ownsMap Tryz.prog 3 verR am n (D.del (kI v.id))) (F5:Fr (· =am) w4 w5):
  ∃g',PastAt w5 pb po R (dropV s v.id) g' /\g'.am=g.am/\g'.tm=g.tm/\Fr (g.foot pb) w w5/\(∀j,g'.foot pb j->g.foot pb j)/\Keeps g g' :=by
 obtain⟨h4,G4,F4⟩:=PastI.turn (x' :=⟨v.key,y.tb,t',mb'⟩) h.toPastI hy hyk.symm rfl hT hF (fun k hk=> .inl (hG k hk))
 have hnd: ∀u∈(dropV s v.id).vs,vK u≠vK v:=fun u hu=>kI_ne (mem_drop.1 hu).2
 have o3:MapOf vK verD (D.del (kI v.id)) (dropV s v.id).vs:=(o2.perm (dropV_perm h.ids.nod hv)).del kI_key hnd
 have hv5:versAt w5 (dropV s v.id).vs (some am):=⟨_,by
  have:=owns_tight hown
  rw[o3.size] at this
  exact this,o3⟩
 have hall: ∀u∈(dropV s v.id).vs,∃z∈(g.set ⟨v.key,y.tb,t',mb'⟩).ts,z.key=u.key:=fun u hu=>h4.all u (mem_drop.1 hu).1
 obtain⟨h5,F5'⟩:=PastI.store (s' :=dropV s v.id) h4 (m:=am) ha F5 hv5 (h.ids.drop v.id) rfl rfl rfl hall
 refine⟨g.set ⟨v.key,y.tb,t',mb'⟩,⟨h5.perm (fun z _=> ?_),by show((setTr g.ts _).length:Int)<=s.next;unfold setTr;rw[List.length_map];exact h.tlen⟩,rfl,rfl,F4.past F5' G4,?_,Keeps.set h.keys hy hyk.symm rfl⟩
 · rw [hyk]
   exact items_drop' h.ids.nod hv z.key
 · rintro j (e|e|e|⟨z,hz,e⟩)
   · exact .inl e
   · exact .inr (.inl e)
   · exact .inr (.inr (.inl e))
   · obtain⟨z',hz',rfl⟩:=List.mem_map.1 hz
     split at e
     · exact .inr (.inr (.inr ⟨y,hy,hG j e⟩))
     · exact .inr (.inr (.inr ⟨z',hz',e⟩))
theorem past_end {w w5:World} {pb po:Nat} {R:Rest} {s:Pst} {g:Gh} {am:Nat} {v:Ver} {D:DataW Unit} {n:Nat}
  (h:PastAt w pb po R s g) (ha:g.am=some am) (hv:v∈s.vs)
  (o2:MapOf vK verD D s.vs) (hown:w5.ownsMap Tryz.prog 3 verR am n (D.put (kI v.id) (verD { v with en:=s.now }))) (F5:Fr (· =am) w w5):
  PastAt w5 pb po R (endV s v.id) g/\Fr (g.foot pb) w w5:=by
 have hnd: ∀u∈(dropV s v.id).vs,vK u≠vK v:=fun u hu=>kI_ne (mem_drop.1 hu).2
 have o3:MapOf vK verD (D.put (kI v.id) (verD { v with en:=s.now })) (endV s v.id).vs:=((o2.perm (dropV_perm h.ids.nod hv)).over { v with en:=s.now } rfl kI_key hnd).perm (endV_perm h.ids.nod hv).symm
 have hv5:versAt w5 (endV s v.id).vs (some am):=⟨_,by
  have:=owns_tight hown
  rw[o3.size] at this
  exact this,o3⟩
 have hall: ∀u∈(endV s v.id).vs,∃z∈g.ts,z.key=u.key:=fun u hu=>by
  rcases mem_end.1 hu with ⟨hu,_⟩|⟨u',hu',_,rfl⟩
  · exact h.all u hu
  · exact h.all u' hu'
 obtain⟨h5,F5'⟩:=PastI.store (s' :=endV s v.id) h.toPastI (m:=am) ha F5 hv5 (h.ids.end' v.id) rfl rfl rfl hall
 exact⟨⟨h5.perm (fun z _=>by rw[items_end]),h.tlen⟩,F5'⟩
end Go.Proofs.YtpgkjnebklknjaaGreatDoor
