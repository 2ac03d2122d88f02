/-Plain law of a desk's words:numbers,words by a form,texts. -/
import Derived.Lib.FieldsP
import Derived.Lib.SpaceUEq
import Derived.Test.YtpgkjnebklknjaaGreatDoorFactMJr
import Derived.Test.YtpgkjnebklknjaaGreatDoorFcEJr
import Derived.Test.YtpgkjnebklknjaaGreatDoorPastQJr
import Derived.Test.YtpgkjnebklknjaaGreatDoorTreeRJr
namespace Go.Proofs.YtpgkjnebklknjaaGreatDoor
open Go
def isBl (r:Nat):Bool:=decide (r=32)
def fgo:List UInt8->List UInt8->List (List UInt8)
 | cur,[]=>if cur= [] then [] else [cur]
 | cur,b::t=>if b=32 then (if cur= [] then fgo [] t else cur::fgo [] t) else fgo (cur++ [b]) t
theorem fgo_cut: ∀(l cur:List UInt8),fgo cur l=match cutC 32 l with
  | []=> []
  | p::r=>((cur++p)::r).filter fun x=> !x.isEmpty
 | [], cur=>by
   unfold fgo cutC
   cases cur with
   | nil=>rfl
   | cons a c=>simp
 | b ::t,cur=>by
   unfold fgo cutC
   by_cases hb:b=32
   · rw [if_pos hb,if_pos hb]
     have ih:=fgo_cut t []
     cases hc:cutC 32 t with
     | nil=>exact absurd hc (cutC_ne 32 t)
     | cons p r=>
       rw[hc] at ih
       rw[ih]
       simp only[List.nil_append,List.append_nil]
       cases cur with
       | nil=>simp
       | cons a c=>simp
   · rw [if_neg hb,if_neg hb,fgo_cut t (cur++ [b])]
     cases hc:cutC 32 t with
     | nil=>exact absurd hc (cutC_ne 32 t)
     | cons p r=>simp
theorem fgo_fields (l:List UInt8):fgo [] l=(cutC 32 l).filter fun x=> !x.isEmpty:=by
 rw[fgo_cut]
 cases hc:cutC 32 l with
 | nil=>exact absurd hc (cutC_ne 32 l)
 | cons p r=>rfl
theorem fgo_skip: ∀(m cur t:List UInt8),(32:UInt8)∉m->fgo cur (m++t)=fgo (cur++m) t
 | [],cur,t,_=>by simp
 | b ::m,cur,t,h=>by
   have hb: ¬b=32:=fun e=>h (by simp[e])
   rw[List.cons_append,fgo,if_neg hb,fgo_skip m (cur++ [b]) t (fun e=>h (List.mem_cons_of_mem _ e))]
   simp
theorem dec_blank (n b0 b1 b2 b3:Nat) (_h0:b0<256) (h:(Lib.decodeN n b0 b1 b2 b3).1=32):b0=32/\(Lib.decodeN n b0 b1 b2 b3).2=1:=by
 rcases Lib.decodeN_cases n b0 b1 b2 b3 with ⟨c,e⟩|⟨_,_,_,c,e⟩|⟨_,_,_,_,c,e⟩|⟨c,_⟩|e
 · rw[e] at h ⊢;exact⟨h,rfl⟩
 · rw[e] at h;simp only at h;omega
 · rw[e] at h;simp only at h;omega
 · omega
 · rw[e] at h;simp only at h;omega
theorem dec_other (n b0 b1 b2 b3:Nat) (hn:1<=n) (h0:b0<256) (h:(Lib.decodeN n b0 b1 b2 b3).1≠32):
  b0≠32/\(2<=(Lib.decodeN n b0 b1 b2 b3).2->b1≠32)/\(3<=(Lib.decodeN n b0 b1 b2 b3).2->b2≠32)/\(4<=(Lib.decodeN n b0 b1 b2 b3).2->b3≠32)/\(Lib.decodeN n b0 b1 b2 b3).2<=4/\(Lib.decodeN n b0 b1 b2 b3).2<=n:=by
 obtain⟨c1,c2,c3,c4⟩:=Lib.decodeN_conts n b0 b1 b2 b3
 have hle:=Lib.decodeN_le_n' n b0 b1 b2 b3 hn
 refine⟨fun e=> ?_,fun e=> ?_,fun e=> ?_,fun e=> ?_,c4,hle⟩
 · subst e
   apply h
   unfold Lib.decodeN
   rw[if_pos (by omega)]
 · have:=(c1 e).1;omega
 · have:=(c2 e).1;omega
 · have:=(c3 e).1;omega
def pieceU (l:List UInt8) (x:Nat×Nat):List UInt8:=(l.take x.2).drop x.1
def openU (l:List UInt8) (st:Option Nat) (pos:Nat):List UInt8:=match st with
 | some a=>pieceU l (a,pos)
 | none=> []
theorem get_drop {l:List UInt8} {i:Nat} (h:i<l.length):l.drop i=l.getD i 0::l.drop (i+1):=by
 rw[List.drop_eq_getElem_cons h]
 simp[List.getD,h]
theorem pieceU_more (l:List UInt8) {a pos k:Nat} (ha:a<=pos) (hk:pos+k<=l.length):pieceU l (a,pos+k)=pieceU l (a,pos)++(l.drop pos).take k:=by
 unfold pieceU
 have e:l.take (pos+k)=l.take pos++(l.drop pos).take k:=List.take_add
 simp only[e]
 rw[List.drop_append_of_le_length (by rw[List.length_take];omega)]
theorem bl_spans (s:ByteArray): ∀(f pos:Nat) (st:Option Nat) (acc:List (Nat×Nat)),s.data.toList.length<=pos+f->pos<=s.data.toList.length->(∀a,st=some a->a<pos)→
  (Lib.closeSpans s (Lib.spansFromP isBl s f pos st acc)).map (pieceU s.data.toList)=acc.map (pieceU s.data.toList)++fgo (openU s.data.toList st pos) (s.data.toList.drop pos):=by
 have hsz:s.size=s.data.toList.length:=Array.length_toList.symm
 have ends: ∀(pos:Nat) (st:Option Nat) (acc:List (Nat×Nat)),pos=s.data.toList.length->(∀a,st=some a->a<pos)→
   (Lib.closeSpans s (acc,st)).map (pieceU s.data.toList)=acc.map (pieceU s.data.toList)++fgo (openU s.data.toList st pos) (s.data.toList.drop pos):=by
  intro pos st acc hp hst
  rw[hp,List.drop_length]
  cases st with
  | none=>simp[Lib.closeSpans,openU,fgo]
  | some a=>
    have:=hst a rfl
    have hne:pieceU s.data.toList (a,s.data.toList.length)≠ []:=fun e=>by
     have e2:=congrArg List.length e
     unfold pieceU at e2
     rw[List.length_drop,List.length_take,List.length_nil] at e2
     simp only at e2
     omega
    have hneO:openU s.data.toList (some a) s.data.toList.length≠ []:=hne
    rw[fgo,if_neg hneO]
    simp only[Lib.closeSpans,openU,List.map_append,List.map_cons,List.map_nil,hsz]
 intro f
 induction f with
 | zero=>
   intro pos st acc h1 h2 hst
   exact ends pos st acc (by omega) hst
 | succ f ih=>
   intro pos st acc h1 h2 hst
   by_cases hp:pos<s.size
   · have hpl:pos<s.data.toList.length:=by omega
     have hd:=Lib.decode_N s pos
     generalize hr:Utf8.decode s pos=d at*
     have hb0:=(s.data.toList.getD pos 0).toNat_lt
     unfold Lib.spansFromP
     rw[if_pos hp,hr]
     by_cases hbl:d.1=32
     · have hq:=dec_blank _ _ _ _ _ hb0 (by rw[<-hd];exact hbl)
       rw[<-hd] at hq
       have h32:s.data.toList.getD pos 0=32:=by
        have:=hq.1
        exact UInt8.toNat_inj.1 this
       have hdr:=get_drop hpl
       rw[h32] at hdr
       rw[if_pos (by unfold isBl;simpa using hbl),hq.2]
       cases st with
       | none=>
         simp only
         rw[ih (pos+1) none acc (by omega) (by omega) (fun a e=>by cases e),hdr]
         conv=>rhs;rw[fgo,if_pos rfl]
         rfl
       | some a=>
         have ha:=hst a rfl
         simp only
         rw[ih (pos+1) none _ (by omega) (by omega) (fun a e=>by cases e),hdr]
         have hne:openU s.data.toList (some a) pos≠ []:=fun e=>by
          have e2:=congrArg List.length e
          unfold openU pieceU at e2
          rw[List.length_drop,List.length_take,List.length_nil] at e2
          simp only at e2
          omega
         conv=>rhs;rw[fgo,if_pos rfl,if_neg hne]
         rw[List.map_append,List.append_assoc]
         rfl
     · have hn1:1<=s.data.toList.length-pos:=Nat.sub_pos_of_lt hpl
       have hq:=dec_other (s.data.toList.length-pos) _ _ _ _ hn1 hb0 (by rw[<-hd];exact hbl)
       rw[<-hd] at hq
       obtain⟨q0,q1,q2,q3,q4,q5⟩:=hq
       rw[if_neg (by unfold isBl;simpa using hbl)]
       have hk:pos+d.2<=s.data.toList.length:=by omega
       have hk1:1<=d.2:=by rw[<-hr];exact Lib.width_pos s pos
       have hno:(32:UInt8)∉(s.data.toList.drop pos).take d.2:=fun hm=>by
        obtain⟨j,hj⟩:=List.mem_iff_getElem?.1 hm
        have hjk:j<d.2:=by
         have:=(List.getElem?_eq_some_iff.1 hj).1
         rw[List.length_take] at this
         omega
        rw[List.getElem?_take_of_lt hjk,List.getElem?_drop] at hj
        have hg:(s.data.toList.getD (pos+j) 0).toNat=32:=by rw[List.getD_eq_getElem?_getD,hj];rfl
        rcases(by omega:j=0\/j=1\/j=2\/j=3) with rfl|rfl|rfl|rfl
        · exact q0 hg
        · exact q1 (by omega) hg
        · exact q2 (by omega) hg
        · exact q3 (by omega) hg
       have hsplit:s.data.toList.drop pos=(s.data.toList.drop pos).take d.2++s.data.toList.drop (pos+d.2):=by
        have:=(List.take_append_drop d.2 (s.data.toList.drop pos)).symm
        rwa [List.drop_drop] at this
       cases st with
       | none=>
         simp only
         rw[ih (pos+d.2) (some pos) acc (by omega) hk (fun a e=>by cases e;omega)]
         conv=>rhs;rw[hsplit,fgo_skip _ _ _ hno]
         congr 2
         show pieceU s.data.toList (pos,pos+d.2)= []++_
         rw[pieceU_more _ (Nat.le_refl _) hk]
         congr 1
         unfold pieceU
         exact List.drop_eq_nil_of_le (by rw[List.length_take];exact Nat.min_le_left _ _)
       | some a=>
         have ha:=hst a rfl
         simp only
         rw[ih (pos+d.2) (some a) acc (by omega) hk (fun b e=>by cases e;omega)]
         conv=>rhs;rw[hsplit,fgo_skip _ _ _ hno]
         congr 2
         exact pieceU_more _ (by omega) hk
   · rw [Lib.spansFromP_end _ _ _ _ _ _ hp]
     exact ends pos st acc (by omega) hst
theorem bytes_extract (s:ByteArray) (a b:Nat):(s.extract a b).data.toList=(s.data.toList.take b).drop a:=by
 rw[ByteArray.data_extract,Array.toList_extract,List.extract_eq_take_drop,List.drop_take]
def fieldsL (s:List UInt8):List ByteArray:=((cutC 32 s).filter fun p=> !p.isEmpty).map fun p=>⟨p.toArray⟩
theorem goFields_bl (s:ByteArray):Lib.goFieldsP isBl s=fieldsL s.data.toList:=by
 have h:=bl_spans s s.size 0 none [] (by have:s.data.toList.length=s.size:=Array.length_toList;omega) (Nat.zero_le _) (fun a e=>by cases e)
 simp only[List.map_nil,List.nil_append,openU,List.drop_zero] at h
 rw[fgo_fields] at h
 unfold Lib.goFieldsP fieldsL
 rw[<-h]
 rw[List.map_map]
 unfold Lib.spansOfP
 refine List.map_congr_left fun x _=> ?_
 apply bytes_ext
 rw[bytes_extract]
 rfl
open Go.RowKit Go.Deep Go.Shelf Go.Sort Go.Maps
def numB (s:ByteArray):Option Int:=match Lib.atoiAll s.data.toList with
 | .ok n=>if Lib.itoa n=s.data.toList then some n else none
 | _=>none
def goW:List Bool->List ByteArray->Option (List Int×List ByteArray)
 | [],[]=>some ([],[])
 | true::f,x::w=>(numB x).bind fun n=>(goW f w).map fun q=>(n::q.1,q.2)
 | false::f,x::w=>(goW f w).map fun q=>(q.1,x::q.2)
 | _,_=>none
def plainB (s:ByteArray):ByteArray:=undash s.data.toList
def keyT (k:KeyP):List UInt8:=Lib.join [Lib.itoa k.kind,Lib.itoa k.a,dashL k.word,Lib.itoa k.b] [32]
def keysT (l:List KeyP):List UInt8:=Lib.join (l.map keyT) [44,32]
def pcT (p:Pc):List UInt8:=wordsT [p.fr,p.to]++32::p.val.data.toList
def pcsT (l:List Pc):List UInt8:=Lib.join (l.map pcT) [44,32]
def boolT (b:Bool):List UInt8:=if b then [116,114,117,101] else [102,97,108,115,101]
def errT (n:Int):List UInt8:= [101,114,114,111,114,32]++Lib.itoa n
end Go.Proofs.YtpgkjnebklknjaaGreatDoor
