/-What both pasts tell of one question,in the same words. -/
import Derived.Sort.OwnSorted
import Derived.Laws.AppendOwnNone
import Derived.Lib.AppendZeros
import Derived.Deep.RegionHeld3
import Derived.Deep.DeepCutAuto
import Derived.Test.YtpgkjnebklknjaaGreatDoorPsAJr
import Derived.Test.YtpgkjnebklknjaaGreatDoorAppMJr
import Derived.Test.YtpgkjnebklknjaaGreatDoorPwHJr
import Derived.Test.YtpgkjnebklknjaaGreatDoorErrCJr
import Derived.Test.YtpgkjnebklknjaaGreatDoorSqGJr
import Derived.Test.YtpgkjnebklknjaaGreatDoorRpJJr
import Derived.Test.YtpgkjnebklknjaaGreatDoorInLJr
import Derived.Test.YtpgkjnebklknjaaGreatDoorRpIJr
import Derived.Test.YtpgkjnebklknjaaGreatDoorAppJr
import Derived.Test.YtpgkjnebklknjaaGreatDoorPwMJr
namespace Go.Proofs.YtpgkjnebklknjaaGreatDoor
open Go
section
variable {hist:List (List OpP)} {k:KeyP} {E:List Int} {f t:Int} {n i j:Nat}
end
end Go.Proofs.YtpgkjnebklknjaaGreatDoor
namespace Go.Proofs.YtpgkjnebklknjaaGreatDoor
open Go.RowKit Go.Deep Go.Shelf Go.Sort Go.Maps
section
variable {F:Nat->Prop} {rb:Nat} {hist:List (List OpP)} {known:Int}
end
end Go.Proofs.YtpgkjnebklknjaaGreatDoor
namespace Go.Proofs.YtpgkjnebklknjaaGreatDoor
open Go.RowKit Go.Deep Go.Shelf Go.Sort Go.Maps
section
variable {F:Nat->Prop} {rb:Nat} {hist:List (List OpP)} {known:Int}
end
end Go.Proofs.YtpgkjnebklknjaaGreatDoor
namespace Go.Proofs.YtpgkjnebklknjaaGreatDoor
open Go.RowKit Go.Deep Go.Shelf Go.Sort Go.Maps
def keyRE (hist:List (List OpP)) (known a t:Int):Int:=if askR hist.length known a≠0 then askR hist.length known a else if timeB t then 0 else 1
theorem keyRE_0 {hist:List (List OpP)} {known a t:Int} (h:keyRE hist known a t=0):askR hist.length known a=0/\timeB t=true:=by
 unfold keyRE at h
 rcases Decidable.em (askR hist.length known a=0) with e|e
 · rw [if_neg (by rw[e];decide)] at h
   cases hb:timeB t with
   | true=>exact⟨e,rfl⟩
   | false=>rw[hb] at h;exact absurd h (by decide)
 · rw[if_pos e] at h;exact absurd h e
section
variable {F:Nat->Prop} {rb:Nat} {hist:List (List OpP)} {known:Int}
end
end Go.Proofs.YtpgkjnebklknjaaGreatDoor
namespace Go.Proofs.YtpgkjnebklknjaaGreatDoor
open Go.RowKit Go.Deep Go.Shelf Go.Sort Go.Maps
section
variable {F:Nat->Prop} {rb:Nat} {hist:List (List OpP)} {known:Int}
end
end Go.Proofs.YtpgkjnebklknjaaGreatDoor
namespace Go.Proofs.YtpgkjnebklknjaaGreatDoor
open Go.RowKit Go.Deep Go.Shelf Go.Sort Go.Maps
theorem ownsRow_len {w:World} {base:Nat} {e:TypeId} {size:Nat} {v:Value} {n:Nat} {xs:List Value} (h:w.ownsRow base e size v n xs):n<=maxLen:=by
 rcases h.2 with ⟨_,h0⟩|⟨g,cap,cur,_,_,_,h1,h2,_⟩
 · rw[h0];exact Nat.zero_le _
 · exact Nat.le_trans h1 h2
section
variable {F:Nat->Prop} {rb:Nat} {hist:List (List OpP)} {known:Int} {w:World} {pb po:Nat} {R:Rest} {s:Pst} {g:Gh}
theorem askE_R (h:PastIs w pb po R hist s g) (hk:s.gone=known) (a:Int):askE s a=askR hist.length known a:=by unfold askE askR;rw[h.now,hk]
theorem errN_of {n:Int} (h:n≠0):errN n=errV n:=by unfold errN;rw[if_neg h]
theorem pvalue_same (h:PastIs w pb po R hist s g) (hk:s.gone=known) (k:KeyP) (a t:Int) (hs:k.word.size<=maxLen):
  Calls Tryz.prog 118 #[.pointer (some ⟨pb,po,none⟩),.agg #[.int .i64 k.kind,.int .i64 k.a,.string k.word,.int .i64 k.b],.int .i64 a,.int .i64 t] w fun e w' =>e= .returned (.tuple #[.string (valR hist known k a t).1,errN (valR hist known k a t).2])/\Below w.heap.size w w' :=by
 have hv:=pvalue_any k a t pb po R s g w h.at' hs (by have:=h.nx;omega)
 have e:valV s k a t= .tuple #[.string (valR hist known k a t).1,errN (valR hist known k a t).2]:=by
  have ha:=askE_R h hk a
  unfold valR
  by_cases h0:askR hist.length known a=0
  · rw [if_neg (by rw[h0];decide)]
    cases hb:keyB k && timeB t with
    | true=>
      rw[Bool.and_eq_true] at hb
      obtain⟨q1,q2,q3⟩:=askR_0 h0
      rw[if_pos rfl,valV_ok (by rw[ha];exact h0) hb.1 hb.2]
      obtain⟨n,rfl⟩: ∃n:Nat,a=n:=⟨a.toNat,by omega⟩
      rw[value_told h.wf h.told hb.2 (by rw[hk];exact q3) (by omega)]
      rfl
    | false=>
      rw[if_neg (by decide)]
      have:valE s k a t=1:=by unfold valE;rw[if_neg (by rw[ha,h0];decide),hb];rfl
      unfold valV
      rw[this,if_neg (by decide)]
  · rw [if_pos h0,valV_ask (by rw[ha];exact h0),ha]
    simp only[errN_of h0]
 rw[e] at hv
 exact hv
def PSpec (hist:List (List OpP)) (known:Int) (k:KeyP) (a:Int) (L:List Pc):Prop:=(pieRE hist known k a=0->PiecesOf hist k a.toNat L)/\(pieRE hist known k a≠0->L= [])
theorem PSpec.one {k:KeyP} {a:Int} {L M:List Pc} (h:PSpec hist known k a L) (h' :PSpec hist known k a M):L=M:=by
 rcases Decidable.em (pieRE hist known k a=0) with e|e
 · exact(h.1 e).one (h'.1 e) fun _=>rfl
 · rw[h.2 e,h'.2 e]
theorem pieRE_0 {k:KeyP} {a:Int} (h:pieRE hist known k a=0):askR hist.length known a=0/\keyB k=true:=by
 unfold pieRE at h
 rcases Decidable.em (askR hist.length known a=0) with e|e
 · rw [if_neg (by rw[e];decide)] at h
   cases hb:keyB k with
   | true=>exact⟨e,rfl⟩
   | false=>rw[hb] at h;exact absurd h (by decide)
 · rw[if_pos e] at h;exact absurd h e
theorem pcsAt_nil (w:World):PcsAt w none []:=fun j p h=>by cases h
theorem ppieces_same (h:PastIs w pb po R hist s g) (hk:s.gone=known) (k:KeyP) (a:Int) (hs:k.word.size<=maxLen):
  Calls Tryz.prog 139 #[.pointer (some ⟨pb,po,none⟩),.agg #[.int .i64 k.kind,.int .i64 k.a,.string k.word,.int .i64 k.b],.int .i64 a] w fun e w' => ∃(ao:Option Addr) (cap:Nat) (L:List Pc),e= .returned (.tuple #[.slice ao L.length cap,errN (pieRE hist known k a)])/\PSpec hist known k a L/\PcsAt w' ao L/\Below w.heap.size w w' :=by
 have ha:=askE_R h hk a
 have hE:pieE s k a=pieRE hist known k a:=by unfold pieE pieRE;rw[ha]
 rcases Decidable.em (pieRE hist known k a=0) with e|e
 · obtain⟨e1,e2⟩:=pieRE_0 e
   obtain⟨q1,q2,q3⟩:=askR_0 e1
   obtain⟨n,rfl⟩: ∃n:Nat,a=n:=⟨a.toNat,by omega⟩
   refine(pieces_is k n pb po R hist s g w h e2 (by rw[hk];exact q3) (by omega)).mono ?_
   rintro e1 w' ⟨v,L,rfl,hp,_,hl,hown,hb⟩
   obtain⟨ao,cap,rfl,hat⟩:=ownsRow_pcs hown
   exact⟨ao,cap,L,by rw[e];rfl,⟨fun _=>hp,fun h=>absurd e h⟩,hat,hb⟩
 · refine(pPieces_bad k a pb po R s g w h.at' hs (by rw[hE];exact e)).mono ?_
   rintro e1 w' ⟨rfl,hb⟩
   exact⟨none,0,[],by rw[hE,errN_of e];rfl,⟨fun h=>absurd h e,fun _=>rfl⟩,pcsAt_nil _,hb⟩
def ESpec (hist:List (List OpP)) (known:Int) (k:KeyP) (a b f t:Int) (L:List ByteArray):Prop:=(everRE hist known k a b f t=0->EversIs hist k a.toNat b.toNat f t L)/\(everRE hist known k a b f t≠0->L= [])
theorem ESpec.one {k:KeyP} {a b f t:Int} {L M:List ByteArray} (h:ESpec hist known k a b f t L) (h' :ESpec hist known k a b f t M):L=M:=by
 rcases Decidable.em (everRE hist known k a b f t=0) with e|e
 · exact(h.1 e).one (h'.1 e) fun _=>Iff.rfl
 · rw[h.2 e,h'.2 e]
theorem everRE_0 {k:KeyP} {a b f t:Int} (h:everRE hist known k a b f t=0):askR hist.length known a=0/\askR hist.length known b=0/\a<=b/\keyB k=true/\rightB f t=true:=by
 unfold everRE at h
 rcases Decidable.em (askR hist.length known a=0) with e|e
 · rw [if_neg (by rw[e];decide)] at h
   rcases Decidable.em (askR hist.length known b=0) with e2|e2
   · rw [if_neg (by rw[e2];decide)] at h
     rcases Decidable.em (b<a) with e3|e3
     · rw[if_pos e3] at h;exact absurd h (by decide)
     · rw [if_neg e3] at h
       cases hb:keyB k && rightB f t with
       | true=>rw[Bool.and_eq_true] at hb;exact⟨e,e2,by omega,hb.1,hb.2⟩
       | false=>rw[hb] at h;exact absurd h (by decide)
   · rw[if_pos e2] at h;exact absurd h e2
 · rw[if_pos e] at h;exact absurd h e
theorem textsIn_nil (w:World):TextsIn w none []:=fun j p h=>by cases h
theorem pever_same (h:PastIs w pb po R hist s g) (hk:s.gone=known) (k:KeyP) (a b f t:Int) (hs:k.word.size<=maxLen):
  Calls Tryz.prog 130 #[.pointer (some ⟨pb,po,none⟩),.agg #[.int .i64 k.kind,.int .i64 k.a,.string k.word,.int .i64 k.b],.int .i64 a,.int .i64 b,.agg #[.int .i64 f,.int .i64 t]] w fun e w' => ∃(ao:Option Addr) (cap:Nat) (L:List ByteArray),e= .returned (.tuple #[.slice ao L.length cap,errN (everRE hist known k a b f t)])/\ESpec hist known k a b f t L/\TextsIn w' ao L/\Below w.heap.size w w' :=by
 have ha:=askE_R h hk a
 have hb:=askE_R h hk b
 have hE:everE s k a b f t=everRE hist known k a b f t:=by unfold everE everRE;rw[ha,hb]
 rcases Decidable.em (everRE hist known k a b f t=0) with e|e
 · obtain⟨e1,e2,e3,e4,e5⟩:=everRE_0 e
   obtain⟨q1,q2,q3⟩:=askR_0 e1
   obtain⟨r1,r2,r3⟩:=askR_0 e2
   obtain⟨n,rfl⟩: ∃n:Nat,a=n:=⟨a.toNat,by omega⟩
   obtain⟨m,rfl⟩: ∃m:Nat,b=m:=⟨b.toNat,by omega⟩
   refine(ever_is k n m f t pb po R hist s g w h e4 e5 (by rw[hk];exact q3) (by omega) (by omega)).mono ?_
   rintro e1 w' ⟨v,L,rfl,hp,hown,hb⟩
   obtain⟨ao,cap,rfl,hat⟩:=ownsRow_textsIn hown
   exact⟨ao,cap,L,by rw[e];rfl,⟨fun _=>hp,fun h=>absurd e h⟩,hat,hb⟩
 · refine(pever_bad k a b f t pb po R s g w h.at' hs (by rw[hE];exact e)).mono ?_
   rintro e1 w' ⟨rfl,hb⟩
   exact⟨none,0,[],by rw[hE,errN_of e];rfl,⟨fun h=>absurd h e,fun _=>rfl⟩,textsIn_nil _,hb⟩
def KSpec (hist:List (List OpP)) (known:Int) (a t:Int) (L:List KeyP):Prop:=(keyRE hist known a t=0->KeysIs hist a.toNat t L)/\(keyRE hist known a t≠0->L= [])
theorem KSpec.one {a t:Int} {L M:List KeyP} (h:KSpec hist known a t L) (h' :KSpec hist known a t M):L=M:=by
 rcases Decidable.em (keyRE hist known a t=0) with e|e
 · exact(h.1 e).one (h'.1 e) fun _=>rfl
 · rw[h.2 e,h'.2 e]
theorem keysIn_nil (w:World):KeysIn w none []:=fun j p h=>by cases h
theorem pkeys_same (h:PastIs w pb po R hist s g) (hok: ∀l∈hist,okL l=true) (hk:s.gone=known) (a t:Int):
  Calls Tryz.prog 117 #[.pointer (some ⟨pb,po,none⟩),.int .i64 a,.int .i64 t] w fun e w' => ∃(ao:Option Addr) (cap:Nat) (L:List KeyP),e= .returned (.tuple #[.slice ao L.length cap,errN (keyRE hist known a t)])/\KSpec hist known a t L/\KeysIn w' ao L/\Below w.heap.size w w' :=by
 have ha:=askE_R h hk a
 have hE:keyE s a t=keyRE hist known a t:=by unfold keyE keyRE;rw[ha]
 rcases Decidable.em (keyRE hist known a t=0) with e|e
 · obtain⟨e1,e2⟩:=keyRE_0 e
   obtain⟨q1,q2,q3⟩:=askR_0 e1
   obtain⟨n,rfl⟩: ∃n:Nat,a=n:=⟨a.toNat,by omega⟩
   refine(keys_is n t pb po R hist s g w h (fun l hl=>(okL_iff.1 (hok l hl)).2) e2 (by rw[hk];exact q3) (by omega)).mono ?_
   rintro e1 w' ⟨v,L,rfl,hp,_,hl,hown,hb⟩
   obtain⟨ao,cap,rfl,hat⟩:=ownsRow_keysIn hown
   exact⟨ao,cap,L,by rw[e];rfl,⟨fun _=>hp,fun h=>absurd e h⟩,hat,hb⟩
 · refine(pkeys_bad a t pb po R s g w h.at' (by rw[hE];exact e)).mono ?_
   rintro e1 w' ⟨rfl,rfl⟩
   exact⟨none,0,[],by rw[hE,errN_of e];rfl,⟨fun h=>absurd h e,fun _=>rfl⟩,keysIn_nil _,Below.refl _ _⟩
end
end Go.Proofs.YtpgkjnebklknjaaGreatDoor
