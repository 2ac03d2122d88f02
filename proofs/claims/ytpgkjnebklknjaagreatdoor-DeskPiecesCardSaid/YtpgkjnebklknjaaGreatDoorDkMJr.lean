/-Plain law:what a command says by its words. -/
import Derived.Lib.ParseIntBTie
import Derived.Deep.RegionHeld3
import Derived.Deep.RegionWith
import Derived.Test.YtpgkjnebklknjaaGreatDoorFcRJr
import Derived.Test.YtpgkjnebklknjaaGreatDoorDkOJr
import Derived.Test.YtpgkjnebklknjaaGreatDoorWkIJr
import Derived.Test.YtpgkjnebklknjaaGreatDoorErrCJr
import Derived.Test.YtpgkjnebklknjaaGreatDoorFcLJr
import Derived.Test.YtpgkjnebklknjaaGreatDoorBaGJr
import Derived.Test.YtpgkjnebklknjaaGreatDoorFcGJr
import Derived.Test.YtpgkjnebklknjaaGreatDoorDag4Jr
import Derived.Test.YtpgkjnebklknjaaGreatDoorDkNJr
namespace Go.Proofs.YtpgkjnebklknjaaGreatDoor
open Go.RowKit Go.Shelf
theorem atoi_bounds {l:List UInt8} {v:Int} (h:Lib.atoiAll l= .ok v): -9223372036854775808<=v/\v<=9223372036854775807:=by
 unfold Lib.atoiAll at h
 split at h
 · cases h
 · simp only at h
   split at h
   · cases h
   · cases h
   · split at h
     · cases h
     · split at h
       · cases h
       · rename_i u _ h1 h2
         simp only[Lib.NumEnd.ok.injEq] at h
         subst h
         split
         · rename_i hn
           have: ¬9223372036854775808<u:=fun e=>h2 ⟨hn,e⟩
           omega
         · rename_i hn
           have: ¬9223372036854775808<=u:=fun e=>h1 ⟨hn,e⟩
           omega
open Go.RowKit Go.Shelf Go.Maps
def wrongP (n:Int):List PanicEntry:= [{ v:= .iface 69 (.agg #[.int .i64 n]),recovered:=false }]
theorem must_nil (w:World):Calls Tryz.prog 19 #[.nilIface] w fun e w' =>e= .returned (.tuple #[])/\w=w' :=by
 go_enter Tryz.func19,Tryz.ntmps19
 go_wp2_with fail
 exact bodyPost_end (results_none rfl _ _ _) rfl ⟨rfl,rfl⟩
theorem must_bad (v:Value) (n p:Int) (w:World) (hg:ErrVar w) (h:ErrIs w v n p) (hv:v≠ .nilIface):Calls Tryz.prog 19 #[v] w fun e w' =>e= .panicked (wrongP n)/\Below w.heap.size w w' :=by
 have HT:=Lib.hid (tell_any v n p w hg h)
 rcases h with ⟨rfl,_⟩|⟨rfl,_⟩|⟨b,rfl,_⟩
 · exact absurd rfl hv
 · clear hv
   go_enter Tryz.func19,Tryz.ntmps19
   go_wp2_with (go_at_call 54;(with_reducible refine HT.out.mono ?_);rintro e w1 ⟨rfl,hb⟩)
   exact⟨rfl,rfl,hb⟩
 · clear hv
   go_enter Tryz.func19,Tryz.ntmps19
   go_wp2_with (go_at_call 54;(with_reducible refine HT.out.mono ?_);rintro e w1 ⟨rfl,hb⟩)
   exact⟨rfl,rfl,hb⟩
theorem must_errno (n:Int) (w:World) (hg:ErrVar w):Calls Tryz.prog 19 #[.iface 56 (.int .i64 n)] w fun e w' =>e= .panicked (wrongP n)/\Below w.heap.size w w' :=
 must_bad _ n (-1) w hg (.inr (.inl ⟨rfl,rfl⟩)) (fun e=>by cases e)
theorem dwords_ok (ao:Option Addr) (c k:Nat) (n:Int) (w:World) (h:(k:Int)=n):
  Calls Tryz.prog 17 #[.slice ao k c,.int .i64 n] w fun e w' =>e= .returned (.tuple #[])/\w=w' :=by
 have hn:((k:Int) !=n)=false:=by simp[h]
 clear h
 go_enter Tryz.func17,Tryz.ntmps17
 go_wp2_with fail
 exact bodyPost_end (results_none rfl _ _ _) rfl ⟨rfl,rfl⟩
theorem dwords_bad (ao:Option Addr) (c k:Nat) (n:Int) (w:World) (h:(k:Int)≠n) (hg:ErrVar w):
  Calls Tryz.prog 17 #[.slice ao k c,.int .i64 n] w fun e w' =>e= .panicked (wrongP 3)/\Below w.heap.size w w' :=by
 have hn:((k:Int) !=n)=true:=by simp[h]
 have HM:=Lib.hid (must_errno 3 w hg)
 clear h hg
 go_enter Tryz.func17,Tryz.ntmps17
 go_wp2_with (go_at_call 19;(with_reducible refine HM.out.mono ?_);rintro e w1 ⟨rfl,hb⟩)
 exact⟨rfl,rfl,hb⟩
theorem ddash_any (s:ByteArray) (w:World):Calls Tryz.prog 141 #[.string s] w fun e w' =>e= .returned (.string ⟨(dashL s).toArray⟩)/\w' =w:=by
 by_cases h:s.size=0
 · have h1:=empty_true h
   rw[dash_yes h]
   go_enter Tryz.func141,Tryz.ntmps141
   go_wp2
   go_ret
   exact⟨rfl,rfl⟩
 · have h1:=empty_false h
   rw[dash_no h]
   go_enter Tryz.func141,Tryz.ntmps141
   go_wp2
   go_ret
   exact⟨rfl,rfl⟩
theorem dplain_any (s:ByteArray) (w:World):Calls Tryz.prog 133 #[.string s] w fun e w' =>e= .returned (.string (plainB s))/\w' =w:=by
 unfold plainB
 by_cases h:s.data.toList= [45]
 · have h1:(s.toList== [45])=true:=by rw[ByteArray.toList_eq,h];rfl
   rw[undash_yes h]
   go_enter Tryz.func133,Tryz.ntmps133
   go_wp2
   go_ret
   exact⟨rfl,rfl⟩
 · have h1:(s.toList== [45])=false:=by rw[ByteArray.toList_eq];simpa using h
   rw[undash_no h]
   go_enter Tryz.func133,Tryz.ntmps133
   go_wp2
   go_ret
   exact⟨rfl,rfl⟩
theorem num_of {s:ByteArray} {v:Int} (h:num? s.data.toList=some v):numB s=if Lib.itoa v=s.data.toList then some v else none:=by
 unfold num? at h
 unfold numB
 split at h
 · rename_i n e
   cases h
   rw[e]
 · cases h
theorem num_no {s:ByteArray} (h:num? s.data.toList=none):numB s=none:=by
 unfold num? at h
 unfold numB
 split at h
 · cases h
 · rename_i hn
   split
   · rename_i n e
     exact absurd e (hn n)
   · rfl
theorem num_i64 {s:ByteArray} {v:Int} (h:num? s.data.toList=some v):i64 v:=by
 unfold num? at h
 split at h
 · rename_i n e
   cases h
   exact atoi_bounds e
 · cases h
theorem numB_i64 {s:ByteArray} {v:Int} (h:numB s=some v):i64 v:=by
 cases e:num? s.data.toList with
 | none=>rw[num_no e] at h;cases h
 | some u=>
   rw[num_of e] at h
   split at h
   · cases h;exact num_i64 e
   · cases h
def NumOut (o:Option Int) (w:World) (e:Ending) (w' :World):Prop:=(match o with|some n=>e= .returned (.int .i64 n)|none=>e= .panicked (wrongP 3))/\Below w.heap.size w w'
set_option maxRecDepth 100000 in
set_option maxHeartbeats 2000000 in
theorem dnumber_any (s:ByteArray) (w:World) (hs:s.size<=100000) (ht:PowTab w) (hv:NumVars w) (hg:ErrVar w):Calls Tryz.prog 116 #[.string s] w (NumOut (numB s) w):=by
 have HA:=Lib.hid (atoi_any s w hs hv)
 have HT:=Lib.hid ht
 have HG:=Lib.hid hg
 cases hn:num? s.data.toList with
 | none=>
   rw[num_no hn]
   have HN:=Lib.hid hn
   clear hn ht hg hs hv
   go_enter Tryz.func116,Tryz.ntmps116
   go_wp2_with fail
   refine HA.out.mono ?_
   rintro e w1 ⟨⟨v,err,rfl,h⟩,b1⟩
   rcases h with ⟨h,_⟩|⟨_,t,p,rfl⟩
   · rw[HN.out] at h;cases h
   · have HM:=Lib.hid (must_errno 3 w1 (HG.out.below b1))
     have HB:=Lib.hid b1
     clear b1
     go_wp2_with (go_at_call 19;(with_reducible refine HM.out.mono ?_);rintro e w2 ⟨rfl,hb⟩)
     exact⟨rfl,rfl,HB.out.trans (hb.mono HB.out.size)⟩
 | some v=>
   rw[num_of hn]
   have hv64:=num_i64 hn
   have HN:=Lib.hid hn
   by_cases he:Lib.itoa v=s.data.toList
   · rw [if_pos he]
     have hne:(!Lib.itoa v==s.toList)=false:=by rw[ByteArray.toList_eq,he];simp
     clear hn ht hg hs hv he
     go_enter Tryz.func116,Tryz.ntmps116
     go_wp2_with fail
     refine HA.out.mono ?_
     rintro e w1 ⟨⟨v',err,rfl,h⟩,b1⟩
     rcases h with ⟨h,rfl⟩|⟨h,_⟩
     · rw [HN.out] at h
       injection h with h
       subst h
       have HI:=Lib.hid (itoa_any v hv64 w1 (HT.out.below b1))
       have HB:=Lib.hid b1
       clear b1 hv64
       go_wp2_with (go_at_call 25;(with_reducible refine HI.out.mono ?_);rintro e w2 ⟨rfl,hb⟩)
       go_ret
       exact⟨rfl,HB.out.trans (hb.mono HB.out.size)⟩
     · rw[HN.out] at h;cases h
   · rw [if_neg he]
     have hne:(!Lib.itoa v==s.toList)=true:=by rw[ByteArray.toList_eq];simpa using he
     clear hn ht hg hs hv he
     go_enter Tryz.func116,Tryz.ntmps116
     go_wp2_with fail
     refine HA.out.mono ?_
     rintro e w1 ⟨⟨v',err,rfl,h⟩,b1⟩
     rcases h with ⟨h,rfl⟩|⟨h,_⟩
     · rw [HN.out] at h
       injection h with h
       subst h
       have HI:=Lib.hid (itoa_any v hv64 w1 (HT.out.below b1))
       have HM:=Lib.hid fun(X:World) (hX:Below w1.heap.size w1 X)=>must_errno 3 X ((HG.out.below b1).below hX)
       have HB:=Lib.hid b1
       clear b1 hv64
       go_wp2_with (first
        | (go_at_call 25;(with_reducible refine HI.out.mono ?_);rintro e w2 ⟨rfl,hb⟩)
        | (go_at_call 19;(with_reducible refine(HM.out _ hb).mono ?_);rintro e w3 ⟨rfl,hb3⟩))
       exact⟨rfl,rfl,HB.out.trans ((hb.trans (hb3.mono hb.size)).mono HB.out.size)⟩
     · rw[HN.out] at h;cases h
def numsL:List ByteArray->Option (List Int)
 | []=>some []
 | x::l=>(numB x).bind fun n=>(numsL l).map fun q=>n::q
theorem numsL_snoc: ∀(l:List ByteArray) (x:ByteArray),numsL (l++ [x])=(numsL l).bind fun q=>(numB x).map fun n=>q++ [n]
 | [], x=>by
   show((numB x).bind fun n=>(numsL []).map fun q=>n::q)=_
   cases numB x<;>rfl
 | y ::l,x=>by
   show((numB y).bind fun n=>(numsL (l++ [x])).map fun q=>n::q)=((numB y).bind fun n=>(numsL l).map fun q=>n::q).bind _
   rw[numsL_snoc l x]
   cases numB y with
   | none=>rfl
   | some n=>
     cases numsL l with
     | none=>rfl
     | some q=>cases numB x<;>rfl
theorem numsL_len: ∀ {l:List ByteArray} {q:List Int},numsL l=some q->q.length=l.length
 | [],q,h=>by cases h;rfl
 | x ::l,q,h=>by
   unfold numsL at h
   cases hx:numB x with
   | none=>rw[hx] at h;cases h
   | some n=>
     rw[hx] at h
     cases hl:numsL l with
     | none=>rw[hl] at h;cases h
     | some r=>
       rw[hl] at h
       cases h
       rw[List.length_cons,List.length_cons,numsL_len hl]
theorem numsL_none {l:List ByteArray} {x:ByteArray} {r:List ByteArray} (h:numB x=none):numsL (l++x::r)=none:=by
 induction l with
 | nil=>show((numB x).bind _)=none;rw[h];rfl
 | cons y l ih=>
   show((numB y).bind fun n=>(numsL (l++x::r)).map fun q=>n::q)=none
   rw[ih]
   cases numB y<;>rfl
theorem numsL_i64: ∀ {l:List ByteArray} {q:List Int},numsL l=some q-> ∀n∈q,i64 n
 | [],q,h=>by cases h;intro n hn;cases hn
 | x ::l,q,h=>by
   unfold numsL at h
   cases hx:numB x with
   | none=>rw[hx] at h;cases h
   | some n=>
     rw[hx] at h
     cases hl:numsL l with
     | none=>rw[hl] at h;cases h
     | some r=>
       rw[hl] at h
       cases h
       intro m hm
       rcases List.mem_cons.1 hm with rfl|hm
       · exact numB_i64 hx
       · exact numsL_i64 hl m hm
theorem textsAt_get {w:World} {ao:Option Addr} {l:List ByteArray} (h:textsAt w ao l) {k:Nat} (hk:k<l.length): ∃b o x,Hid (l[k]? =some x)/\ao=some ⟨b,o,none⟩/\w.cell? ⟨b,o+k,none⟩=some (.string x):=by
 obtain⟨x,hx⟩: ∃x,l[k]? =some x:=⟨_,List.getElem?_eq_getElem hk⟩
 obtain⟨b,o,h1,h2⟩:=h k x hx
 exact⟨b,o,x,Lib.hid hx,h1,h2⟩
def NumsOut (o:Option (List Int)) (w:World) (e:Ending) (w' :World):Prop:=(match o with|some q=> ∃v,e= .returned v/\w'.ownsRow w.heap.size 3 1 v q.length (q.map (Value.int .i64))|none=>e= .panicked (wrongP 3))/\Below w.heap.size w w'
set_option maxRecDepth 100000 in
set_option maxHeartbeats 2000000 in
theorem dnumbers_any (ao:Option Addr) (c:Nat) (l:List ByteArray) (w:World) (hl:textsAt w ao l) (hs: ∀x∈l,x.size<=100000) (hn:l.length<=100000) (ht:PowTab w) (hv:NumVars w) (hg:ErrVar w):
  Calls Tryz.prog 55 #[.slice ao l.length c] w (NumsOut (numsL l) w):=by
 have HT:=Lib.hid ht
 have HV:=Lib.hid hv
 have HG:=Lib.hid hg
 have HL:=Lib.hid hl
 have HS:=Lib.hid hs
 clear ht hv hg hl hs
 go_enter Tryz.func55,Tryz.ntmps55
 go_wp2_with fail
 go_loopw [3,8] (fun v i wr=> ∃(k:Nat) (q:List Int),k<=l.length/\i= .int .i64 k/\Hid (numsL (l.take k)=some q)/\wr.ownsRow w.heap.size 3 1 v q.length (q.map (Value.int .i64))/\Below w.heap.size w wr) (fun _ i _=>l.length-(intOf i).toNat)
 case atStart=>exact⟨0,[],by omega,rfl,Lib.hid rfl,World.ownsRow_nil _ _ _ _,Below.refl _ _⟩
 case round=>
  obtain⟨k,q,hk,rfl,hq,hown,hB⟩:=hrel
  by_cases hlt:k<l.length
  · obtain⟨b,o,x,g1,rfl,c1⟩:=textsAt_get HL.out hlt
    have hb:b<w.heap.size:=World.block_lt_of_cell? w _ c1
    have c1:=(hB.cell (p:=⟨b,o+k,none⟩) hb).trans c1
    have hx:=HS.out x (List.mem_of_getElem? g1.out)
    have hql:q.length<=k:=by have:=numsL_len hq.out;rw[List.length_take] at this;omega
    have HN:=dnumber_any x wr hx (HT.out.below hB) (HV.out.below hB) (HG.out.below hB)
    have hst:numsL (l.take (k+1))=(numB x).map fun n=>q++ [n]:=by rw[List.take_add_one,g1.out];show numsL (l.take k++ [x])=_;rw[numsL_snoc,hq.out];rfl
    have HST:=Lib.hid hst
    have HB:=Lib.hid hB
    have HO:=Lib.hid hown
    have hsz:=hB.size
    have i0:(0:Int)<=(k:Int):=by omega
    have i1:(k:Int)<(l.length:Int):=by omega
    clear hx hB hown hst
    cases hnx:numB x with
    | none=>
      rw[hnx] at HN
      have hno:numsL l=none:=by
       have e:l=l.take k++x::l.drop (k+1):=by
        have h1:=(List.take_append_drop k l).symm
        rw[List.drop_eq_getElem_cons hlt] at h1
        rw[List.getElem?_eq_getElem hlt] at g1
        have h2:=g1.out
        injection h2 with h2
        rw[h2] at h1
        exact h1
       rw[e];exact numsL_none hnx
      have HNO:=Lib.hid hno
      have HN:=Lib.hid HN
      clear hnx hno
      go_wp2_with (go_at_call 116;(with_reducible refine HN.out.mono ?_);rintro e w1 ⟨rfl,b1⟩)
      refine⟨rfl,?_⟩
      rw[HNO.out]
      exact⟨rfl,HB.out.trans (b1.mono hsz)⟩
    | some n=>
      rw[hnx] at HN HST
      have HN:=Lib.hid HN
      clear hnx
      go_wp2_with (first
       | (go_at_call 116;(with_reducible refine HN.out.mono ?_);rintro e w1 ⟨rfl,b1⟩;have HB1:=Lib.hid (HB.out.trans (b1.mono hsz));have HO1:=Lib.hid (ownsRow_below HO.out b1);have hs1:=HB1.out.size;clear b1)
       | (at_builtin;refine appInt rfl _ _ rfl w.heap.size _ q rfl (HO1.out.alloc _) w1.heap.size n rfl (by simp) (by omega) (by simp;omega) w (HB1.out.alloc hs1 _) ?_;intro v' w2 hown2 hB2 hs2 hg2))
      exact⟨⟨k+1,q++ [n],by omega,by go_num,Lib.hid HST.out,hown2,hB2⟩,by simp[intOf];omega⟩
  · have he:l.take k=l:=List.take_of_length_le (by omega)
    rw[he] at hq
    have HO:=Lib.hid hown
    have HB:=Lib.hid hB
    clear he hown hB
    go_wp2_with fail
    go_ret
    refine⟨?_,HB.out⟩
    rw[hq.out]
    exact⟨_,rfl,HO.out⟩
set_option maxHeartbeats 1000000 in
theorem djoin_any (ao:Option Addr) (c:Nat) (l:List Int) (w:World) (hl:intsAt w ao l) (hwf: ∀x∈l,i64B x) (hn:l.length<=4294967296) (ht:PowTab w):
  Calls Tryz.prog 134 #[.slice ao l.length c] w fun e w' =>e= .returned (.string ⟨(wordsT l).toArray⟩)/\Below w.heap.size w w' :=by
 have HT:=Lib.hid ht
 have HL:=Lib.hid hl
 have HF:=Lib.hid hwf
 clear ht hl hwf
 go_enter Tryz.func134,Tryz.ntmps134
 go_wp2
 go_loopw [3,8] (fun v i wr=> ∃k:Nat,k<=l.length/\i= .int .i64 k/\wr.ownsRow w.heap.size 9 1 v (numsB (l.take k)).length ((numsB (l.take k)).map Value.string)/\Below w.heap.size w wr) (fun _ i _=>l.length-(intOf i).toNat)
 case atStart=>exact⟨0,by omega,rfl,World.ownsRow_nil _ _ _ _,Below.refl _ _⟩
 case round=>
  obtain⟨k,hk,rfl,hown,hB⟩:=hrel
  by_cases hlt:k<l.length
  · obtain⟨b,o,x,g1,rfl,c1⟩:=intsAt_get HL.out hlt
    have hb:b<w.heap.size:=World.block_lt_of_cell? w _ c1
    have c1:=(hB.cell (p:=⟨b,o+k,none⟩) hb).trans c1
    have hx:i64B x:=HF.out x (List.mem_of_getElem? g1.out)
    have hsn:=Lib.hid (numsB_snoc l k x g1.out)
    have hle:(numsB (l.take k)).length<=k:=by rw[numsB_length];exact List.length_take_le _ _
    generalize hM:numsB (l.take k)=M at*
    have HM:=Lib.hid hM
    clear hM
    have hT1:=HT.out.below hB
    have HX:=Lib.hid hx
    have HB:=Lib.hid hB
    have HO:=Lib.hid hown
    have hsz:=hB.size
    clear hx hB hown
    go_wp2_with (first|(go_at_call 25;refine(itoa_any x HX.out _ hT1).mono ?_;rintro e w1 ⟨rfl,hb1⟩;have HB1:=Lib.hid (below_trans HB.out HB.out.size hb1);have HO1:=Lib.hid (ownsRow_below HO.out hb1);have hs1:=hb1.size;clear hb1)|(at_builtin;refine appText rfl _ _ rfl w.heap.size _ M rfl (HO1.out.alloc _) w1.heap.size ⟨(Lib.itoa x).toArray⟩ rfl (by simp) (by omega) (by simp;omega) w (HB1.out.alloc HB1.out.size _) ?_;intro v' w2 hown2 hB2 hs2 hg2))
    exact⟨⟨k+1,by omega,by go_num,by rw[hsn.out];exact hown2,hB2⟩,by simp[intOf];omega⟩
  · have he:l.take k=l:=List.take_of_length_le (by omega)
    rw[he] at hown
    clear he
    obtain⟨ao',cap,rfl,ht1,hcap,_⟩:=ownsRow_texts hown
    have hJ:=join_any ao' cap (numsB l) ⟨#[32]⟩ wr ht1 hcap (by rw[numsB_length];omega) (by
     have:=wordsT_len l HF.out
     rw[numsB_data];unfold wordsT at this;simp only at this ⊢;omega)
    rw[numsB_data] at hJ
    have HJ:=Lib.hid hJ
    have HB:=Lib.hid hB
    clear hJ hown ht1 hB
    go_wp2_with (go_at_call 31;refine HJ.out.mono ?_;rintro e w1 ⟨rfl,hb1⟩)
    go_ret
    exact⟨rfl,below_trans HB.out HB.out.size hb1⟩
open Go.RowKit Go.Deep Go.Shelf Go.Sort Go.Maps
section
variable {w0 X Y:World} {db qb rb bb:Nat} {cut:Bool} {left left' :Int} {log log' :List Ent} {down down' :Bool} {hist hist' :List (List OpP)} {known known' :Nat} {g g' :Gh}
end
section
variable {w0 X Y:World} {db qb rb bb:Nat} {cut:Bool} {left:Int} {down off:Bool} {lq:Int} {down0:Bool} {log:List Ent} {hist:List (List OpP)} {known:Nat} {g:Gh}
end
end Go.Proofs.YtpgkjnebklknjaaGreatDoor
namespace Go.Proofs.YtpgkjnebklknjaaGreatDoor
open Go.RowKit Go.Deep Go.Shelf Go.Sort Go.Maps
set_option maxRecDepth 100000 in
theorem dkeyText_any (k a b:Int) (s:ByteArray) (w:World) (hk:i64B k) (ha:i64B a) (hb:i64B b) (hs:s.size<=100000) (ht:PowTab w):
  Calls Tryz.prog 185 #[.agg #[.int .i64 k,.int .i64 a,.string s,.int .i64 b]] w fun e w' =>e= .returned (.string ⟨(Lib.join [Lib.itoa k,Lib.itoa a,dashL s,Lib.itoa b] [32]).toArray⟩)/\Below w.heap.size w w' :=by
 obtain⟨W,hW⟩: ∃W,W=w.alloc (.cells #[.int .i64 k,.int .i64 a,.string s,.int .i64 b] 97):=⟨_,rfl⟩
 have bA:Below w.heap.size w W:=by rw[hW];exact(Below.refl _ w).alloc (Nat.le_refl _) _
 obtain⟨kb,hkb⟩: ∃kb,kb=w.heap.size:=⟨_,rfl⟩
 have hkW:kb<W.heap.size:=by rw[hkb,hW];simp
 have c0:W.cell? ⟨kb,0,none⟩=some (.int .i64 k):=by rw[hkb,hW];simp
 have c1:W.cell? ⟨kb,1,none⟩=some (.int .i64 a):=by rw[hkb,hW];simp
 have c2:W.cell? ⟨kb,2,none⟩=some (.string s):=by rw[hkb,hW];simp
 have c3:W.cell? ⟨kb,3,none⟩=some (.int .i64 b):=by rw[hkb,hW];simp
 have tW:=ht.below bA
 have HW:=Lib.hid hW
 have HK:=Lib.hid hkb
 clear hW hkb
 have hw1: ∀x∈ [k,a],i64B x:=by simp[hk,ha]
 have hw2: ∀x∈ [b],i64B x:=by simp[hb]
 have l1:=wordsT_len [k,a] hw1
 have l2:=wordsT_len [b] hw2
 have l3:=dashL_len s
 simp only[List.length_cons,List.length_nil] at l1 l2
 go_enter Tryz.func185,Tryz.ntmps185
 go_wp2_with fail
 rw[<-HW.out, <-HK.out]
 refine wp_region_dag_at 3 17 _ (fun V=>Below W.heap.size W V) (fun V V' =>Below V.heap.size V V') (ktφ kb k a b s) rfl (by kernel_rfl) (by kernel_rfl) ?_ rfl (Below.refl _ _).drew ?_ ?_
 · exact fun i V V' v _ _ hb h=>ktφ_mono _ _ _ _ _ i V V' v hb h
 · simp only[List.take_succ_cons,List.take_zero,DagSteps,and_true]
   refine⟨?_,?_,?_,?_,?_,?_,?_,?_,?_,?_,?_,?_,?_,?_,?_,?_,?_⟩
   · intro A V K hC hP hd hK
     have p1:A.tmps[1]?.getD undef= .pointer (some ⟨kb,0,none⟩):=evalT (hP 1 (of_decide_eq_true rfl))
     clear hP hd
     unfold Oper.wp
     go_simp
     exact hK _ _ hC (Below.refl _ _) rfl
   · intro A V K hC hP hd hK
     have e0:A.tmps[3]?.getD undef= .pointer (some ⟨kb,0,none⟩):=evalT (ktφ_0 _ _ _ _ _ _ _ (hd 0 (by kernel_rfl)))
     have d0:=below_cell hC hkW c0
     clear hP hd
     unfold Oper.wp
     go_simp
     exact hK _ _ hC (Below.refl _ _) rfl
   · intro A V K hC hP hd hK
     have p1:A.tmps[1]?.getD undef= .pointer (some ⟨kb,0,none⟩):=evalT (hP 1 (of_decide_eq_true rfl))
     clear hP hd
     unfold Oper.wp
     go_simp
     exact hK _ _ hC (Below.refl _ _) rfl
   · intro A V K hC hP hd hK
     have e2:A.tmps[5]?.getD undef= .pointer (some ⟨kb,1,none⟩):=evalT (ktφ_2 _ _ _ _ _ _ _ (hd 2 (by kernel_rfl)))
     have d1:=below_cell hC hkW c1
     clear hP hd
     unfold Oper.wp
     go_simp
     exact hK _ _ hC (Below.refl _ _) rfl
   · intro A V K hC hP hd hK
     have e1:A.tmps[4]?.getD undef= .int .i64 k:=evalT (ktφ_1 _ _ _ _ _ _ _ (hd 1 (by kernel_rfl)))
     have e3:A.tmps[6]?.getD undef= .int .i64 a:=evalT (ktφ_3 _ _ _ _ _ _ _ (hd 3 (by kernel_rfl)))
     clear hP hd
     unfold Oper.wp
     go_simp
     exact hK _ _ (hC.alloc hC.size _) ((Below.refl _ _).alloc (Nat.le_refl _) _) ⟨_,rfl,intsAt_new _ [k,a] (by simp)⟩
   · intro A V K hC hP hd hK
     have h4:=hd 4 (by kernel_rfl)
     have h4:=ktφ_4 _ _ _ _ _ _ _ h4
     obtain⟨g,eg,hg⟩:=h4
     have e4:=evalT (t:=7) eg
     clear hP hd
     unfold Oper.wp
     go_simp
     refine(djoin_any _ 2 [k,a] V hg hw1 (by simp) (tW.below hC)).mono ?_
     rintro e w1 ⟨rfl,h1⟩
     exact hK _ _ (below_trans hC hC.size h1) h1 rfl
   · intro A V K hC hP hd hK
     have e5:A.tmps[8]?.getD undef= .string ⟨(wordsT [k,a]).toArray⟩:=evalT (ktφ_5 _ _ _ _ _ _ _ (hd 5 (by kernel_rfl)))
     clear hP hd
     unfold Oper.wp
     go_simp
     rw[if_neg (by omega)]
     exact hK _ _ hC (Below.refl _ _) rfl
   · intro A V K hC hP hd hK
     have p1:A.tmps[1]?.getD undef= .pointer (some ⟨kb,0,none⟩):=evalT (hP 1 (of_decide_eq_true rfl))
     clear hP hd
     unfold Oper.wp
     go_simp
     exact hK _ _ hC (Below.refl _ _) rfl
   · intro A V K hC hP hd hK
     have e7:A.tmps[10]?.getD undef= .pointer (some ⟨kb,2,none⟩):=evalT (ktφ_7 _ _ _ _ _ _ _ (hd 7 (by kernel_rfl)))
     have d2:=below_cell hC hkW c2
     clear hP hd
     unfold Oper.wp
     go_simp
     exact hK _ _ hC (Below.refl _ _) rfl
   · intro A V K hC hP hd hK
     have e8:A.tmps[11]?.getD undef= .string s:=evalT (ktφ_8 _ _ _ _ _ _ _ (hd 8 (by kernel_rfl)))
     clear hP hd
     unfold Oper.wp
     go_simp
     refine(ddash_any s V).mono ?_
     rintro e w1 ⟨rfl,rfl⟩
     exact hK _ _ hC (Below.refl _ _) rfl
   · intro A V K hC hP hd hK
     have e6:A.tmps[9]?.getD undef= .string (⟨(wordsT [k,a]).toArray⟩++⟨#[32]⟩):=evalT (ktφ_6 _ _ _ _ _ _ _ (hd 6 (by kernel_rfl)))
     have e9:A.tmps[12]?.getD undef= .string ⟨(dashL s).toArray⟩:=evalT (ktφ_9 _ _ _ _ _ _ _ (hd 9 (by kernel_rfl)))
     clear hP hd
     unfold Oper.wp
     go_simp
     rw[if_neg (by omega)]
     exact hK _ _ hC (Below.refl _ _) rfl
   · intro A V K hC hP hd hK
     have e10:A.tmps[13]?.getD undef= .string (⟨(wordsT [k,a]).toArray⟩++⟨#[32]⟩++⟨(dashL s).toArray⟩):=evalT (ktφ_10 _ _ _ _ _ _ _ (hd 10 (by kernel_rfl)))
     clear hP hd
     unfold Oper.wp
     go_simp
     rw[if_neg (by omega)]
     exact hK _ _ hC (Below.refl _ _) rfl
   · intro A V K hC hP hd hK
     have p1:A.tmps[1]?.getD undef= .pointer (some ⟨kb,0,none⟩):=evalT (hP 1 (of_decide_eq_true rfl))
     clear hP hd
     unfold Oper.wp
     go_simp
     exact hK _ _ hC (Below.refl _ _) rfl
   · intro A V K hC hP hd hK
     have e12:A.tmps[15]?.getD undef= .pointer (some ⟨kb,3,none⟩):=evalT (ktφ_12 _ _ _ _ _ _ _ (hd 12 (by kernel_rfl)))
     have d3:=below_cell hC hkW c3
     clear hP hd
     unfold Oper.wp
     go_simp
     exact hK _ _ hC (Below.refl _ _) rfl
   · intro A V K hC hP hd hK
     have e13:A.tmps[16]?.getD undef= .int .i64 b:=evalT (ktφ_13 _ _ _ _ _ _ _ (hd 13 (by kernel_rfl)))
     clear hP hd
     unfold Oper.wp
     go_simp
     exact hK _ _ (hC.alloc hC.size _) ((Below.refl _ _).alloc (Nat.le_refl _) _) ⟨_,rfl,intsAt_new _ [b] (by simp)⟩
   · intro A V K hC hP hd hK
     have h14:=hd 14 (by kernel_rfl)
     have h14:=ktφ_14 _ _ _ _ _ _ _ h14
     obtain⟨g,eg,hg⟩:=h14
     have e14:=evalT (t:=17) eg
     clear hP hd
     unfold Oper.wp
     go_simp
     refine(djoin_any _ 1 [b] V hg hw2 (by simp) (tW.below hC)).mono ?_
     rintro e w1 ⟨rfl,h1⟩
     exact hK _ _ (below_trans hC hC.size h1) h1 rfl
   · intro A V K hC hP hd hK
     have e11:A.tmps[14]?.getD undef= .string (⟨(wordsT [k,a]).toArray⟩++⟨#[32]⟩++⟨(dashL s).toArray⟩++⟨#[32]⟩):=evalT (ktφ_11 _ _ _ _ _ _ _ (hd 11 (by kernel_rfl)))
     have e15:A.tmps[18]?.getD undef= .string ⟨(wordsT [b]).toArray⟩:=evalT (ktφ_15 _ _ _ _ _ _ _ (hd 15 (by kernel_rfl)))
     clear hP hd
     unfold Oper.wp
     go_simp
     rw[if_neg (by omega)]
     exact hK _ _ hC (Below.refl _ _) rfl
 · intro X w1 hX hC hφ
   obtain⟨x0,x1,x2,x3,x4,x5,x6,x7,x8,x9,x10,x11,x12,x13,x14,x15,x16,rfl⟩:=ktφ_list hX
   have e16:=ktφ_16 _ _ _ _ _ _ _ (hφ 16 (of_decide_eq_true rfl))
   have e:x16= .string (⟨(wordsT [k,a]).toArray⟩++⟨#[32]⟩++⟨(dashL s).toArray⟩++⟨#[32]⟩++⟨(wordsT [b]).toArray⟩):=e16
   rw[e]
   clear e e16 hφ hX
   unfold Oper.wp
   go_simp
   rename_i hK
   refine hK _ _ ?_
   go_wp2
   go_ret
   exact⟨ret_str (bytes_ext (by simp[wordsT,Lib.join,List.intercalate,List.intersperse])),below_trans bA bA.size hC⟩
def keysTB (l:List KeyP):List ByteArray:=l.map fun k=>⟨(keyT k).toArray⟩
theorem keysTB_data (l:List KeyP):(keysTB l).map (·.data.toList)=l.map keyT:=by simp[keysTB]
theorem keysTB_length (l:List KeyP):(keysTB l).length=l.length:=by simp[keysTB]
theorem keysTB_snoc (l:List KeyP) (k:Nat) (x:KeyP) (h:l[k]? =some x):keysTB (l.take (k+1))=keysTB (l.take k)++ [⟨(keyT x).toArray⟩]:=by
 rw[List.take_add_one,h];simp[keysTB]
theorem keyT_len (k:KeyP) (h:KeyOk k) (hw:k.word.size<=100000):(keyT k).length<=500000:=by
 have h1:=Lib.itoa_length_le k.kind h.kind.1 h.kind.2
 have h2:=Lib.itoa_length_le k.a h.a.1 h.a.2
 have h3:=Lib.itoa_length_le k.b h.b.1 h.b.2
 have h4:=dashL_len k.word
 have :=join_len [32] 100001 [Lib.itoa k.kind,Lib.itoa k.a,dashL k.word,Lib.itoa k.b] (fun p hp=>by
  simp only[List.mem_cons,List.not_mem_nil,or_false] at hp
  rcases hp with rfl|rfl|rfl|rfl<;>omega)
 unfold keyT
 simp only[List.length_cons,List.length_nil] at this
 omega
set_option maxRecDepth 100000 in
set_option maxHeartbeats 4000000 in
theorem dkeysText_any (ao:Option Addr) (c:Nat) (l:List KeyP) (w:World) (hl:KeysIn w ao l) (hok: ∀k∈l,KeyOk k/\k.word.size<=100000) (hn:l.length<=100000) (ht:PowTab w):
  Calls Tryz.prog 127 #[.slice ao l.length c] w fun e w' =>e= .returned (.string ⟨(keysT l).toArray⟩)/\Below w.heap.size w w' :=by
 have HT:=Lib.hid ht
 have HL:=Lib.hid hl
 have HK:=Lib.hid hok
 clear ht hl hok
 go_enter Tryz.func127,Tryz.ntmps127
 go_wp2_with fail
 go_loopw [3,8] (fun v i wr=> ∃k:Nat,k<=l.length/\i= .int .i64 k/\wr.ownsRow w.heap.size 9 1 v (keysTB (l.take k)).length ((keysTB (l.take k)).map Value.string)/\Below w.heap.size w wr) (fun _ i _=>l.length-(intOf i).toNat)
 case atStart=>exact⟨0,by omega,rfl,World.ownsRow_nil _ _ _ _,Below.refl _ _⟩
 case round=>
  obtain⟨k,hk,rfl,hown,hB⟩:=hrel
  by_cases hlt:k<l.length
  · obtain⟨b,⟨qk,qa,qw,qb⟩,rfl,g1,hbw,d0,d1,d2,d3⟩:=keysIn_get HL.out hlt
    simp only[] at d0 d1 d2 d3
    replace d0:=below_cell hB hbw d0
    replace d1:=below_cell hB hbw d1
    replace d2:=below_cell hB hbw d2
    replace d3:=below_cell hB hbw d3
    obtain⟨hk1,hk2⟩:=HK.out _ (List.mem_of_getElem? g1.out)
    have hsn:=Lib.hid (keysTB_snoc l k _ g1.out)
    have hle:(keysTB (l.take k)).length<=k:=by rw[keysTB_length];exact List.length_take_le _ _
    obtain⟨W4,hW4⟩: ∃W4,W4=wr.alloc (.cells #[.int .i64 qk,.int .i64 qa,.string qw,.int .i64 qb] 97):=⟨_,rfl⟩
    obtain⟨qx,hqx⟩: ∃qx,qx=wr.heap.size:=⟨_,rfl⟩
    have b4:Below wr.heap.size wr W4:=by rw[hW4];exact(Below.refl _ _).alloc (Nat.le_refl _) _
    have hqb:W4.heap[qx]? =some (.cells #[.int .i64 qk,.int .i64 qa,.string qw,.int .i64 qb] 97 (0,0)):=by rw[hW4,hqx];exact block_alloc_new _ _
    have k0:W4.cell? ⟨qx,0,none⟩=some (.int .i64 qk):=block_cell hqb 0
    have k1:W4.cell? ⟨qx,1,none⟩=some (.int .i64 qa):=block_cell hqb 1
    have k2:W4.cell? ⟨qx,2,none⟩=some (.string qw):=block_cell hqb 2
    have k3:W4.cell? ⟨qx,3,none⟩=some (.int .i64 qb):=block_cell hqb 3
    have hql:qx<W4.heap.size:=lt_of_block hqb
    have HB4:=Lib.hid (hB.trans (b4.mono hB.size))
    have HO4:=Lib.hid (ownsRow_below hown b4)
    have h4:w.heap.size<=W4.heap.size:=Nat.le_trans hB.size b4.size
    have HKT:=Lib.hid (dkeyText_any qk qa qb qw W4 hk1.kind hk1.a hk1.b hk2 (HT.out.below HB4.out))
    have hkt:Hid (Lib.join [Lib.itoa qk,Lib.itoa qa,dashL qw,Lib.itoa qb] [32]=keyT ⟨qk,qa,qw,qb⟩):=Lib.hid rfl
    rw[hkt.out] at HKT
    obtain⟨kt,hkt'⟩: ∃kt,kt=(⟨(keyT ⟨qk,qa,qw,qb⟩).toArray⟩:ByteArray):=⟨_,rfl⟩
    rw[<-hkt'] at HKT hsn
    obtain⟨M,hM⟩: ∃M,M=keysTB (l.take k):=⟨_,rfl⟩
    rw[<-hM] at HO4 hle hsn
    have i0:(0:Int)<=(k:Int):=by omega
    have i1:(k:Int)<(l.length:Int):=by omega
    have HW4:=Lib.hid hW4
    have HQX:=Lib.hid hqx
    clear hW4 hqx hqb b4 hB hown hkt hkt' hM hk1 hk2 g1
    go_wp2_with (first
     | (rw[<-HW4.out, <-HQX.out])
     | (go_at_call 185;(with_reducible refine HKT.out.mono ?_);rintro e w5 ⟨rfl,b5⟩;have HB5:=Lib.hid (HB4.out.trans (b5.mono h4));have HO5:=Lib.hid (ownsRow_below HO4.out b5);have h5:=HB5.out.size;clear b5)
     | (at_builtin;refine appText rfl _ _ rfl w.heap.size _ M rfl (HO5.out.alloc _) w5.heap.size kt rfl (by simp) (by omega) (by simp;omega) w (HB5.out.alloc h5 _) ?_;intro v' w6 hown6 hB6 hs6 hg6))
    exact⟨⟨k+1,by omega,by go_num,by rw[hsn.out];exact hown6,hB6⟩,by simp[intOf];omega⟩
  · have he:l.take k=l:=List.take_of_length_le (by omega)
    rw[he] at hown
    clear he
    obtain⟨ao',cap,rfl,ht1,hcap,_⟩:=ownsRow_texts hown
    have hJ:=join_any ao' cap (keysTB l) ⟨#[44,32]⟩ wr ht1 hcap (by rw[keysTB_length];omega) (by
     have :=join_len [44,32] 500000 (l.map keyT) (fun p hp=>by
      obtain⟨x,hx,rfl⟩:=List.mem_map.1 hp
      exact keyT_len x (HK.out x hx).1 (HK.out x hx).2)
     rw[List.length_map] at this
     rw[keysTB_data]
     simp only[List.length_cons,List.length_nil] at this
     have h2:l.length*(500000+(0+1+1))<=100000*(500000+(0+1+1)):=Nat.mul_le_mul_right _ hn
     simp only at this ⊢
     omega)
    rw[keysTB_data] at hJ
    have HJ:=Lib.hid hJ
    have HB:=Lib.hid hB
    clear hJ hown ht1 hB
    go_wp2_with (go_at_call 31;refine HJ.out.mono ?_;rintro e w1 ⟨rfl,hb1⟩)
    go_ret
    exact⟨rfl,below_trans HB.out HB.out.size hb1⟩
theorem set4_other {X:World} {r g i:Nat} {u:Value} (h:X.cell? ⟨g,i,none⟩=some u) (hne:g≠r) (v0 v1 v2 v3:Value):((((X.setCell ⟨r,0,none⟩ v0).setCell ⟨r,1,none⟩ v1).setCell ⟨r,2,none⟩ v2).setCell ⟨r,3,none⟩ v3).cell? ⟨g,i,none⟩=some u:=by
 rw[World.cell?_of_block (w:=X) (a:=⟨g,i,none⟩) (by rw[Below.heap_setCell _ _ _ _ hne,Below.heap_setCell _ _ _ _ hne,Below.heap_setCell _ _ _ _ hne,Below.heap_setCell _ _ _ _ hne])]
 exact h
theorem set4_fr {F:Nat->Prop} {X:World} {r:Nat} (h:F r) (v0 v1 v2 v3:Value):Fr F X ((((X.setCell ⟨r,0,none⟩ v0).setCell ⟨r,1,none⟩ v1).setCell ⟨r,2,none⟩ v2).setCell ⟨r,3,none⟩ v3):=
 Fr.setCell (F:=F) (p:=⟨r,3,none⟩) (Fr.setCell (F:=F) (p:=⟨r,2,none⟩) (Fr.setCell (F:=F) (p:=⟨r,1,none⟩) (Fr.setCell (F:=F) (p:=⟨r,0,none⟩) (Fr.refl F X) (fun _=>h) _) (fun _=>h) _) (fun _=>h) _) (fun _=>h) _
def keyF (n:Nat) (l:List ByteArray):Option (KeyP×List Int):=match l with
 | x0::x1::x2::x3::r=>if r.length=n then (numB x0).bind fun k=>(numB x1).bind fun a=>(numB x3).bind fun b=>(numsL r).map fun q=>(⟨k,a,plainB x2,b⟩,q) else none
 | _=>none
def KeyOut (o:Option (KeyP×List Int)) (w:World) (e:Ending) (w' :World):Prop:=(match o with
    | some (k,q)=> ∃v,e= .returned (.tuple #[.agg #[.int .i64 k.kind,.int .i64 k.a,.string k.word,.int .i64 k.b],v])/\w'.ownsRow w.heap.size 3 1 v q.length (q.map (Value.int .i64))
    | none=>e= .panicked (wrongP 3))/\Below w.heap.size w w'
theorem key_thrown {o:Option (KeyP×List Int)} {w w' :World} (h:o=none) (hb:Below w.heap.size w w'):KeyOut o w (.panicked (wrongP 3)) w' :=by
 subst h;exact⟨rfl,hb⟩
theorem setKeyD {w w1:World} {B g:Nat} {ty:TypeId} {a0 a1 a2 a3:Value} (hC:Below B w w1) (hB:B<=g) (h:w1.heap[g]? =some (.cells #[a0,a1,a2,a3] ty (0,0))) (v0 v1 v2 v3:Value):
  Below B w ((((w1.setCell ⟨g,0,none⟩ v0).setCell ⟨g,1,none⟩ v1).setCell ⟨g,2,none⟩ v2).setCell ⟨g,3,none⟩ v3)∧
  ((((w1.setCell ⟨g,0,none⟩ v0).setCell ⟨g,1,none⟩ v1).setCell ⟨g,2,none⟩ v2).setCell ⟨g,3,none⟩ v3).heap[g]? =some (.cells #[v0,v1,v2,v3] ty (0,0)):=
 ⟨Below.setCell (Below.setCell (Below.setCell (Below.setCell hC hB _) hB _) hB _) hB _,
  by have:=block_set (block_set (block_set (block_set h 0 v0) 1 v1) 2 v2) 3 v3
     simpa using this⟩
def kyφ (b o:Nat) (sl:Value) (x0 x1 x2 x3:ByteArray) (z0:Nat):Nat->World->Value->Prop:=fun i V v=>match i with
 | 0=>v=sl
 | 1=>v= .pointer (some ⟨b,o,none⟩)
 | 2=>v= .string x0
 | 3=> ∃n,numB x0=some n/\v= .int .i64 n
 | 4=>v=sl
 | 5=>v= .pointer (some ⟨b,o+1,none⟩)
 | 6=>v= .string x1
 | 7=> ∃n,numB x1=some n/\v= .int .i64 n
 | 8=>v=sl
 | 9=>v= .pointer (some ⟨b,o+2,none⟩)
 | 10=>v= .string x2
 | 11=>v= .string (plainB x2)
 | 12=>v=sl
 | 13=>v= .pointer (some ⟨b,o+3,none⟩)
 | 14=>v= .string x3
 | 15=> ∃n,numB x3=some n/\v= .int .i64 n
 | 16=> ∃n0 n1 n3,numB x0=some n0/\numB x1=some n1/\numB x3=some n3/\v= .agg #[.int .i64 n0,.int .i64 n1,.string (plainB x2),.int .i64 n3]
 | 17=> ∃g,v= .pointer (some ⟨g,0,none⟩)/\(z0<=g/\g<V.heap.size)/\V.heap[g]? =some (.cells #[.int .i64 0,.int .i64 0,.string ⟨#[]⟩,.int .i64 0] 97 (0,0))
 | _=>True
theorem kyφ_0 (b o:Nat) (sl:Value) (x0 x1 x2 x3:ByteArray) (z0:Nat) (V:World) (v:Value) (h:kyφ b o sl x0 x1 x2 x3 z0 0 V v):v=sl:=h
theorem kyφ_1 (b o:Nat) (sl:Value) (x0 x1 x2 x3:ByteArray) (z0:Nat) (V:World) (v:Value) (h:kyφ b o sl x0 x1 x2 x3 z0 1 V v):v= .pointer (some ⟨b,o,none⟩):=h
theorem kyφ_2 (b o:Nat) (sl:Value) (x0 x1 x2 x3:ByteArray) (z0:Nat) (V:World) (v:Value) (h:kyφ b o sl x0 x1 x2 x3 z0 2 V v):v= .string x0:=h
theorem kyφ_3 (b o:Nat) (sl:Value) (x0 x1 x2 x3:ByteArray) (z0:Nat) (V:World) (v:Value) (h:kyφ b o sl x0 x1 x2 x3 z0 3 V v): ∃n,numB x0=some n/\v= .int .i64 n:=h
theorem kyφ_4 (b o:Nat) (sl:Value) (x0 x1 x2 x3:ByteArray) (z0:Nat) (V:World) (v:Value) (h:kyφ b o sl x0 x1 x2 x3 z0 4 V v):v=sl:=h
theorem kyφ_5 (b o:Nat) (sl:Value) (x0 x1 x2 x3:ByteArray) (z0:Nat) (V:World) (v:Value) (h:kyφ b o sl x0 x1 x2 x3 z0 5 V v):v= .pointer (some ⟨b,o+1,none⟩):=h
theorem kyφ_6 (b o:Nat) (sl:Value) (x0 x1 x2 x3:ByteArray) (z0:Nat) (V:World) (v:Value) (h:kyφ b o sl x0 x1 x2 x3 z0 6 V v):v= .string x1:=h
theorem kyφ_7 (b o:Nat) (sl:Value) (x0 x1 x2 x3:ByteArray) (z0:Nat) (V:World) (v:Value) (h:kyφ b o sl x0 x1 x2 x3 z0 7 V v): ∃n,numB x1=some n/\v= .int .i64 n:=h
theorem kyφ_8 (b o:Nat) (sl:Value) (x0 x1 x2 x3:ByteArray) (z0:Nat) (V:World) (v:Value) (h:kyφ b o sl x0 x1 x2 x3 z0 8 V v):v=sl:=h
theorem kyφ_9 (b o:Nat) (sl:Value) (x0 x1 x2 x3:ByteArray) (z0:Nat) (V:World) (v:Value) (h:kyφ b o sl x0 x1 x2 x3 z0 9 V v):v= .pointer (some ⟨b,o+2,none⟩):=h
theorem kyφ_10 (b o:Nat) (sl:Value) (x0 x1 x2 x3:ByteArray) (z0:Nat) (V:World) (v:Value) (h:kyφ b o sl x0 x1 x2 x3 z0 10 V v):v= .string x2:=h
theorem kyφ_11 (b o:Nat) (sl:Value) (x0 x1 x2 x3:ByteArray) (z0:Nat) (V:World) (v:Value) (h:kyφ b o sl x0 x1 x2 x3 z0 11 V v):v= .string (plainB x2):=h
theorem kyφ_12 (b o:Nat) (sl:Value) (x0 x1 x2 x3:ByteArray) (z0:Nat) (V:World) (v:Value) (h:kyφ b o sl x0 x1 x2 x3 z0 12 V v):v=sl:=h
theorem kyφ_13 (b o:Nat) (sl:Value) (x0 x1 x2 x3:ByteArray) (z0:Nat) (V:World) (v:Value) (h:kyφ b o sl x0 x1 x2 x3 z0 13 V v):v= .pointer (some ⟨b,o+3,none⟩):=h
theorem kyφ_14 (b o:Nat) (sl:Value) (x0 x1 x2 x3:ByteArray) (z0:Nat) (V:World) (v:Value) (h:kyφ b o sl x0 x1 x2 x3 z0 14 V v):v= .string x3:=h
theorem kyφ_15 (b o:Nat) (sl:Value) (x0 x1 x2 x3:ByteArray) (z0:Nat) (V:World) (v:Value) (h:kyφ b o sl x0 x1 x2 x3 z0 15 V v): ∃n,numB x3=some n/\v= .int .i64 n:=h
theorem kyφ_16 (b o:Nat) (sl:Value) (x0 x1 x2 x3:ByteArray) (z0:Nat) (V:World) (v:Value) (h:kyφ b o sl x0 x1 x2 x3 z0 16 V v): ∃n0 n1 n3,numB x0=some n0/\numB x1=some n1/\numB x3=some n3/\v= .agg #[.int .i64 n0,.int .i64 n1,.string (plainB x2),.int .i64 n3]:=h
theorem kyφ_17 (b o:Nat) (sl:Value) (x0 x1 x2 x3:ByteArray) (z0:Nat) (V:World) (v:Value) (h:kyφ b o sl x0 x1 x2 x3 z0 17 V v): ∃g,v= .pointer (some ⟨g,0,none⟩)/\(z0<=g/\g<V.heap.size)/\V.heap[g]? =some (.cells #[.int .i64 0,.int .i64 0,.string ⟨#[]⟩,.int .i64 0] 97 (0,0)):=h
theorem kyφ_mono (b o:Nat) (sl:Value) (x0 x1 x2 x3:ByteArray) (z0:Nat) (i:Nat) (V V' :World) (v:Value) (hb:Below V.heap.size V V') (h:kyφ b o sl x0 x1 x2 x3 z0 i V v):kyφ b o sl x0 x1 x2 x3 z0 i V' v:=
 match i,h with
 | 0,h=>h
 | 1,h=>h
 | 2,h=>h
 | 3,h=>h
 | 4,h=>h
 | 5,h=>h
 | 6,h=>h
 | 7,h=>h
 | 8,h=>h
 | 9,h=>h
 | 10,h=>h
 | 11,h=>h
 | 12,h=>h
 | 13,h=>h
 | 14,h=>h
 | 15,h=>h
 | 16,h=>h
 | 17,h=>let ⟨g,e,⟨h0,h1⟩,h2⟩:=h;⟨g,e,⟨h0,Nat.lt_of_lt_of_le h1 hb.size⟩,(hb.block g h1).trans h2⟩
 | _+18,_=>trivial
theorem kyφ_list {X:List Value} (h:X.length=18): ∃x0 x1 x2 x3 x4 x5 x6 x7 x8 x9 x10 x11 x12 x13 x14 x15 x16 x17,X= [x0,x1,x2,x3,x4,x5,x6,x7,x8,x9,x10,x11,x12,x13,x14,x15,x16,x17]:=
 match X,h with| [x0,x1,x2,x3,x4,x5,x6,x7,x8,x9,x10,x11,x12,x13,x14,x15,x16,x17],_=>⟨x0,x1,x2,x3,x4,x5,x6,x7,x8,x9,x10,x11,x12,x13,x14,x15,x16,x17,rfl⟩
theorem keyF_len {n:Nat} {l:List ByteArray} (h:l.length≠4+n):keyF n l=none:=by
 unfold keyF
 split
 · rename_i x0 x1 x2 x3 r
   rw[if_neg (fun e=>h (by simp only[List.length_cons];omega))]
 · rfl
theorem keyF_4 {n:Nat} {x0 x1 x2 x3:ByteArray} {r:List ByteArray} (h:r.length=n):keyF n (x0::x1::x2::x3::r)=(numB x0).bind fun k=>(numB x1).bind fun a=>(numB x3).bind fun b=>(numsL r).map fun q=>(⟨k,a,plainB x2,b⟩,q):=by
 show(if r.length=n then _ else none)=_
 rw[if_pos h]
theorem four_of {l:List ByteArray} {n:Nat} (h:l.length=4+n): ∃x0 x1 x2 x3 r,l=x0::x1::x2::x3::r/\r.length=n:=by
 match l,h with
 | [],h=>simp at h;omega
 | [_],h=>simp at h;omega
 | [_,_],h=>simp at h;omega
 | [_,_,_],h=>simp at h;omega
 | x0::x1::x2::x3::r,h=>exact⟨x0,x1,x2,x3,r,rfl,by simp at h;omega⟩
set_option maxRecDepth 100000 in
set_option maxHeartbeats 8000000 in
theorem dkey_any (ao:Option Addr) (c n:Nat) (l:List ByteArray) (w:World) (hl:textsAt w ao l) (hs: ∀x∈l,x.size<=100000) (hc:l.length<=c) (hn:l.length<=100000) (hn4:n<=100) (ht:PowTab w) (hv:NumVars w) (hg:ErrVar w):
  Calls Tryz.prog 129 #[.slice ao l.length c,.int .i64 (n:Int)] w (KeyOut (keyF n l) w):=by
 have HT:=Lib.hid ht
 have HV:=Lib.hid hv
 have HG:=Lib.hid hg
 have HL:=Lib.hid hl
 have HS:=Lib.hid hs
 clear ht hv hg hl hs
 obtain⟨W,hW⟩: ∃W,W=w.alloc (.cells #[.int .i64 0,.int .i64 0,.string ⟨#[]⟩,.int .i64 0] 97):=⟨_,rfl⟩
 have hBW:Below w.heap.size w W:=by rw[hW];exact(Below.refl _ w).alloc (Nat.le_refl _) _
 obtain⟨rk,hrk⟩: ∃rk,rk=w.heap.size:=⟨_,rfl⟩
 have hblk:W.heap[rk]? =some (.cells #[.int .i64 0,.int .i64 0,.string ⟨#[]⟩,.int .i64 0] 97 (0,0)):=by rw[hW,hrk];exact block_alloc_new _ _
 have hzW:=hBW.size
 have HBW:=Lib.hid hBW
 have HW:=Lib.hid hW
 have HRK:=Lib.hid hrk
 have HBLK:=Lib.hid hblk
 have hsum:wrap64 (4+(n:Int))=4+(n:Int):=by unfold wrap64;omega
 clear hBW hW hrk hblk
 by_cases hlen:l.length=4+n
 · obtain⟨x0,x1,x2,x3,r,rfl,hr⟩:=four_of hlen
   have HF:=Lib.hid (keyF_4 (x0:=x0) (x1:=x1) (x2:=x2) (x3:=x3) hr)
   have HWO:=Lib.hid (dwords_ok ao c (x0::x1::x2::x3::r).length (4+(n:Int)) W (by rw[hlen];omega))
   obtain⟨b,o,rfl,c0⟩:=HL.out 0 x0 rfl
   rw[Nat.add_zero] at c0
   obtain⟨b',o',e1,c1⟩:=HL.out 1 x1 rfl
   cases e1
   obtain⟨b',o',e1,c2⟩:=HL.out 2 x2 rfl
   cases e1
   obtain⟨b',o',e1,c3⟩:=HL.out 3 x3 rfl
   cases e1
   have hbw:b<w.heap.size:=World.block_lt_of_cell? w _ c0
   have hbW:b<W.heap.size:=Nat.lt_of_lt_of_le hbw hzW
   replace c0:=below_cell HBW.out hbw c0
   replace c1:=below_cell HBW.out hbw c1
   replace c2:=below_cell HBW.out hbw c2
   replace c3:=below_cell HBW.out hbw c3
   have hx: ∀x∈x0::x1::x2::x3::r,x.size<=100000:=HS.out
   have HN0:=Lib.hid fun(V:World) (hV:Below W.heap.size W V)=>dnumber_any x0 V (hx x0 (by simp)) ((HT.out.below HBW.out).below hV) ((HV.out.below HBW.out).below hV) ((HG.out.below HBW.out).below hV)
   have HN1:=Lib.hid fun(V:World) (hV:Below W.heap.size W V)=>dnumber_any x1 V (hx x1 (by simp)) ((HT.out.below HBW.out).below hV) ((HV.out.below HBW.out).below hV) ((HG.out.below HBW.out).below hV)
   have HN3:=Lib.hid fun(V:World) (hV:Below W.heap.size W V)=>dnumber_any x3 V (hx x3 (by simp)) ((HT.out.below HBW.out).below hV) ((HV.out.below HBW.out).below hV) ((HG.out.below HBW.out).below hV)
   have HBAD0:Hid (numB x0=none->keyF n (x0::x1::x2::x3::r)=none):=Lib.hid fun h=>by rw[HF.out,h];rfl
   have HBAD1:Hid (numB x1=none->keyF n (x0::x1::x2::x3::r)=none):=Lib.hid fun h=>by rw[HF.out,h];cases numB x0<;>rfl
   have HBAD3:Hid (numB x3=none->keyF n (x0::x1::x2::x3::r)=none):=Lib.hid fun h=>by
    rw[HF.out,h]
    cases numB x0 with
    | none=>rfl
    | some n0=>cases numB x1<;>rfl
   have HBADR:Hid (numsL r=none->keyF n (x0::x1::x2::x3::r)=none):=Lib.hid fun h=>by
    rw[HF.out,h]
    cases numB x0 with
    | none=>rfl
    | some n0=>
      cases numB x1 with
      | none=>rfl
      | some n1=>cases numB x3<;>rfl
   have HR:=Lib.hid fun(V:World) (hV:Below w.heap.size w V)=>dnumbers_any (if c=4 then some ⟨b,o,none⟩ else some ⟨b,o+4,none⟩) (c-4) r V (fun i x hi=>by
    have hil:i<r.length:=(List.getElem?_eq_some_iff.1 hi).1
    simp only[List.length_cons] at hc
    obtain⟨b',o',e1,cc⟩:=HL.out (i+4) x (by simpa using hi)
    cases e1
    rw[if_neg (by omega)]
    exact⟨b,o+4,rfl,by rw[show o+4+i=o+(i+4) by omega];exact below_cell hV hbw cc⟩) (fun x hxr=>hx x (by simp[hxr])) (by simp only[List.length_cons] at hn;omega) (HT.out.below hV) (HV.out.below hV) (HG.out.below hV)
   clear hx
   obtain⟨m,hm⟩: ∃m,m=(x0::x1::x2::x3::r).length:=⟨_,rfl⟩
   have hmn:m=n+4:=by rw[hm,hlen];omega
   rw[<-hm] at HWO hn hc ⊢
   have i0:(0:Int)<(m:Int):=by omega
   have i1:(1:Int)<(m:Int):=by omega
   have i2:(2:Int)<(m:Int):=by omega
   have i3:(3:Int)<(m:Int):=by omega
   have i00:0<m:=by omega
   have i4:(4:Int)<=(m:Int):=by omega
   have i5:(m:Int)<=(c:Int):=by omega
   rw[show r.length=m-4 by omega] at HR
   clear hr
   obtain⟨so,hso⟩: ∃so,(if c=4 then some (⟨b,o,none⟩:Addr) else some ⟨b,o+4,none⟩)=so:=⟨_,rfl⟩
   rw[hso] at HR
   have HMN:=Lib.hid hmn
   clear hm hlen hmn
   go_enter Tryz.func129,Tryz.ntmps129
   go_wp2_with (first
    | (rw[<-HW.out, <-HRK.out])
    | (go_at_call 17;(with_reducible refine HWO.out.mono ?_);rintro e w1 ⟨rfl,rfl⟩))
   obtain⟨sl,hsl⟩: ∃sl,sl=Value.slice (some ⟨b,o,none⟩) m c:=⟨_,rfl⟩
   have HSL:=Lib.hid hsl
   obtain⟨z0,hz0⟩: ∃z0,z0=W.heap.size:=⟨_,rfl⟩
   have HZ0:=Lib.hid hz0
   rw[<-hsl]
   clear hsl hz0
   rename_i hKK
   refine wp_region_dag_oneP 6 11 17 _ (fun V=>Below W.heap.size W V) (fun V V' =>Below V.heap.size V V') (kyφ b o sl x0 x1 x2 x3 z0) rfl (by kernel_rfl) rfl (by decide) (by kernel_rfl) ?_ rfl rfl (Below.refl _ _).drew ?_ ?_
   · exact fun i V V' v _ _ hb h=>kyφ_mono _ _ _ _ _ _ _ _ i V V' v hb h
   · simp only[List.take_succ_cons,List.take_zero,DagStepsP,and_true]
     refine⟨?_,?_,?_,?_,?_,?_,?_,?_,?_,?_,?_,?_,?_,?_,?_,?_,?_,?_⟩
     · intro A V K hC hA hP hd hK
       have HA:=Lib.hid hA
       have p0:A.tmps[0]?.getD undef=sl:=evalT (hP 0 (of_decide_eq_true rfl))
       clear hP hd hA
       unfold Oper.wp
       go_simp
       exact hK _ _ hC (Below.refl _ _) rfl
     · intro A V K hC hA hP hd hK
       have HA:=Lib.hid hA
       have e0:A.tmps[11]?.getD undef=sl:=evalT (kyφ_0 _ _ _ _ _ _ _ _ _ _ (hd 0 (by kernel_rfl)))
       rw[HSL.out] at e0
       clear hP hd hA
       unfold Oper.wp
       go_simp
       exact hK _ _ hC (Below.refl _ _) rfl
     · intro A V K hC hA hP hd hK
       have HA:=Lib.hid hA
       have e1:A.tmps[12]?.getD undef= .pointer (some ⟨b,o,none⟩):=evalT (kyφ_1 _ _ _ _ _ _ _ _ _ _ (hd 1 (by kernel_rfl)))
       have d:=below_cell hC hbW c0
       clear hP hd hA
       unfold Oper.wp
       go_simp
       exact hK _ _ hC (Below.refl _ _) rfl
     · intro A V K hC hA hP hd hK
       have HA:=Lib.hid hA
       have e2:A.tmps[13]?.getD undef= .string x0:=evalT (kyφ_2 _ _ _ _ _ _ _ _ _ _ (hd 2 (by kernel_rfl)))
       clear hP hd hA
       unfold Oper.wp
       go_simp
       refine(HN0.out V hC).mono ?_
       rintro e w1 ⟨h0,h1⟩
       cases hq:numB x0 with
       | none=>
         rw[hq] at h0
         have h0:e=_:=h0
         subst h0
         exact⟨HA.out,key_thrown (HBAD0.out hq) (HBW.out.trans ((below_trans hC hC.size h1).mono hzW))⟩
       | some n=>
         rw[hq] at h0
         have h0:e=_:=h0
         subst h0
         exact hK _ _ (below_trans hC hC.size h1) h1 ⟨n,hq,rfl⟩
     · intro A V K hC hA hP hd hK
       have HA:=Lib.hid hA
       have p0:A.tmps[0]?.getD undef=sl:=evalT (hP 0 (of_decide_eq_true rfl))
       clear hP hd hA
       unfold Oper.wp
       go_simp
       exact hK _ _ hC (Below.refl _ _) rfl
     · intro A V K hC hA hP hd hK
       have HA:=Lib.hid hA
       have e4:A.tmps[15]?.getD undef=sl:=evalT (kyφ_4 _ _ _ _ _ _ _ _ _ _ (hd 4 (by kernel_rfl)))
       rw[HSL.out] at e4
       clear hP hd hA
       unfold Oper.wp
       go_simp
       exact hK _ _ hC (Below.refl _ _) rfl
     · intro A V K hC hA hP hd hK
       have HA:=Lib.hid hA
       have e5:A.tmps[16]?.getD undef= .pointer (some ⟨b,o+1,none⟩):=evalT (kyφ_5 _ _ _ _ _ _ _ _ _ _ (hd 5 (by kernel_rfl)))
       have d:=below_cell hC hbW c1
       clear hP hd hA
       unfold Oper.wp
       go_simp
       exact hK _ _ hC (Below.refl _ _) rfl
     · intro A V K hC hA hP hd hK
       have HA:=Lib.hid hA
       have e6:A.tmps[17]?.getD undef= .string x1:=evalT (kyφ_6 _ _ _ _ _ _ _ _ _ _ (hd 6 (by kernel_rfl)))
       clear hP hd hA
       unfold Oper.wp
       go_simp
       refine(HN1.out V hC).mono ?_
       rintro e w1 ⟨h0,h1⟩
       cases hq:numB x1 with
       | none=>
         rw[hq] at h0
         have h0:e=_:=h0
         subst h0
         exact⟨HA.out,key_thrown (HBAD1.out hq) (HBW.out.trans ((below_trans hC hC.size h1).mono hzW))⟩
       | some n=>
         rw[hq] at h0
         have h0:e=_:=h0
         subst h0
         exact hK _ _ (below_trans hC hC.size h1) h1 ⟨n,hq,rfl⟩
     · intro A V K hC hA hP hd hK
       have HA:=Lib.hid hA
       have p0:A.tmps[0]?.getD undef=sl:=evalT (hP 0 (of_decide_eq_true rfl))
       clear hP hd hA
       unfold Oper.wp
       go_simp
       exact hK _ _ hC (Below.refl _ _) rfl
     · intro A V K hC hA hP hd hK
       have HA:=Lib.hid hA
       have e8:A.tmps[19]?.getD undef=sl:=evalT (kyφ_8 _ _ _ _ _ _ _ _ _ _ (hd 8 (by kernel_rfl)))
       rw[HSL.out] at e8
       clear hP hd hA
       unfold Oper.wp
       go_simp
       exact hK _ _ hC (Below.refl _ _) rfl
     · intro A V K hC hA hP hd hK
       have HA:=Lib.hid hA
       have e9:A.tmps[20]?.getD undef= .pointer (some ⟨b,o+2,none⟩):=evalT (kyφ_9 _ _ _ _ _ _ _ _ _ _ (hd 9 (by kernel_rfl)))
       have d:=below_cell hC hbW c2
       clear hP hd hA
       unfold Oper.wp
       go_simp
       exact hK _ _ hC (Below.refl _ _) rfl
     · intro A V K hC hA hP hd hK
       have HA:=Lib.hid hA
       have e10:A.tmps[21]?.getD undef= .string x2:=evalT (kyφ_10 _ _ _ _ _ _ _ _ _ _ (hd 10 (by kernel_rfl)))
       clear hP hd hA
       unfold Oper.wp
       go_simp
       refine(dplain_any x2 V).mono ?_
       rintro e w1 ⟨rfl,rfl⟩
       exact hK _ _ hC (Below.refl _ _) rfl
     · intro A V K hC hA hP hd hK
       have HA:=Lib.hid hA
       have p0:A.tmps[0]?.getD undef=sl:=evalT (hP 0 (of_decide_eq_true rfl))
       clear hP hd hA
       unfold Oper.wp
       go_simp
       exact hK _ _ hC (Below.refl _ _) rfl
     · intro A V K hC hA hP hd hK
       have HA:=Lib.hid hA
       have e12:A.tmps[23]?.getD undef=sl:=evalT (kyφ_12 _ _ _ _ _ _ _ _ _ _ (hd 12 (by kernel_rfl)))
       rw[HSL.out] at e12
       clear hP hd hA
       unfold Oper.wp
       go_simp
       exact hK _ _ hC (Below.refl _ _) rfl
     · intro A V K hC hA hP hd hK
       have HA:=Lib.hid hA
       have e13:A.tmps[24]?.getD undef= .pointer (some ⟨b,o+3,none⟩):=evalT (kyφ_13 _ _ _ _ _ _ _ _ _ _ (hd 13 (by kernel_rfl)))
       have d:=below_cell hC hbW c3
       clear hP hd hA
       unfold Oper.wp
       go_simp
       exact hK _ _ hC (Below.refl _ _) rfl
     · intro A V K hC hA hP hd hK
       have HA:=Lib.hid hA
       have e14:A.tmps[25]?.getD undef= .string x3:=evalT (kyφ_14 _ _ _ _ _ _ _ _ _ _ (hd 14 (by kernel_rfl)))
       clear hP hd hA
       unfold Oper.wp
       go_simp
       refine(HN3.out V hC).mono ?_
       rintro e w1 ⟨h0,h1⟩
       cases hq:numB x3 with
       | none=>
         rw[hq] at h0
         have h0:e=_:=h0
         subst h0
         exact⟨HA.out,key_thrown (HBAD3.out hq) (HBW.out.trans ((below_trans hC hC.size h1).mono hzW))⟩
       | some n=>
         rw[hq] at h0
         have h0:e=_:=h0
         subst h0
         exact hK _ _ (below_trans hC hC.size h1) h1 ⟨n,hq,rfl⟩
     · intro A V K hC hA hP hd hK
       have HA:=Lib.hid hA
       have h3:=hd 3 (by kernel_rfl)
       have h3:=kyφ_3 _ _ _ _ _ _ _ _ _ _ h3
       obtain⟨n0,hn0,en0⟩:=h3
       have e3:=evalT (t:=14) en0
       have h7:=hd 7 (by kernel_rfl)
       have h7:=kyφ_7 _ _ _ _ _ _ _ _ _ _ h7
       obtain⟨n1,hn1,en1⟩:=h7
       have e7:=evalT (t:=18) en1
       have e11:A.tmps[22]?.getD undef= .string (plainB x2):=evalT (kyφ_11 _ _ _ _ _ _ _ _ _ _ (hd 11 (by kernel_rfl)))
       have h15:=hd 15 (by kernel_rfl)
       have h15:=kyφ_15 _ _ _ _ _ _ _ _ _ _ h15
       obtain⟨n3,hn3,en3⟩:=h15
       have e15:=evalT (t:=26) en3
       clear hP hd hA
       unfold Oper.wp
       go_simp
       exact hK _ _ hC (Below.refl _ _) ⟨n0,n1,n3,hn0,hn1,hn3,rfl⟩
     · intro A V K hC hA hP hd hK
       have HA:=Lib.hid hA
       clear hP hd hA
       unfold Oper.wp
       go_simp
       exact hK _ _ (hC.alloc hC.size _) ((Below.refl _ _).alloc (Nat.le_refl _) _) ⟨_,rfl,⟨by rw[HZ0.out];exact hC.size,by simp⟩,heap_alloc_new _ _⟩
   · intro X w1 hX hC hφ
     obtain⟨x0',x1',x2',x3',x4,x5,x6,x7,x8,x9,x10,x11,x12,x13,x14,x15,x16,x17,rfl⟩:=kyφ_list hX
     have e16:=kyφ_16 _ _ _ _ _ _ _ _ _ _ (hφ 16 (of_decide_eq_true rfl))
     have e17:=kyφ_17 _ _ _ _ _ _ _ _ _ _ (hφ 17 (of_decide_eq_true rfl))
     obtain⟨n0,n1,n3,hn0,hn1,hn3,e16⟩:=e16
     obtain⟨g,e17,⟨hg0,hg⟩,hgc⟩:=e17
     have e16:x16=_:=e16
     have e17:x17=_:=e17
     subst e16 e17
     clear hφ hX
     unfold frOne
     simp only[List.take_succ_cons,List.take_zero,List.drop_succ_cons,List.drop_zero,List.set_cons_succ,List.set_cons_zero,List.cons_append,List.nil_append,List.getD_cons_succ,List.getD_cons_zero]
     unfold Oper.wp
     have y0:w1.cell? ⟨g,0,none⟩=some (.int .i64 0):=by simp[World.cell?,hgc]
     have z0' :w1.frozen? ⟨g,0,none⟩=false:=by simp[World.frozen?,hgc]
     have y1:w1.cell? ⟨g,1,none⟩=some (.int .i64 0):=by simp[World.cell?,hgc]
     have z1' :w1.frozen? ⟨g,1,none⟩=false:=by simp[World.frozen?,hgc]
     have y2:w1.cell? ⟨g,2,none⟩=some (.string ⟨#[]⟩):=by simp[World.cell?,hgc]
     have z2' :w1.frozen? ⟨g,2,none⟩=false:=by simp[World.frozen?,hgc]
     have y3:w1.cell? ⟨g,3,none⟩=some (.int .i64 0):=by simp[World.cell?,hgc]
     have z3' :w1.frozen? ⟨g,3,none⟩=false:=by simp[World.frozen?,hgc]
     go_simp
     refine hKK _ _ ?_
     have hF:=setKeyD hC (by rw[<-HZ0.out];exact hg0) hgc (.int .i64 n0) (.int .i64 n1) (.string (plainB x2)) (.int .i64 n3)
     generalize hW2:(((w1.setCell ⟨g,0,none⟩ (.int .i64 n0)).setCell ⟨g,1,none⟩ (.int .i64 n1)).setCell ⟨g,2,none⟩ (.string (plainB x2))).setCell ⟨g,3,none⟩ (.int .i64 n3)=W2 at hF ⊢
     obtain⟨b2,hh⟩:=hF
     clear hW2 hgc y0 y1 y2 y3 z0' z1' z2' z3'
     have y0:W2.cell? ⟨g,0,none⟩=some (.int .i64 n0):=block_cell hh 0
     have y1:W2.cell? ⟨g,1,none⟩=some (.int .i64 n1):=block_cell hh 1
     have y2:W2.cell? ⟨g,2,none⟩=some (.string (plainB x2)):=block_cell hh 2
     have y3:W2.cell? ⟨g,3,none⟩=some (.int .i64 n3):=block_cell hh 3
     have hBw2:Below w.heap.size w W2:=HBW.out.trans (b2.mono hzW)
     have hgl:g<W2.heap.size:=lt_of_block hh
     have hrW:rk<W.heap.size:=lt_of_block HBLK.out
     have hrl:rk<W2.heap.size:=Nat.lt_of_lt_of_le hrW b2.size
     have hrb:=(b2.block rk hrW).trans HBLK.out
     have HRB:=Lib.hid hrb
     have HB2:=Lib.hid hBw2
     have hs2:=hBw2.size
     have hgr:g≠rk:=fun e=>by rw[HZ0.out] at hg0;omega
     clear hh b2 hBw2 hrb hC
     cases hq:numsL r with
     | none=>
       rw[hq] at HR
       have HQ:=Lib.hid (HBADR.out hq)
       clear hq
       go_wp2_with fail
       rw[HSL.out]
       go_region_with (first|(go_at_call 55;(with_reducible refine(HR.out _ HB2.out.drew).mono ?_);rintro e x1 ⟨rfl,b1⟩;(refine(fun(_:wpAny Tryz.prog .any #[] (fun _ _ _=>True) 0 #[] ⟨#[],[]⟩ w)=>⟨rfl,key_thrown HQ.out (HB2.out.drew.trans (b1.mono hs2))⟩) ?_)))
       all_goals trivial
     | some q=>
       rw[hq] at HR
       have hF:=HF.out
       rw[hn0,hn1,hn3,hq] at hF
       have HQ:=Lib.hid hF
       clear hq hF
       go_wp2_with fail
       rw[HSL.out]
       go_region_held3 (fun X=>X.cell? ⟨g,0,none⟩=some (.int .i64 n0)/\X.cell? ⟨g,1,none⟩=some (.int .i64 n1)/\X.cell? ⟨g,2,none⟩=some (.string (plainB x2))/\X.cell? ⟨g,3,none⟩=some (.int .i64 n3))
        (first|exact⟨y0,y1,y2,y3⟩|exact hS1|exact⟨set4_other hS1.1 hgr _ _ _ _,set4_other hS1.2.1 hgr _ _ _ _,set4_other hS1.2.2.1 hgr _ _ _ _,set4_other hS1.2.2.2 hgr _ _ _ _⟩)
        (first|(go_at_call 55;(with_reducible refine(HR.out _ HB2.out.drew).mono ?_);rintro e x1 ⟨⟨v,rfl,hown⟩,b1⟩;have hS1:=And.intro (below_cell b1 hgl y0) (And.intro (below_cell b1 hgl y1) (And.intro (below_cell b1 hgl y2) (below_cell b1 hgl y3)));have hrb1:=(b1.block rk hrl).trans HRB.out;have q0:=block_cell hrb1 0;have q1:=block_cell hrb1 1;have q2:=block_cell hrb1 2;have q3:=block_cell hrb1 3;have f0:=block_free hrb1 0;have f1:=block_free hrb1 1;have f2:=block_free hrb1 2;have f3:=block_free hrb1 3))
       have hbx:Below w.heap.size w x1:=HB2.out.drew.trans (b1.mono hs2)
       have hrw:w.heap.size<=rk:=by rw[HRK.out];exact Nat.le_refl _
       have hF:=setKeyD hbx hrw hrb1 (.int .i64 n0) (.int .i64 n1) (.string (plainB x2)) (.int .i64 n3)
       have hfr: ∀t k v m row,rk<W2.heap.size->x1.ownsRow W2.heap.size t k v m row->((((x1.setCell ⟨rk,0,none⟩ (.int .i64 n0)).setCell ⟨rk,1,none⟩ (.int .i64 n1)).setCell ⟨rk,2,none⟩ (.string (plainB x2))).setCell ⟨rk,3,none⟩ (.int .i64 n3)).ownsRow w.heap.size t k v m row:=by
        intro t k v m row hr h0
        exact ownsRow_mono (ownsRow_frame h0 (set4_fr (F:=fun z=>z=rk) rfl _ _ _ _) (fun g1 h1 e1=>by subst e1;omega)) hs2
       have hown5:=hfr _ _ _ _ _ hrl hown
       generalize hW5:(((x1.setCell ⟨rk,0,none⟩ (.int .i64 n0)).setCell ⟨rk,1,none⟩ (.int .i64 n1)).setCell ⟨rk,2,none⟩ (.string (plainB x2))).setCell ⟨rk,3,none⟩ (.int .i64 n3)=W5 at hF hown5 ⊢
       obtain⟨b5,hh5⟩:=hF
       clear hfr hW5 hown hbx
       have t0:W5.cell? ⟨rk,0,none⟩=some (.int .i64 n0):=block_cell hh5 0
       have t1:W5.cell? ⟨rk,1,none⟩=some (.int .i64 n1):=block_cell hh5 1
       have t2:W5.cell? ⟨rk,2,none⟩=some (.string (plainB x2)):=block_cell hh5 2
       have t3:W5.cell? ⟨rk,3,none⟩=some (.int .i64 n3):=block_cell hh5 3
       go_wp2_with fail
       rw[HQ.out]
       exact bodyPost_ret (v:= .tuple #[.agg #[.int .i64 n0,.int .i64 n1,.string (plainB x2),.int .i64 n3],v]) (by simp[results,Tryz.results129,go_sem,t0,t1,t2,t3]) rfl ⟨⟨v,rfl,hown5⟩,b5⟩
 · have HF:=Lib.hid (keyF_len hlen)
   have HWO:=Lib.hid (dwords_bad ao c l.length (4+(n:Int)) W (by omega) (HG.out.below HBW.out))
   clear hlen
   go_enter Tryz.func129,Tryz.ntmps129
   go_wp2_with (first
    | (rw[<-HW.out, <-HRK.out])
    | (go_at_call 17;(with_reducible refine HWO.out.mono ?_);rintro e w1 ⟨rfl,hb⟩))
   exact⟨rfl,key_thrown HF.out (HBW.out.trans (hb.mono hzW))⟩
structure DGh where
 db:Nat
 bb:Nat
 g:Gh
 gb:Nat
 nb:Nat
 eo:Option Addr
 pm:Nat
def DGh.foot (G:DGh) (dk k:Nat):Prop:=k=dk\/k=G.db\/G.g.foot G.bb k
def DGh.gr (G:DGh) (k:Nat):Prop:=k=G.gb\/k=G.nb\/G.eo=some ⟨k,0,none⟩\/k=G.pm
def DGh.all (G:DGh) (dk k:Nat):Prop:=G.foot dk k\/G.gr k
structure DBase (X:World) (s:Dsk) (db bb:Nat) (g:Gh):Prop where
 bi: ∃D left log ps,BI X bb db D s.cut left log s.down s.hist s.known ps g/\log.length=s.used/\(s.cut=true->left=s.left)
structure DGraph (X:World) (s:Dsk) (G:DGh):Prop where
 gat:GAt X G.gb G.nb G.eo (nodesV s.gh s.ga s.gt s.L) (edgesP s.L)
 gp:GP X G.gb (propsV s.gh s.ga s.gt s.L)
 pm: ∃v0 v1,X.heap[G.gb]? =some (.cells #[v0,v1,.map (some G.pm)] 187 (0,0))
 keys:KeysIs s.gh s.ga s.gt s.L
 kok: ∀k∈s.L,keyB k=true
 len:s.L.length<=3600
 lt: ∀k,G.gr k->k<X.heap.size
structure DI (w0 X:World) (dk:Nat) (s:Dsk) (G:DGh):Prop where
 blk:X.heap[dk]? =some (.cells #[.pointer (some ⟨G.db,0,none⟩),.pointer (some ⟨G.bb,0,none⟩),.pointer (some ⟨G.gb,0,none⟩)] 30 (0,0))
 base:DBase X s G.db G.bb G.g
 gra:DGraph X s G
 nd:dk≠G.db/\ ¬G.g.foot G.bb dk
 ng: ∀k,G.gr k-> ¬G.foot dk k
 low: ∀k,G.all dk k->w0.heap.size<=k
 be:Below w0.heap.size w0 X
 ev:ErrVar w0
 pt:PowTab w0
 nv:NumVars w0
section
variable {w0 X Y:World} {dk:Nat} {s:Dsk} {G:DGh}
theorem DBase.frame {db bb:Nat} {g:Gh} (h:DBase X s db bb g) {F:Nat->Prop} (hf:Fr F X Y) (h1: ∀k,g.foot bb k-> ¬F k) (h2: ¬F db):DBase Y s db bb g:=by
 obtain⟨D,left,log,ps,hb,e1,e2⟩:=h.bi
 exact⟨⟨D,left,log,ps,hb.frame hf h1 h2,e1,e2⟩⟩
theorem DGraph.frame (h:DGraph X s G) {F:Nat->Prop} (hf:Fr F X Y) (h1: ∀k,G.gr k-> ¬F k):DGraph Y s G:=by
 obtain⟨v0,v1,hpm⟩:=h.pm
 refine⟨h.gat.frame hf (h1 _ (.inl rfl)) (h1 _ (.inr (.inl rfl))) (fun b e=>h1 b (.inr (.inr (.inl e)))),h.gp.frame hf fun b hb=> ?_,⟨v0,v1,hf.keeps hpm (h1 _ (.inl rfl))⟩,h.keys,h.kok,h.len,fun k hk=>Nat.lt_of_lt_of_le (h.lt k hk) hf.size⟩
 rcases hb with rfl|⟨u0,u1,hb⟩
 · exact h1 _ (.inl rfl)
 · rw [hpm] at hb
   simp only[Option.some.injEq,Obj.cells.injEq,Array.mk.injEq,List.cons.injEq,Value.map.injEq] at hb
   exact h1 _ (.inr (.inr (.inr hb.1.2.2.1.symm)))
theorem DI.frame (h:DI w0 X dk s G) {F:Nat->Prop} (hf:Fr F X Y) (hF: ∀k,F k->w0.heap.size<=k) (h1: ∀k,G.all dk k-> ¬F k):DI w0 Y dk s G:=
 ⟨hf.keeps h.blk (h1 _ (.inl (.inl rfl))),h.base.frame hf (fun k hk=>h1 k (.inl (.inr (.inr hk)))) (h1 _ (.inl (.inr (.inl rfl)))),h.gra.frame hf (fun k hk=>h1 k (.inr hk)),h.nd,h.ng,h.low,h.be.trans (hf.below (fun k _ e=>hF k e) h.be.size),h.ev,h.pt,h.nv⟩
theorem DI.below (h:DI w0 X dk s G) (hb:Below X.heap.size X Y):DI w0 Y dk s G:=h.frame (F:=fun _=>False) (Fr.new hb) (fun _ e=>e.elim) (fun _ _ e=>e)
theorem DI.dlt (h:DI w0 X dk s G):dk<X.heap.size:=lt_of_block h.blk
theorem DI.cells (h:DI w0 X dk s G):X.cell? ⟨dk,0,none⟩=some (.pointer (some ⟨G.db,0,none⟩))/\X.cell? ⟨dk,1,none⟩=some (.pointer (some ⟨G.bb,0,none⟩))/\X.cell? ⟨dk,2,none⟩=some (.pointer (some ⟨G.gb,0,none⟩))/\dk<X.heap.size:=
 ⟨block_cell h.blk 0,block_cell h.blk 1,block_cell h.blk 2,h.dlt⟩
theorem DI.evX (h:DI w0 X dk s G):ErrVar X:=h.ev.below h.be
theorem DI.ptX (h:DI w0 X dk s G):PowTab X:=h.pt.below h.be
theorem DI.nvX (h:DI w0 X dk s G):NumVars X:=h.nv.below h.be
theorem playE_ok: ∀ {L:List Ent} {st:List (List OpP)×Nat},playE L=some st-> ∀l∈st.1,okL l=true:=by
 intro L
 induction h:L.length generalizing L with
 | zero=>
   intro st hp
   obtain rfl:=List.length_eq_zero_iff.1 h
   cases hp
   intro l hl;cases hl
 | succ n ih=>
   intro st hp
   rcases List.eq_nil_or_concat L with rfl|⟨M,e,rfl⟩
   · cases h
   · rw [List.concat_eq_append] at h hp
     rw[List.length_append,List.length_singleton] at h
     rw[playE_snoc] at hp
     cases hc:playE M with
     | none=>rw[hc] at hp;cases hp
     | some s=>
       rw[hc] at hp
       have h1:=ih (by omega) hc
       have h2:stepE s e=some st:=hp
       cases e with
       | tx l=>
         simp only[stepE] at h2
         split at h2
         · rename_i h3
           cases h2
           intro x hx
           rcases List.mem_append.1 hx with hx|hx
           · exact h1 x hx
           · rw[List.mem_singleton] at hx;rw[hx];exact h3.1
         · cases h2
       | fo n=>
         simp only[stepE] at h2
         split at h2
         · cases h2;exact h1
         · cases h2
theorem DBase.past {db bb:Nat} {g:Gh} (h:DBase X s db bb g): ∃n ps,PastIs X bb 1 (BR db n s.down) s.hist ps g/\ps.gone=s.known/\(∀l∈s.hist,okL l=true)/\s.hist.length<=150/\s.known<=s.hist.length:=by
 obtain⟨D,left,log,ps,hb,e1,e2⟩:=h.bi
 have h1:=playE_len hb.pl
 exact⟨log.length,ps,hb.p,hb.k,playE_ok hb.pl,h1.2.1,h1.2.2⟩
def DOut (a:Ans) (e:Ending):Prop:=(a.1=0/\e= .returned (.string ⟨a.2.toArray⟩))\/(a.1≠0/\e= .panicked (wrongP a.1))
theorem dout_ok {t:List UInt8} {x:ByteArray} (h:x.data.toList=t):DOut (0,t) (.returned (.string x)):= .inl ⟨rfl,by rw[<-h]⟩
theorem dout_bad {n:Int} {t:List UInt8} (h:n≠0):DOut (n,t) (.panicked (wrongP n)):= .inr ⟨h,rfl⟩
structure DPost (w0 X:World) (dk:Nat) (G:DGh) (r:Dsk×Ans) (e:Ending) (Y:World):Prop where
 out:DOut r.2 e
 di: ∃G',DI w0 Y dk r.1 G' /\Fr (G.foot dk) X Y/\ ∀k,G'.all dk k->G.all dk k\/X.heap.size<=k
theorem DPost.same (h:DI w0 X dk s G) {a:Ans} {e:Ending} (ho:DOut a e) (hb:Below X.heap.size X Y):DPost w0 X dk G (s,a) e Y:=
 ⟨ho,G,h.below hb,Fr.new hb,fun _ hk=> .inl hk⟩
theorem DPost.later {r:Dsk×Ans} {e:Ending} {Z:World} (hs:X.heap.size<=Y.heap.size) (hb:Below X.heap.size X Y) (h:DPost w0 Y dk G r e Z):DPost w0 X dk G r e Z:=by
 obtain⟨G',h1,h2,h3⟩:=h.di
 refine⟨h.out,G',h1,⟨h2.os.trans hb.os,h2.tape.trans hb.tape,h2.output.trans hb.output,Nat.le_trans hs h2.size,fun k hk hn=>(h2.block k (Nat.lt_of_lt_of_le hk hs) hn).trans (hb.block k hk)⟩,fun k hk=>(h3 k hk).imp id fun e=>Nat.le_trans hs e⟩
end
end Go.Proofs.YtpgkjnebklknjaaGreatDoor
namespace Go.Proofs.YtpgkjnebklknjaaGreatDoor
open Go.RowKit Go.Deep Go.Shelf Go.Sort Go.Maps
theorem goW_len: ∀ {f:List Bool} {l:List ByteArray},f.length≠l.length->goW f l=none
 | [],[],h=>absurd rfl h
 | [],_::_,_=>rfl
 | true::_,[],_=>rfl
 | false::_,[],_=>rfl
 | true::f,x::l,h=>by
   show((numB x).bind fun n=>(goW f l).map fun q=>(n::q.1,q.2))=none
   rw[goW_len (f:=f) (l:=l) (fun e=>h (by rw[List.length_cons,List.length_cons,e]))]
   cases numB x<;>rfl
 | false::f,x::l,h=>by
   show((goW f l).map fun q=>(q.1,x::q.2))=none
   rw[goW_len (f:=f) (l:=l) (fun e=>h (by rw[List.length_cons,List.length_cons,e]))]
   rfl
theorem goW_nums: ∀(n:Nat) (l:List ByteArray),l.length=n->goW (List.replicate n true) l=(numsL l).map fun q=>(q,[])
 | 0,[],_=>rfl
 | n + 1,x::l,h=>by
   show((numB x).bind fun m=>(goW (List.replicate n true) l).map fun q=>(m::q.1,q.2))=((numB x).bind fun m=>(numsL l).map fun q=>m::q).map fun q=>(q,[])
   rw[goW_nums n l (by simpa using h)]
   cases numB x with
   | none=>rfl
   | some m=>cases numsL l<;>rfl
 | 0,_::_,h=>by simp at h
 | n+1,[],h=>by simp at h
theorem does_len {s:Dsk} {c:Cm} {l:List ByteArray} (h:(formC c).length≠l.length):doesD s c l=(s,(3,[])):=by
 unfold doesD;rw[goW_len h]
def keyForm (n:Nat):List Bool:=true::true::false::true::List.replicate n true
theorem keyF_some {n:Nat} {l:List ByteArray} {k:KeyP} {q:List Int} (h:keyF n l=some (k,q)):
  ∃x2∈l,k.word=plainB x2/\goW (keyForm n) l=some (k.kind::k.a::k.b::q,[x2])/\q.length=n/\(i64 k.kind/\i64 k.a/\i64 k.b)/\(∀m∈q,i64 m)/\l.length=4+n:=by
 unfold keyF at h
 split at h
 · rename_i x0 x1 x2 x3 r
   split at h
   · rename_i hr
     cases h0:numB x0 with
     | none=>rw[h0] at h;cases h
     | some k0=>
       cases h1:numB x1 with
       | none=>rw[h0,h1] at h;cases h
       | some k1=>
         cases h3:numB x3 with
         | none=>rw[h0,h1,h3] at h;cases h
         | some k3=>
           cases h4:numsL r with
           | none=>rw[h0,h1,h3,h4] at h;cases h
           | some p=>
             rw[h0,h1,h3,h4] at h
             cases h
             refine⟨x2,by simp,rfl,?_,by rw[numsL_len h4];exact hr,⟨numB_i64 h0,numB_i64 h1,numB_i64 h3⟩,numsL_i64 h4,by simp only[List.length_cons];omega⟩
             show((numB x0).bind fun m=>((numB x1).bind fun m' =>(((numB x3).bind fun m'' =>(goW (List.replicate n true) r).map fun q=>(m'' ::q.1,q.2)).map fun q=>(q.1,x2::q.2)).map fun q=>(m' ::q.1,q.2)).map fun q=>(m::q.1,q.2))=_
             rw[h0,h1,h3,goW_nums n r hr,h4]
             rfl
   · cases h
 · cases h
theorem keyF_none {n:Nat} {l:List ByteArray} (h:keyF n l=none):goW (keyForm n) l=none:=by
 by_cases hl:l.length=4+n
 · obtain⟨x0,x1,x2,x3,r,rfl,hr⟩:=four_of hl
   rw[keyF_4 hr] at h
   show((numB x0).bind fun m=>((numB x1).bind fun m' =>(((numB x3).bind fun m'' =>(goW (List.replicate n true) r).map fun q=>(m'' ::q.1,q.2)).map fun q=>(q.1,x2::q.2)).map fun q=>(m' ::q.1,q.2)).map fun q=>(m::q.1,q.2))=none
   rw[goW_nums n r hr]
   cases h0:numB x0 with
   | none=>rfl
   | some k0=>
     cases h1:numB x1 with
     | none=>rfl
     | some k1=>
       cases h3:numB x3 with
       | none=>rfl
       | some k3=>
         cases h4:numsL r with
         | none=>rfl
         | some p=>rw[h0,h1,h3,h4] at h;cases h
 · exact goW_len (by unfold keyForm;simp only[List.length_cons,List.length_replicate];omega)
theorem two_of {q:List Int} (h:q.length=2): ∃a b,q= [a,b]:=by
 match q,h with
 | [a,b],_=>exact⟨a,b,rfl⟩
theorem one_of {q:List Int} (h:q.length=1): ∃a,q= [a]:=by
 match q,h with
 | [a],_=>exact⟨a,rfl⟩
theorem fourI_of {q:List Int} (h:q.length=4): ∃a b c d,q= [a,b,c,d]:=by
 match q,h with
 | [a,b,c,d],_=>exact⟨a,b,c,d,rfl⟩
theorem does_key_none {s:Dsk} {c:Cm} {n:Nat} {l:List ByteArray} (hc:formC c=keyForm n) (h:keyF n l=none):doesD s c l=(s,(3,[])):=by
 unfold doesD;rw[hc,keyF_none h]
theorem key_eta {k:KeyP} {x:ByteArray} (h:k.word=plainB x):(⟨k.kind,k.a,plainB x,k.b⟩:KeyP)=k:=by rw[<-h]
theorem does_value {s:Dsk} {l:List ByteArray} {k:KeyP} {a t:Int} (h:keyF 2 l=some (k,[a,t])):doesD s .value l=(s,((valR s.hist s.known k a t).2,dashL (valR s.hist s.known k a t).1)):=by
 obtain⟨x2,_,hw,hg,_⟩:=keyF_some h
 unfold doesD
 rw[show formC .value=keyForm 2 from rfl,hg]
 simp only[actD]
 rw[key_eta hw]
theorem does_pieces {s:Dsk} {l:List ByteArray} {k:KeyP} {a:Int} (h:keyF 1 l=some (k,[a])):doesD s .pieces l=(s,(pieRE s.hist s.known k a,[112,105,101,99,101,115,32]++pcsT (pcsF s.hist s.known k a))):=by
 obtain⟨x2,_,hw,hg,_⟩:=keyF_some h
 unfold doesD
 rw[show formC .pieces=keyForm 1 from rfl,hg]
 simp only[actD]
 rw[key_eta hw]
theorem does_ever {s:Dsk} {l:List ByteArray} {k:KeyP} {a b f t:Int} (h:keyF 4 l=some (k,[a,b,f,t])):doesD s .ever l=(s,(everRE s.hist s.known k a b f t,[101,118,101,114,32]++Lib.join ((evsF s.hist s.known k a b f t).map (·.data.toList)) [32])):=by
 obtain⟨x2,_,hw,hg,_⟩:=keyF_some h
 unfold doesD
 rw[show formC .ever=keyForm 4 from rfl,hg]
 simp only[actD]
 rw[key_eta hw]
theorem does_keys {s:Dsk} {l:List ByteArray} {a t:Int} (hl:l.length=2) (h:numsL l=some [a,t]):doesD s .keys l=(s,(keyRE s.hist s.known a t,[107,101,121,115,32]++keysT (ksF s.hist s.known a t))):=by
 unfold doesD
 rw[show formC .keys=List.replicate 2 true from rfl,goW_nums 2 l hl,h]
 rfl
theorem does_at {s:Dsk} {l:List ByteArray} {a t:Int} (hl:l.length=2) (h:numsL l=some [a,t]):doesD s .at l=if keyRE s.hist s.known a t=0 then ({ s with gh:=s.hist,ga:=a.toNat,gt:=t },(0,[97,116])) else (s,(keyRE s.hist s.known a t,[])):=by
 unfold doesD
 rw[show formC .at=List.replicate 2 true from rfl,goW_nums 2 l hl,h]
 rfl
theorem does_nums_none {s:Dsk} {c:Cm} {n:Nat} {l:List ByteArray} (hc:formC c=List.replicate n true) (hl:l.length=n) (h:numsL l=none):doesD s c l=(s,(3,[])):=by
 unfold doesD;rw[hc,goW_nums n l hl,h];rfl
theorem does_cut {s:Dsk} {x:ByteArray} {n:Int} (h:numB x=some n):doesD s .cut [x]=({ s with cut:=decide (0<=n),left:=n },(0,[99,117,116])):=by
 unfold doesD
 show(match (numB x).bind fun m=>(goW [] []).map fun q=>(m::q.1,q.2) with|some q=>actD s .cut q.1 q.2|none=>(s,(3,[])))=_
 rw[h];rfl
theorem does_forget {s:Dsk} {x:ByteArray} {n:Int} (h:numB x=some n):doesD s .forget [x]=forD s n:=by
 unfold doesD
 show(match (numB x).bind fun m=>(goW [] []).map fun q=>(m::q.1,q.2) with|some q=>actD s .forget q.1 q.2|none=>(s,(3,[])))=_
 rw[h];rfl
theorem does_one_none {s:Dsk} {c:Cm} {x:ByteArray} (hc:formC c= [true]) (h:numB x=none):doesD s c [x]=(s,(3,[])):=by
 unfold doesD
 rw[hc]
 show(match (numB x).bind fun m=>(goW [] []).map fun q=>(m::q.1,q.2) with|some q=>actD s c q.1 q.2|none=>(s,(3,[])))=_
 rw[h];rfl
theorem does_prop {s:Dsk} {x y:ByteArray} {n:Int} (h:numB x=some n):doesD s .prop [x,y]=(s,((propP s.G n y).2,(propP s.G n y).1.data.toList)):=by
 unfold doesD
 show(match (numB x).bind fun m=>(goW [false] [y]).map fun q=>(m::q.1,q.2) with|some q=>actD s .prop q.1 q.2|none=>(s,(3,[])))=_
 rw[h];rfl
theorem does_prop_none {s:Dsk} {x y:ByteArray} (h:numB x=none):doesD s .prop [x,y]=(s,(3,[])):=by
 unfold doesD
 show(match (numB x).bind fun m=>(goW [false] [y]).map fun q=>(m::q.1,q.2) with|some q=>actD s .prop q.1 q.2|none=>(s,(3,[])))=_
 rw[h];rfl
theorem does_hops {s:Dsk} {x y z:ByteArray} {n h:Int} (hq:numsL [x,z]=some [n,h]):doesD s .hops [x,y,z]=(s,(hopE s.G n h,[104,111,112,115,32]++wordsT (hopsR s.G n (plainB y) h))):=by
 unfold doesD
 show(match (numB x).bind fun m=>(((numB z).bind fun m' =>(goW [] []).map fun q=>(m' ::q.1,q.2)).map fun q=>(q.1,y::q.2)).map fun q=>(m::q.1,q.2) with|some q=>actD s .hops q.1 q.2|none=>(s,(3,[])))=_
 have hq:((numB x).bind fun m=>((numB z).bind fun m' =>some [m']).map fun q=>m::q)=some [n,h]:=hq
 cases hx:numB x with
 | none=>rw[hx] at hq;cases hq
 | some m=>
   cases hz:numB z with
   | none=>rw[hx,hz] at hq;cases hq
   | some m' =>
     rw[hx,hz] at hq
     cases hq
     rfl
theorem does_hops_none {s:Dsk} {x y z:ByteArray} (hq:numsL [x,z]=none):doesD s .hops [x,y,z]=(s,(3,[])):=by
 unfold doesD
 show(match (numB x).bind fun m=>(((numB z).bind fun m' =>(goW [] []).map fun q=>(m' ::q.1,q.2)).map fun q=>(q.1,y::q.2)).map fun q=>(m::q.1,q.2) with|some q=>actD s .hops q.1 q.2|none=>(s,(3,[])))=_
 have hq:((numB x).bind fun m=>((numB z).bind fun m' =>some [m']).map fun q=>m::q)=none:=hq
 cases hx:numB x with
 | none=>rfl
 | some m=>
   cases hz:numB z with
   | none=>rfl
   | some m' =>rw[hx,hz] at hq;cases hq
theorem does_way {s:Dsk} {x y z:ByteArray} {n m:Int} (hq:numsL [x,y]=some [n,m]):doesD s .way [x,y,z]=(s,((wayF s.gh s.ga s.gt s.L n m (plainB z)).1,[119,97,121,32]++wordsT (wayF s.gh s.ga s.gt s.L n m (plainB z)).2)):=by
 unfold doesD
 show(match (numB x).bind fun m=>((numB y).bind fun m' =>(goW [false] [z]).map fun q=>(m' ::q.1,q.2)).map fun q=>(m::q.1,q.2) with|some q=>actD s .way q.1 q.2|none=>(s,(3,[])))=_
 have hq:((numB x).bind fun m=>((numB y).bind fun m' =>some [m']).map fun q=>m::q)=some [n,m]:=hq
 cases hx:numB x with
 | none=>rw[hx] at hq;cases hq
 | some m=>
   cases hz:numB y with
   | none=>rw[hx,hz] at hq;cases hq
   | some m' =>
     rw[hx,hz] at hq
     cases hq
     rfl
theorem does_way_none {s:Dsk} {x y z:ByteArray} (hq:numsL [x,y]=none):doesD s .way [x,y,z]=(s,(3,[])):=by
 unfold doesD
 show(match (numB x).bind fun m=>((numB y).bind fun m' =>(goW [false] [z]).map fun q=>(m' ::q.1,q.2)).map fun q=>(m::q.1,q.2) with|some q=>actD s .way q.1 q.2|none=>(s,(3,[])))=_
 have hq:((numB x).bind fun m=>((numB y).bind fun m' =>some [m']).map fun q=>m::q)=none:=hq
 cases hx:numB x with
 | none=>rfl
 | some m=>
   cases hz:numB y with
   | none=>rfl
   | some m' =>rw[hx,hz] at hq;cases hq
end Go.Proofs.YtpgkjnebklknjaaGreatDoor
