/-The program's Write. The condition:the library's table of powers of ten is as its own text lays it. -/
import Derived.Laws.EntriesVeiled
import Derived.Test.YtpgkjnebklknjaaGreatDoorFcGJr
import Derived.Test.YtpgkjnebklknjaaGreatDoorErrCJr
import Derived.Test.YtpgkjnebklknjaaGreatDoorBesideJr
namespace Go.Proofs.YtpgkjnebklknjaaGreatDoor
open Go.RowKit
theorem textsAt_new (V:World) (l:List ByteArray) {cs:Array Value} {t:TypeId} (h:cs.toList=l.map Value.string):textsAt (V.alloc (.cells cs t)) (some ⟨V.heap.size,0,none⟩) l:=by
 intro i x hi
 refine⟨V.heap.size,0,rfl,?_⟩
 rw[Nat.zero_add]
 have:cs[i]? =some (.string x):=by rw[<-Array.getElem?_toList,h];simp[hi]
 simp[this]
def bytesL (l:List (List UInt8)):List ByteArray:=l.map fun p=>⟨p.toArray⟩
theorem bytesL_data (l:List (List UInt8)):(bytesL l).map (·.data.toList)=l:=by
 unfold bytesL;rw[List.map_map];show List.map (fun p=>p.toArray.toList) l=l;simp
theorem bytesL_length (l:List (List UInt8)):(bytesL l).length=l.length:=by simp[bytesL]
def opBs (o:OpP):List ByteArray:=bytesL (opWs o)
abbrev OpS:={o:OpP // o.key.word.size<=100000/\o.value.size<=100000}
instance:Inhabited OpS:=⟨⟨⟨⟨0,0,ByteArray.empty,0⟩,0,0,ByteArray.empty⟩,by decide⟩⟩
theorem idx_eq {α:Type} (p:α->Bool) (x:α): ∀(zs:List α) (i:Nat),Lib.idxByFrom (fun _ y=>p y) x zs i=if zs.any p then ((i+zs.findIdx p:Nat):Int) else-1
 | [],i=>by simp[Lib.idxByFrom]
 | z ::zs,i=>by
   rw[Lib.idxByFrom]
   cases h:p z
   · rw [if_neg (by simp),idx_eq p x zs (i+1)]
     simp only[List.any_cons,h,Bool.false_or,List.findIdx_cons,cond_false]
     split<;>simp;omega
   · simp[h,List.findIdx_cons]
def firstBadI (l:List OpP):Int:=if l.all opB then-1 else (l.findIdx fun o=> !opB o:Nat)
def ErrNil (v:Value) (n:Int):Prop:=(v= .nilIface/\n=0)\/((∃t p,v= .iface t p)/\n≠0)
def fwφ (ob:Nat) (n a m x y:Int) (s u:ByteArray):Nat->World->Value->Prop:=fun i V v=>match i with
 | 0=>v= .pointer (some ⟨ob,0,none⟩)
 | 1=>v= .pointer (some ⟨ob,0,none⟩)
 | 2=>v= .int .i64 n
 | 3=>v= .string ⟨(Lib.itoa n).toArray⟩
 | 4=>v= .pointer (some ⟨ob,0,none⟩)
 | 5=>v= .pointer (some ⟨ob,1,none⟩)
 | 6=>v= .int .i64 a
 | 7=>v= .string ⟨(Lib.itoa a).toArray⟩
 | 8=>v= .pointer (some ⟨ob,0,none⟩)
 | 9=>v= .pointer (some ⟨ob,2,none⟩)
 | 10=>v= .string s
 | 11=>v= .string ⟨(dashL s).toArray⟩
 | 12=>v= .pointer (some ⟨ob,0,none⟩)
 | 13=>v= .pointer (some ⟨ob,3,none⟩)
 | 14=>v= .int .i64 m
 | 15=>v= .string ⟨(Lib.itoa m).toArray⟩
 | 16=>v= .pointer (some ⟨ob,4,none⟩)
 | 17=>v= .pointer (some ⟨ob,4,none⟩)
 | 18=>v= .int .i64 x
 | 19=>v= .string ⟨(Lib.itoa x).toArray⟩
 | 20=>v= .pointer (some ⟨ob,4,none⟩)
 | 21=>v= .pointer (some ⟨ob,5,none⟩)
 | 22=>v= .int .i64 y
 | 23=>v= .string ⟨(Lib.itoa y).toArray⟩
 | 24=>v= .pointer (some ⟨ob,6,none⟩)
 | 25=>v= .string u
 | 26=>v= .string ⟨(dashL u).toArray⟩
 | 27=> ∃g,v= .slice (some ⟨g,0,none⟩) 7 7/\textsAt V (some ⟨g,0,none⟩) (opBs ⟨⟨n,a,s,m⟩,x,y,u⟩)
 | _=>True
theorem fwφ_0 (ob:Nat) (n a m x y:Int) (s u:ByteArray) (V:World) (v:Value) (h:fwφ ob n a m x y s u 0 V v):v= .pointer (some ⟨ob,0,none⟩):=h
theorem fwφ_1 (ob:Nat) (n a m x y:Int) (s u:ByteArray) (V:World) (v:Value) (h:fwφ ob n a m x y s u 1 V v):v= .pointer (some ⟨ob,0,none⟩):=h
theorem fwφ_2 (ob:Nat) (n a m x y:Int) (s u:ByteArray) (V:World) (v:Value) (h:fwφ ob n a m x y s u 2 V v):v= .int .i64 n:=h
theorem fwφ_3 (ob:Nat) (n a m x y:Int) (s u:ByteArray) (V:World) (v:Value) (h:fwφ ob n a m x y s u 3 V v):v= .string ⟨(Lib.itoa n).toArray⟩:=h
theorem fwφ_4 (ob:Nat) (n a m x y:Int) (s u:ByteArray) (V:World) (v:Value) (h:fwφ ob n a m x y s u 4 V v):v= .pointer (some ⟨ob,0,none⟩):=h
theorem fwφ_5 (ob:Nat) (n a m x y:Int) (s u:ByteArray) (V:World) (v:Value) (h:fwφ ob n a m x y s u 5 V v):v= .pointer (some ⟨ob,1,none⟩):=h
theorem fwφ_6 (ob:Nat) (n a m x y:Int) (s u:ByteArray) (V:World) (v:Value) (h:fwφ ob n a m x y s u 6 V v):v= .int .i64 a:=h
theorem fwφ_7 (ob:Nat) (n a m x y:Int) (s u:ByteArray) (V:World) (v:Value) (h:fwφ ob n a m x y s u 7 V v):v= .string ⟨(Lib.itoa a).toArray⟩:=h
theorem fwφ_8 (ob:Nat) (n a m x y:Int) (s u:ByteArray) (V:World) (v:Value) (h:fwφ ob n a m x y s u 8 V v):v= .pointer (some ⟨ob,0,none⟩):=h
theorem fwφ_9 (ob:Nat) (n a m x y:Int) (s u:ByteArray) (V:World) (v:Value) (h:fwφ ob n a m x y s u 9 V v):v= .pointer (some ⟨ob,2,none⟩):=h
theorem fwφ_10 (ob:Nat) (n a m x y:Int) (s u:ByteArray) (V:World) (v:Value) (h:fwφ ob n a m x y s u 10 V v):v= .string s:=h
theorem fwφ_11 (ob:Nat) (n a m x y:Int) (s u:ByteArray) (V:World) (v:Value) (h:fwφ ob n a m x y s u 11 V v):v= .string ⟨(dashL s).toArray⟩:=h
theorem fwφ_12 (ob:Nat) (n a m x y:Int) (s u:ByteArray) (V:World) (v:Value) (h:fwφ ob n a m x y s u 12 V v):v= .pointer (some ⟨ob,0,none⟩):=h
theorem fwφ_13 (ob:Nat) (n a m x y:Int) (s u:ByteArray) (V:World) (v:Value) (h:fwφ ob n a m x y s u 13 V v):v= .pointer (some ⟨ob,3,none⟩):=h
theorem fwφ_14 (ob:Nat) (n a m x y:Int) (s u:ByteArray) (V:World) (v:Value) (h:fwφ ob n a m x y s u 14 V v):v= .int .i64 m:=h
theorem fwφ_15 (ob:Nat) (n a m x y:Int) (s u:ByteArray) (V:World) (v:Value) (h:fwφ ob n a m x y s u 15 V v):v= .string ⟨(Lib.itoa m).toArray⟩:=h
theorem fwφ_16 (ob:Nat) (n a m x y:Int) (s u:ByteArray) (V:World) (v:Value) (h:fwφ ob n a m x y s u 16 V v):v= .pointer (some ⟨ob,4,none⟩):=h
theorem fwφ_17 (ob:Nat) (n a m x y:Int) (s u:ByteArray) (V:World) (v:Value) (h:fwφ ob n a m x y s u 17 V v):v= .pointer (some ⟨ob,4,none⟩):=h
theorem fwφ_18 (ob:Nat) (n a m x y:Int) (s u:ByteArray) (V:World) (v:Value) (h:fwφ ob n a m x y s u 18 V v):v= .int .i64 x:=h
theorem fwφ_19 (ob:Nat) (n a m x y:Int) (s u:ByteArray) (V:World) (v:Value) (h:fwφ ob n a m x y s u 19 V v):v= .string ⟨(Lib.itoa x).toArray⟩:=h
theorem fwφ_20 (ob:Nat) (n a m x y:Int) (s u:ByteArray) (V:World) (v:Value) (h:fwφ ob n a m x y s u 20 V v):v= .pointer (some ⟨ob,4,none⟩):=h
theorem fwφ_21 (ob:Nat) (n a m x y:Int) (s u:ByteArray) (V:World) (v:Value) (h:fwφ ob n a m x y s u 21 V v):v= .pointer (some ⟨ob,5,none⟩):=h
theorem fwφ_22 (ob:Nat) (n a m x y:Int) (s u:ByteArray) (V:World) (v:Value) (h:fwφ ob n a m x y s u 22 V v):v= .int .i64 y:=h
theorem fwφ_23 (ob:Nat) (n a m x y:Int) (s u:ByteArray) (V:World) (v:Value) (h:fwφ ob n a m x y s u 23 V v):v= .string ⟨(Lib.itoa y).toArray⟩:=h
theorem fwφ_24 (ob:Nat) (n a m x y:Int) (s u:ByteArray) (V:World) (v:Value) (h:fwφ ob n a m x y s u 24 V v):v= .pointer (some ⟨ob,6,none⟩):=h
theorem fwφ_25 (ob:Nat) (n a m x y:Int) (s u:ByteArray) (V:World) (v:Value) (h:fwφ ob n a m x y s u 25 V v):v= .string u:=h
theorem fwφ_26 (ob:Nat) (n a m x y:Int) (s u:ByteArray) (V:World) (v:Value) (h:fwφ ob n a m x y s u 26 V v):v= .string ⟨(dashL u).toArray⟩:=h
theorem fwφ_27 (ob:Nat) (n a m x y:Int) (s u:ByteArray) (V:World) (v:Value) (h:fwφ ob n a m x y s u 27 V v): ∃g,v= .slice (some ⟨g,0,none⟩) 7 7/\textsAt V (some ⟨g,0,none⟩) (opBs ⟨⟨n,a,s,m⟩,x,y,u⟩):=h
theorem fwφ_mono (ob:Nat) (n a m x y:Int) (s u:ByteArray) (i:Nat) (V V' :World) (v:Value) (hb:Below V.heap.size V V') (h:fwφ ob n a m x y s u i V v):fwφ ob n a m x y s u i V' v:=
 match i,h with
 | 0,h=>h
 | 1,h=>h
 | 2,h=>h
 | 3,h=>h
 | 4,h=>h
 | 5,h=>h
 | 6,h=>h
 | 7,h=>h
 | 8,h=>h
 | 9,h=>h
 | 10,h=>h
 | 11,h=>h
 | 12,h=>h
 | 13,h=>h
 | 14,h=>h
 | 15,h=>h
 | 16,h=>h
 | 17,h=>h
 | 18,h=>h
 | 19,h=>h
 | 20,h=>h
 | 21,h=>h
 | 22,h=>h
 | 23,h=>h
 | 24,h=>h
 | 25,h=>h
 | 26,h=>h
 | 27,h=>let ⟨g,e,hg⟩:=h;⟨g,e,hg.below hb⟩
 | _+28,_=>trivial
theorem fwφ_list {X:List Value} (h:X.length=28): ∃x0 x1 x2 x3 x4 x5 x6 x7 x8 x9 x10 x11 x12 x13 x14 x15 x16 x17 x18 x19 x20 x21 x22 x23 x24 x25 x26 x27,X= [x0,x1,x2,x3,x4,x5,x6,x7,x8,x9,x10,x11,x12,x13,x14,x15,x16,x17,x18,x19,x20,x21,x22,x23,x24,x25,x26,x27]:=
 match X,h with| [x0,x1,x2,x3,x4,x5,x6,x7,x8,x9,x10,x11,x12,x13,x14,x15,x16,x17,x18,x19,x20,x21,x22,x23,x24,x25,x26,x27],_=>⟨x0,x1,x2,x3,x4,x5,x6,x7,x8,x9,x10,x11,x12,x13,x14,x15,x16,x17,x18,x19,x20,x21,x22,x23,x24,x25,x26,x27,rfl⟩
theorem indexOp_any (ao:Option Addr) (c:Nat) (l:List OpP) (w:World) (hl:opsAt w ao l) (hn:l.length<=20) (h0:1<=l.length) (hs: ∀o∈l,o.key.word.size<=100000/\o.value.size<=100000):
  Calls Tryz.prog 223 #[.slice ao l.length c,.func (.func 224) #[] #[]] w fun e w' =>e= .returned (.int .i64 (firstBadI l))/\Below w.heap.size w w' :=by
 obtain⟨zs,rfl⟩: ∃zs:List OpS,l=zs.map (·.1):=⟨l.attach.map fun o=>⟨o.1,hs o.1 o.2⟩,by simp⟩
 have hlz:(zs.map (·.1)).length=zs.length:=by simp
 rw[hlz] at hn h0 ⊢
 obtain⟨b,f,rfl,hb⟩: ∃b f,ao=some ⟨b,f,none⟩/\b<w.heap.size:=by
  obtain⟨b,f,h1,h2⟩:=hl 0 (zs[0].1) (by rw[List.getElem?_map,List.getElem?_eq_getElem (by omega)];rfl)
  exact⟨b,f,h1,World.block_lt_of_cell? w _ (h2 0 _ rfl)⟩
 have hc: ∀j,j<zs.length-> ∀i v,(opCells (zs[j]!).1)[i]? =some v->w.cell? ⟨b,f+j*7+i,none⟩=some v:=fun j hj i v hv=>by
  obtain⟨b',f',h1,h2⟩:=hl j (zs[j]!).1 (by simp[hj])
  cases h1
  exact h2 i v hv
 have :=AnyQ.slices_IndexFunc Tryz.indexOp 7 Tryz.isAgg148 Tryz.sizeOf148 (fun x:OpS=>opCells x.1) (fun _=>rfl) (fun x:OpS=> !opB x.1) 224 #[] (enters_of Tryz.func224 (by kernel_rfl) rfl) b f zs.length c zs w
  (fun W x hW=>by rw[Array.append_empty];exact(fwrite1_any x.1.key.kind x.1.key.a x.1.key.b x.1.fr x.1.to x.1.key.word x.1.value W (by have:=x.2;unfold maxLen;omega) (by have:=x.2;unfold maxLen;omega)).mono fun e w' ⟨h1,h2⟩=>⟨h1,hW.trans (h2.mono hW.size)⟩) (Nat.le_refl _) (by omega) hb hc
 refine this.mono fun e w' ⟨he,hb'⟩=>⟨?_,hb'⟩
 rw[he,List.take_length]
 unfold Lib.idxBy firstBadI
 rw[idx_eq]
 have e1:zs.any (fun x=> !opB x.1)= !(zs.map (·.1)).all opB:=by
  rw[List.all_map,Bool.eq_iff_iff];simp
 have e2:zs.findIdx (fun x=> !opB x.1)=(zs.map (·.1)).findIdx fun o=> !opB o:=by rw[List.findIdx_map];rfl
 rw[e1,e2]
 cases (zs.map (·.1)).all opB<;>simp
set_option maxRecDepth 100000 in
set_option maxHeartbeats 2000000 in
theorem fwrite_any (ao:Option Addr) (c:Nat) (l:List OpP) (w:World) (hl:opsAt w ao l) (hm:l.length<=maxLen) (hs: ∀o∈l,o.key.word.size<=100000/\o.value.size<=100000) (ht:PowTab w):
  Calls Tryz.prog 162 #[.slice ao l.length c] w fun e w' =>(∃v,e= .returned (.tuple #[.string ⟨(writeR l).1.toArray⟩,v])/\ErrIs w' v (writeR l).2.1 (writeR l).2.2/\ErrNil v (writeR l).2.1)/\Below w.heap.size w w' :=by
 cases hlen:lenB l
 · rw [writeR_len hlen]
   have hd:l.length<1\/8<l.length:=by unfold lenB at hlen;simp at hlen;omega
   clear hlen hl hs ht
   unfold maxLen at hm
   rcases hd with hd|hd
   · go_enter Tryz.func162,Tryz.ntmps162
     go_wp2
     exact bodyPost_ret (v:= .tuple #[.string ⟨#[]⟩,.iface 56 (.int .i64 4)]) (by simp[results,Tryz.results162,go_sem]) rfl ⟨⟨_,rfl,Or.inr (Or.inl ⟨rfl,rfl⟩),Or.inr ⟨⟨_,_,rfl⟩,by decide⟩⟩,Below.refl _ _⟩
   · go_enter Tryz.func162,Tryz.ntmps162
     go_wp2
     exact bodyPost_ret (v:= .tuple #[.string ⟨#[]⟩,.iface 56 (.int .i64 4)]) (by simp[results,Tryz.results162,go_sem]) rfl ⟨⟨_,rfl,Or.inr (Or.inl ⟨rfl,rfl⟩),Or.inr ⟨⟨_,_,rfl⟩,by decide⟩⟩,Below.refl _ _⟩
 · have hd:1<=l.length/\l.length<=8:=by unfold lenB at hlen;simpa using hlen
   obtain⟨hd1,hd2⟩:=hd
   have hn:=lenB_le hlen
   have hI:=indexOp_any ao c l w hl (by omega) hd1 hs
   have HLen:=Lib.hid hlen
   have HS:=Lib.hid hs
   have HT:=Lib.hid ht
   have HL:=Lib.hid hl
   clear hs ht hl hlen
   cases hall:l.all opB
   · have hk:firstBadI l=((l.findIdx fun o=> !opB o:Nat):Int):=by unfold firstBadI;rw[hall];rfl
     have hR:writeR l=([],1,((l.findIdx fun o=> !opB o:Nat):Int)):=by unfold writeR;rw[HLen.out,hall];rfl
     rw[hk] at hI
     rw[hR]
     generalize (l.findIdx fun o=> !opB o)=k at*
     have HI:=Lib.hid hI
     clear hI hk hR hall
     go_enter Tryz.func162,Tryz.ntmps162
     go_wp2_with (go_at_call 223;refine HI.out.mono ?_;rintro e w1 ⟨rfl,h1⟩)
     exact bodyPost_ret (v:= .tuple #[.string ⟨#[]⟩,.iface 288 (.pointer (some ⟨w1.heap.size,0,none⟩))]) (by simp[results,Tryz.results162,go_sem]) rfl ⟨⟨_,rfl,Or.inr (Or.inr ⟨_,rfl,by simp,by simp⟩),Or.inr ⟨⟨_,_,rfl⟩,by show(1:Int)≠0;decide⟩⟩,h1.alloc h1.size _⟩
   · have hk:firstBadI l= -1:=by unfold firstBadI;rw[hall];rfl
     rw[hk] at hI
     rw[writeR_good HLen.out hall]
     have HI:=Lib.hid hI
     have HA:=Lib.hid hall
     clear hI hk hall
     go_enter Tryz.func162,Tryz.ntmps162
     go_wp2_with (go_at_call 223;refine HI.out.mono ?_;rintro e w1 ⟨rfl,h1⟩)
     have HB:=Lib.hid h1
     clear h1
     go_loopw [5,28] (fun v i wr=> ∃k:Nat,k<=l.length/\i= .int .i64 k/\wr.ownsRow w.heap.size 9 1 v (bytesL ((l.take k).map opT)).length ((bytesL ((l.take k).map opT)).map Value.string)/\Below w.heap.size w wr) (fun _ i _=>l.length-(intOf i).toNat)
     case atStart=>exact⟨0,by omega,rfl,World.ownsRow_nil _ _ _ _,HB.out⟩
     case round=>
      obtain⟨k,hk,rfl,hown,hB⟩:=hrel
      by_cases hlt:k<l.length
      · have hBr:=HB.out
        obtain⟨b,f,n,a,s,m,x,y,u,g1,rfl,hb,c0,c1,c2,c3,c4,c5,c6⟩:=opsAt_get (HL.out.below hB) hlt
        have hmem:(⟨⟨n,a,s,m⟩,x,y,u⟩:OpP)∈l:=List.mem_of_getElem? g1.out
        have hsz:=HS.out _ hmem
        simp only at hsz
        have hv:opB ⟨⟨n,a,s,m⟩,x,y,u⟩=true:=List.all_eq_true.1 HA.out _ hmem
        have hwf:=opB_wf hv
        have hlen1:=Lib.hid (opT_len hv)
        obtain⟨i1,i2,i3,i4,i5⟩:=hwf
        obtain⟨w2,hW1⟩: ∃W1,W1=wr.alloc (.cells #[.int .i64 n,.int .i64 a,.string s,.int .i64 m,.int .i64 x,.int .i64 y,.string u] 148):=⟨_,rfl⟩
        have b1:Below wr.heap.size wr w2:=by rw[hW1];exact(Below.refl _ wr).alloc (Nat.le_refl _) _
        have hoW:wr.heap.size<w2.heap.size:=by rw[hW1];simp
        obtain⟨ob,hob⟩: ∃ob,ob=wr.heap.size:=⟨_,rfl⟩
        rw[<-hob] at hoW
        have c0:w2.cell? ⟨ob,0,none⟩=some (.int .i64 n):=by rw[hob,hW1];simp
        have c1:w2.cell? ⟨ob,1,none⟩=some (.int .i64 a):=by rw[hob,hW1];simp
        have c2:w2.cell? ⟨ob,2,none⟩=some (.string s):=by rw[hob,hW1];simp
        have c3:w2.cell? ⟨ob,3,none⟩=some (.int .i64 m):=by rw[hob,hW1];simp
        have c4:w2.cell? ⟨ob,4,none⟩=some (.int .i64 x):=by rw[hob,hW1];simp
        have c5:w2.cell? ⟨ob,5,none⟩=some (.int .i64 y):=by rw[hob,hW1];simp
        have c6:w2.cell? ⟨ob,6,none⟩=some (.string u):=by rw[hob,hW1];simp
        have hBw1:=below_trans hB hB.size b1
        have tW:=HT.out.below hBw1
        have HB1:=Lib.hid hBw1
        have HO1:=Lib.hid (ownsRow_below hown b1)
        have HW1:=Lib.hid hW1
        have HOB:=Lib.hid hob
        have hV:=Lib.hid hv
        have hsn:bytesL ((l.take (k+1)).map opT)=bytesL ((l.take k).map opT)++ [⟨(opT ⟨⟨n,a,s,m⟩,x,y,u⟩).toArray⟩]:=by
         rw[List.take_add_one,g1.out];simp[bytesL]
        have hle:(bytesL ((l.take k).map opT)).length<=k:=by rw[bytesL_length,List.length_map];exact List.length_take_le _ _
        have HSN:=Lib.hid hsn
        generalize bytesL ((l.take k).map opT)=M at*
        clear hW1 hob hBw1 hB b1 hv hown hsn hBr
        go_wp2_with fail
        rw[<-HW1.out, <-HOB.out]
        refine wp_region_dag_at 32 28 _ (fun V=>Below w2.heap.size w2 V) (fun V V' =>Below V.heap.size V V') (fwφ ob n a m x y s u) rfl (by kernel_rfl) (by kernel_rfl) ?_ rfl (Below.refl _ _).drew ?_ ?_
        · exact fun i V V' v _ _ hb h=>fwφ_mono _ _ _ _ _ _ _ _ i V V' v hb h
        · simp only[List.take_succ_cons,List.take_zero,DagSteps,and_true]
          refine⟨?_,?_,?_,?_,?_,?_,?_,?_,?_,?_,?_,?_,?_,?_,?_,?_,?_,?_,?_,?_,?_,?_,?_,?_,?_,?_,?_,?_⟩
          · intro A V K hC hP hd hK
            have p7:A.tmps[7]?.getD undef= .pointer (some ⟨ob,0,none⟩):=evalT (hP 7 (of_decide_eq_true rfl))
            clear hP hd
            unfold Oper.wp
            go_simp
            exact hK _ _ hC (Below.refl _ _) rfl
          · intro A V K hC hP hd hK
            have e0:A.tmps[32]?.getD undef= .pointer (some ⟨ob,0,none⟩):=evalT (fwφ_0 _ _ _ _ _ _ _ _ _ _ (hd 0 (by kernel_rfl)))
            clear hP hd
            unfold Oper.wp
            go_simp
            exact hK _ _ hC (Below.refl _ _) rfl
          · intro A V K hC hP hd hK
            have e1:A.tmps[33]?.getD undef= .pointer (some ⟨ob,0,none⟩):=evalT (fwφ_1 _ _ _ _ _ _ _ _ _ _ (hd 1 (by kernel_rfl)))
            have d0:=below_cell hC hoW c0
            clear hP hd
            unfold Oper.wp
            go_simp
            exact hK _ _ hC (Below.refl _ _) rfl
          · intro A V K hC hP hd hK
            have e2:A.tmps[34]?.getD undef= .int .i64 n:=evalT (fwφ_2 _ _ _ _ _ _ _ _ _ _ (hd 2 (by kernel_rfl)))
            clear hP hd
            unfold Oper.wp
            go_simp
            refine(itoa_any n i1 V (tW.below hC)).mono ?_
            rintro e w1 ⟨rfl,h1⟩
            exact hK _ _ (below_trans hC hC.size h1) h1 rfl
          · intro A V K hC hP hd hK
            have p7:A.tmps[7]?.getD undef= .pointer (some ⟨ob,0,none⟩):=evalT (hP 7 (of_decide_eq_true rfl))
            clear hP hd
            unfold Oper.wp
            go_simp
            exact hK _ _ hC (Below.refl _ _) rfl
          · intro A V K hC hP hd hK
            have e4:A.tmps[36]?.getD undef= .pointer (some ⟨ob,0,none⟩):=evalT (fwφ_4 _ _ _ _ _ _ _ _ _ _ (hd 4 (by kernel_rfl)))
            clear hP hd
            unfold Oper.wp
            go_simp
            exact hK _ _ hC (Below.refl _ _) rfl
          · intro A V K hC hP hd hK
            have e5:A.tmps[37]?.getD undef= .pointer (some ⟨ob,1,none⟩):=evalT (fwφ_5 _ _ _ _ _ _ _ _ _ _ (hd 5 (by kernel_rfl)))
            have d1:=below_cell hC hoW c1
            clear hP hd
            unfold Oper.wp
            go_simp
            exact hK _ _ hC (Below.refl _ _) rfl
          · intro A V K hC hP hd hK
            have e6:A.tmps[38]?.getD undef= .int .i64 a:=evalT (fwφ_6 _ _ _ _ _ _ _ _ _ _ (hd 6 (by kernel_rfl)))
            clear hP hd
            unfold Oper.wp
            go_simp
            refine(itoa_any a i2 V (tW.below hC)).mono ?_
            rintro e w1 ⟨rfl,h1⟩
            exact hK _ _ (below_trans hC hC.size h1) h1 rfl
          · intro A V K hC hP hd hK
            have p7:A.tmps[7]?.getD undef= .pointer (some ⟨ob,0,none⟩):=evalT (hP 7 (of_decide_eq_true rfl))
            clear hP hd
            unfold Oper.wp
            go_simp
            exact hK _ _ hC (Below.refl _ _) rfl
          · intro A V K hC hP hd hK
            have e8:A.tmps[40]?.getD undef= .pointer (some ⟨ob,0,none⟩):=evalT (fwφ_8 _ _ _ _ _ _ _ _ _ _ (hd 8 (by kernel_rfl)))
            clear hP hd
            unfold Oper.wp
            go_simp
            exact hK _ _ hC (Below.refl _ _) rfl
          · intro A V K hC hP hd hK
            have e9:A.tmps[41]?.getD undef= .pointer (some ⟨ob,2,none⟩):=evalT (fwφ_9 _ _ _ _ _ _ _ _ _ _ (hd 9 (by kernel_rfl)))
            have d2:=below_cell hC hoW c2
            clear hP hd
            unfold Oper.wp
            go_simp
            exact hK _ _ hC (Below.refl _ _) rfl
          · intro A V K hC hP hd hK
            have e10:A.tmps[42]?.getD undef= .string s:=evalT (fwφ_10 _ _ _ _ _ _ _ _ _ _ (hd 10 (by kernel_rfl)))
            clear hP hd
            unfold Oper.wp
            go_simp
            refine(dashF_any s V).mono ?_
            rintro e w1 ⟨rfl,rfl⟩
            exact hK _ _ hC (Below.refl _ _) rfl
          · intro A V K hC hP hd hK
            have p7:A.tmps[7]?.getD undef= .pointer (some ⟨ob,0,none⟩):=evalT (hP 7 (of_decide_eq_true rfl))
            clear hP hd
            unfold Oper.wp
            go_simp
            exact hK _ _ hC (Below.refl _ _) rfl
          · intro A V K hC hP hd hK
            have e12:A.tmps[44]?.getD undef= .pointer (some ⟨ob,0,none⟩):=evalT (fwφ_12 _ _ _ _ _ _ _ _ _ _ (hd 12 (by kernel_rfl)))
            clear hP hd
            unfold Oper.wp
            go_simp
            exact hK _ _ hC (Below.refl _ _) rfl
          · intro A V K hC hP hd hK
            have e13:A.tmps[45]?.getD undef= .pointer (some ⟨ob,3,none⟩):=evalT (fwφ_13 _ _ _ _ _ _ _ _ _ _ (hd 13 (by kernel_rfl)))
            have d3:=below_cell hC hoW c3
            clear hP hd
            unfold Oper.wp
            go_simp
            exact hK _ _ hC (Below.refl _ _) rfl
          · intro A V K hC hP hd hK
            have e14:A.tmps[46]?.getD undef= .int .i64 m:=evalT (fwφ_14 _ _ _ _ _ _ _ _ _ _ (hd 14 (by kernel_rfl)))
            clear hP hd
            unfold Oper.wp
            go_simp
            refine(itoa_any m i3 V (tW.below hC)).mono ?_
            rintro e w1 ⟨rfl,h1⟩
            exact hK _ _ (below_trans hC hC.size h1) h1 rfl
          · intro A V K hC hP hd hK
            have p7:A.tmps[7]?.getD undef= .pointer (some ⟨ob,0,none⟩):=evalT (hP 7 (of_decide_eq_true rfl))
            clear hP hd
            unfold Oper.wp
            go_simp
            exact hK _ _ hC (Below.refl _ _) rfl
          · intro A V K hC hP hd hK
            have e16:A.tmps[48]?.getD undef= .pointer (some ⟨ob,4,none⟩):=evalT (fwφ_16 _ _ _ _ _ _ _ _ _ _ (hd 16 (by kernel_rfl)))
            clear hP hd
            unfold Oper.wp
            go_simp
            exact hK _ _ hC (Below.refl _ _) rfl
          · intro A V K hC hP hd hK
            have e17:A.tmps[49]?.getD undef= .pointer (some ⟨ob,4,none⟩):=evalT (fwφ_17 _ _ _ _ _ _ _ _ _ _ (hd 17 (by kernel_rfl)))
            have d4:=below_cell hC hoW c4
            clear hP hd
            unfold Oper.wp
            go_simp
            exact hK _ _ hC (Below.refl _ _) rfl
          · intro A V K hC hP hd hK
            have e18:A.tmps[50]?.getD undef= .int .i64 x:=evalT (fwφ_18 _ _ _ _ _ _ _ _ _ _ (hd 18 (by kernel_rfl)))
            clear hP hd
            unfold Oper.wp
            go_simp
            refine(itoa_any x i4 V (tW.below hC)).mono ?_
            rintro e w1 ⟨rfl,h1⟩
            exact hK _ _ (below_trans hC hC.size h1) h1 rfl
          · intro A V K hC hP hd hK
            have p7:A.tmps[7]?.getD undef= .pointer (some ⟨ob,0,none⟩):=evalT (hP 7 (of_decide_eq_true rfl))
            clear hP hd
            unfold Oper.wp
            go_simp
            exact hK _ _ hC (Below.refl _ _) rfl
          · intro A V K hC hP hd hK
            have e20:A.tmps[52]?.getD undef= .pointer (some ⟨ob,4,none⟩):=evalT (fwφ_20 _ _ _ _ _ _ _ _ _ _ (hd 20 (by kernel_rfl)))
            clear hP hd
            unfold Oper.wp
            go_simp
            exact hK _ _ hC (Below.refl _ _) rfl
          · intro A V K hC hP hd hK
            have e21:A.tmps[53]?.getD undef= .pointer (some ⟨ob,5,none⟩):=evalT (fwφ_21 _ _ _ _ _ _ _ _ _ _ (hd 21 (by kernel_rfl)))
            have d5:=below_cell hC hoW c5
            clear hP hd
            unfold Oper.wp
            go_simp
            exact hK _ _ hC (Below.refl _ _) rfl
          · intro A V K hC hP hd hK
            have e22:A.tmps[54]?.getD undef= .int .i64 y:=evalT (fwφ_22 _ _ _ _ _ _ _ _ _ _ (hd 22 (by kernel_rfl)))
            clear hP hd
            unfold Oper.wp
            go_simp
            refine(itoa_any y i5 V (tW.below hC)).mono ?_
            rintro e w1 ⟨rfl,h1⟩
            exact hK _ _ (below_trans hC hC.size h1) h1 rfl
          · intro A V K hC hP hd hK
            have p7:A.tmps[7]?.getD undef= .pointer (some ⟨ob,0,none⟩):=evalT (hP 7 (of_decide_eq_true rfl))
            clear hP hd
            unfold Oper.wp
            go_simp
            exact hK _ _ hC (Below.refl _ _) rfl
          · intro A V K hC hP hd hK
            have e24:A.tmps[56]?.getD undef= .pointer (some ⟨ob,6,none⟩):=evalT (fwφ_24 _ _ _ _ _ _ _ _ _ _ (hd 24 (by kernel_rfl)))
            have d6:=below_cell hC hoW c6
            clear hP hd
            unfold Oper.wp
            go_simp
            exact hK _ _ hC (Below.refl _ _) rfl
          · intro A V K hC hP hd hK
            have e25:A.tmps[57]?.getD undef= .string u:=evalT (fwφ_25 _ _ _ _ _ _ _ _ _ _ (hd 25 (by kernel_rfl)))
            clear hP hd
            unfold Oper.wp
            go_simp
            refine(dashF_any u V).mono ?_
            rintro e w1 ⟨rfl,rfl⟩
            exact hK _ _ hC (Below.refl _ _) rfl
          · intro A V K hC hP hd hK
            have e3:A.tmps[35]?.getD undef= .string ⟨(Lib.itoa n).toArray⟩:=evalT (fwφ_3 _ _ _ _ _ _ _ _ _ _ (hd 3 (by kernel_rfl)))
            have e7:A.tmps[39]?.getD undef= .string ⟨(Lib.itoa a).toArray⟩:=evalT (fwφ_7 _ _ _ _ _ _ _ _ _ _ (hd 7 (by kernel_rfl)))
            have e11:A.tmps[43]?.getD undef= .string ⟨(dashL s).toArray⟩:=evalT (fwφ_11 _ _ _ _ _ _ _ _ _ _ (hd 11 (by kernel_rfl)))
            have e15:A.tmps[47]?.getD undef= .string ⟨(Lib.itoa m).toArray⟩:=evalT (fwφ_15 _ _ _ _ _ _ _ _ _ _ (hd 15 (by kernel_rfl)))
            have e19:A.tmps[51]?.getD undef= .string ⟨(Lib.itoa x).toArray⟩:=evalT (fwφ_19 _ _ _ _ _ _ _ _ _ _ (hd 19 (by kernel_rfl)))
            have e23:A.tmps[55]?.getD undef= .string ⟨(Lib.itoa y).toArray⟩:=evalT (fwφ_23 _ _ _ _ _ _ _ _ _ _ (hd 23 (by kernel_rfl)))
            have e26:A.tmps[58]?.getD undef= .string ⟨(dashL u).toArray⟩:=evalT (fwφ_26 _ _ _ _ _ _ _ _ _ _ (hd 26 (by kernel_rfl)))
            clear hP hd
            unfold Oper.wp
            go_simp
            exact hK _ _ (hC.alloc hC.size _) ((Below.refl _ _).alloc (Nat.le_refl _) _) ⟨_,rfl,textsAt_new _ _ rfl⟩
        · intro X w3 hX hC hφ
          obtain⟨x0,x1,x2,x3,x4,x5,x6,x7,x8,x9,x10,x11,x12,x13,x14,x15,x16,x17,x18,x19,x20,x21,x22,x23,x24,x25,x26,x27,rfl⟩:=fwφ_list hX
          have e:=fwφ_27 _ _ _ _ _ _ _ _ _ _ (hφ 27 (of_decide_eq_true rfl))
          obtain⟨g,e,hg⟩:=e
          have e:x27= .slice (some ⟨g,0,none⟩) 7 7:=e
          rw[e]
          clear e hφ hX
          unfold Oper.wp
          go_simp
          rename_i hK
          refine hK _ _ ?_
          have hJ:=join_any (some ⟨g,0,none⟩) 7 (opBs ⟨⟨n,a,s,m⟩,x,y,u⟩) ⟨#[32]⟩ w3 hg (Nat.le_refl 7) (by show 7<=_;omega) (by have:=hlen1.out;unfold opBs;rw[bytesL_data];unfold opT at this;simp only;omega)
          have e7:(opBs ⟨⟨n,a,s,m⟩,x,y,u⟩).length=7:=rfl
          rw[e7] at hJ
          unfold opBs at hJ
          rw[bytesL_data] at hJ
          have HJ:=Lib.hid hJ
          have HO3:=Lib.hid (ownsRow_below HO1.out hC)
          have HB3:=Lib.hid (below_trans HB1.out HB1.out.size hC)
          clear hJ hC hg
          go_wp2_with (first|(go_at_call 31;refine HJ.out.mono ?_;rintro e w4 ⟨rfl,hb1⟩;have HB4:=Lib.hid (below_trans HB3.out HB3.out.size hb1);have HO4:=Lib.hid (ownsRow_below HO3.out hb1);have hs4:=hb1.size;clear hb1)|(at_builtin;refine appText rfl _ _ rfl w.heap.size _ M rfl (HO4.out.alloc _) w4.heap.size ⟨(opT ⟨⟨n,a,s,m⟩,x,y,u⟩).toArray⟩ rfl (by simp;rfl) (by omega) (by have:=HB4.out.size;simp;omega) w (HB4.out.alloc HB4.out.size _) ?_;intro v' w5 hown2 hB2 hs2 hg2))
          exact⟨⟨k+1,by omega,by go_num,by rw[HSN.out];exact hown2,hB2⟩,by simp[intOf];omega⟩
      · have he:l.take k=l:=List.take_of_length_le (by omega)
        rw[he] at hown
        clear he
        obtain⟨ao',cap,rfl,ht1,hcap,_⟩:=ownsRow_texts hown
        have hJ:=join_any ao' cap (bytesL (l.map opT)) ⟨#[43]⟩ wr ht1 hcap (by rw[bytesL_length,List.length_map];omega) (by
         have :=join_len [43] 500 (l.map opT) (fun p hp=>by
          obtain⟨o,ho,rfl⟩:=List.mem_map.1 hp
          exact opT_len (List.all_eq_true.1 HA.out _ ho))
         rw[bytesL_data];simp only[List.length_map,List.length_cons,List.length_nil] at this ⊢;omega)
        rw[bytesL_data] at hJ
        have HJ:=Lib.hid hJ
        have HB2:=Lib.hid hB
        clear hJ hown ht1 hB
        go_wp2_with (go_at_call 31;refine HJ.out.mono ?_;rintro e w1 ⟨rfl,hb1⟩)
        exact bodyPost_ret (v:= .tuple #[.string ⟨(writeT l).toArray⟩,.nilIface]) (by simp[results,Tryz.results162,go_sem];rfl) rfl ⟨⟨_,rfl,Or.inl ⟨rfl,rfl,rfl⟩,Or.inl ⟨rfl,rfl⟩⟩,below_trans HB2.out HB2.out.size hb1⟩
end Go.Proofs.YtpgkjnebklknjaaGreatDoor
