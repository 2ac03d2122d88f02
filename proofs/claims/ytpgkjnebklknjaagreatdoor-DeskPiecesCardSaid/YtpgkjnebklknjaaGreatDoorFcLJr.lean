/-What fact.Read calls of the library:strings.SplitSeq and strings.Split at a sign,strconv.Atoi at whatever text. The conditions:the library's variables that are named hold errors,and a number. -/
import Derived.Lib.IndexBytes
import Derived.Shelf.Abstract
import Derived.Shelf.RegionOpen
import Derived.WalkKit
import Derived.OwnWalkIn
import Derived.TacticsInMore
import Derived.LoopNIn
import Derived.LoopIn
import Derived.Test.YtpgkjnebklknjaaGreatDoorSplRJr
import Derived.Test.YtpgkjnebklknjaaGreatDoorShelfJr
import Derived.Test.YtpgkjnebklknjaaGreatDoorFcHJr
namespace Go.Proofs.YtpgkjnebklknjaaGreatDoor
open Go.RowKit Go.Shelf
attribute [local go_sem] Oper.semAt_some
theorem cut_step (c:UInt8) (s:List UInt8):(c∉s/\cutC c s= [s]/\Lib.indexByte s c= -1)\/ ∃p r,s=p++c::r/\cutC c s=p::cutC c r/\Lib.indexByte s c=(p.length:Int):=by
 rw[<-Lib.index_one]
 rcases first_sign c s with h|⟨p,r,rfl,hp⟩
 · exact .inl ⟨h,cutC_last c s h,(index_one c s).1 h⟩
 · exact .inr ⟨p,r,rfl,cutC_free c p r hp,(index_one c _).2 p r rfl hp⟩
def leftB (b:Nat) (W:World):Nat:=match W.cell? ⟨b,0,none⟩ with|some (.string x)=>x.size|_=>0
theorem leftB_eq {b:Nat} {c:UInt8} {s:List UInt8} {W:World} (h:ItBox b c s W):leftB b W=s.length:=by
 unfold leftB;rw[h.s0];simp[ByteArray.size]
set_option maxRecDepth 100000 in
set_option maxHeartbeats 1000000 in
theorem splitIt_any (n:Nat) (b:Nat) (c:UInt8) (s:List UInt8) (hs:s.length<=maxLen):SplitIt Fence.wide n Tryz.prog 58 b c s:=by
 unfold maxLen at hs
 intro l J Jx W hJs hJb hY hbox h0
 refine callsIn_of_wp Tryz.func58 rfl trivial ?_ rfl
 simp only[Tryz.ntmps58,List.size_toArray,List.length_cons,List.length_nil,Nat.reduceAdd,Nat.reduceSub,Array.replicate_succ,Array.replicate_zero,List.push_toArray,List.append_toArray,List.nil_append,List.cons_append]
 have HJs:=Lib.hid hJs
 have HJb:=Lib.hid hJb
 have HY:=Lib.hid hY
 have HBox:=Lib.hid hbox
 clear hJs hJb hY
 obtain⟨q0,f0,q1,q2⟩:=hbox
 gi_wp2
 gi_loopw [7] (fun _ wr=> ∃(pre:List (List UInt8)) (r:List UInt8),ItBox b c r wr/\Hid (pre++cutC c r=cutC c s)/\r.length<=s.length/\J pre wr) (fun _ wr=>leftB b wr)
 case atStart=>exact⟨[],s,HBox.out,Lib.hid rfl,Nat.le_refl _,h0⟩
 case round=>
  obtain⟨pre,r,hb,hcut,hle,hJ⟩:=hrel
  have HBr:=Lib.hid hb
  obtain⟨r0,g0,r1,r2⟩:=hb
  rcases cut_step c r with ⟨hno,hc,hidx⟩|⟨p,r',rfl,hc,hidx⟩
  · obtain⟨fn,tmps,assign,body,hy,hR⟩:=HY.out pre r [] wr hJ (by rw[<-hcut.out,hc])
    have hI:=Tryz.strings_Index_one ⟨r.toArray⟩ c wr
    simp only[hidx] at hI
    have HI:=Lib.hid hI
    clear hI hidx
    gi_wp2_with (refine⟨trivial,(fun h=>by cases h),?_⟩;refine(callsIn_wide.2 HI.out).mono ?_;rintro e w' ⟨rfl,rfl⟩)
    refine⟨(fun h=>by cases h),hR.mono ?_⟩
    rintro e W' (⟨rfl,hJ',hk⟩|⟨rfl,hJx'⟩)
    · have HJ:=Lib.hid hJ'
      clear hJ' hk
      gi_wp2
      go_end0
      exact⟨⟨_,rfl⟩,.inl (by rw[<-hcut.out,hc];exact HJ.out)⟩
    · have HJ:=Lib.hid hJx'
      clear hJx'
      gi_wp2
      go_end0
      exact⟨⟨_,rfl⟩,.inr ⟨_,HJ.out⟩⟩
  · obtain⟨fn,tmps,assign,body,hy,hR⟩:=HY.out pre p (cutC c r') wr hJ (by rw[<-hcut.out,hc])
    have hI:=Tryz.strings_Index_one ⟨(p++c::r').toArray⟩ c wr
    simp only[hidx] at hI
    have HI:=Lib.hid hI
    have e1:(⟨(p++c::r').toArray⟩:ByteArray).size=p.length+(r'.length+1):=by simp[ByteArray.size]
    have e2:(⟨(p++c::r').toArray⟩:ByteArray).extract 0 p.length=⟨p.toArray⟩:=bytes_ext (by simp)
    have e3:(⟨(p++c::r').toArray⟩:ByteArray).extract (p.length+1) (p.length+(r'.length+1))=⟨r'.toArray⟩:=by
     have h:p.length+(r'.length+1)-(p.length+1)=r'.length:=by omega
     exact bytes_ext (by simp[h])
    have hlen:p.length+(r'.length+1)<=s.length:=by simpa using hle
    have HE2:=Lib.hid e2
    have HE3:=Lib.hid e3
    rw[<-e2] at hy
    clear hI hidx e2 e3
    gi_wp2_with (refine⟨trivial,(fun h=>by cases h),?_⟩;refine(callsIn_wide.2 HI.out).mono ?_;rintro e w' ⟨rfl,rfl⟩)
    refine⟨(fun h=>by cases h),hR.mono ?_⟩
    rintro e W' (⟨rfl,hJ',hk⟩|⟨rfl,hJx'⟩)
    · have HB' :=HBr.out.keep hk
      obtain⟨v0,g0',v1,v2⟩:=HB'
      have HJ:=Lib.hid hJ'
      have hnew:ItBox b c r' (W'.setCell ⟨b,0,none⟩ (.string ⟨r'.toArray⟩)):=⟨World.cell?_setCell_same _ _ _ v0,by simpa using g0',(World.cell?_setCell_other _ _ _ _ (by simp)).trans v1,(World.cell?_setCell_other _ _ _ _ (by simp)).trans v2⟩
      have HN:=Lib.hid hnew
      clear hJ' hk hnew
      gi_wp2
      rw[HE3.out]
      go_roundw
      case rel=>exact⟨pre++ [p],r',HN.out,Lib.hid (by rw[<-hcut.out,hc];simp),by omega,HJs.out _ _ _ HJ.out⟩
      case measure=>rw[leftB_eq HN.out,leftB_eq HBr.out];simp;omega
    · have HJ:=Lib.hid hJx'
      clear hJx'
      gi_wp2
      refine bodyPost_ret (results_none rfl _ _ _) rfl ?_
      exact⟨⟨_,rfl⟩,.inr ⟨_,HJ.out⟩⟩
end Go.Proofs.YtpgkjnebklknjaaGreatDoor
namespace Go.Proofs.YtpgkjnebklknjaaGreatDoor
open Go.RowKit
structure NumVars (w:World):Prop where
 syn: ∃t p,w.cell? ⟨6,0,none⟩=some (.iface t p)
 rng: ∃t p,w.cell? ⟨7,0,none⟩=some (.iface t p)
 len: ∃m,w.cell? ⟨4,0,none⟩=some (.int .i64 m)
theorem NumVars.below {w w' :World} (h:NumVars w) (hb:Below w.heap.size w w'):NumVars w' :=by
 obtain⟨⟨t,p,h1⟩,⟨t',p',h2⟩,⟨m,h3⟩⟩:=h
 exact⟨⟨t,p,below_cell hb (World.block_lt_of_cell? w _ h1) h1⟩,⟨t',p',below_cell hb (World.block_lt_of_cell? w _ h2) h2⟩,⟨m,below_cell hb (World.block_lt_of_cell? w _ h3) h3⟩⟩
theorem atoi_any (s:ByteArray) (w:World) (hs:s.size<=100000) (hv:NumVars w):
  Calls Tryz.prog 111 #[.string s] w fun e w' =>(∃v err,e= .returned (.tuple #[.int .i64 v,err])/\((num? s.data.toList=some v/\err= .nilIface)\/(num? s.data.toList=none/\ ∃t p,err= .iface t p)))/\Below w.heap.size w w' :=by
 obtain⟨⟨t,p,h1⟩,⟨t',p',h2⟩,_⟩:=hv
 cases h:Lib.atoiAll s.data.toList
 · rename_i v
   exact(Tryz.strconv_Atoi_ok s (by omega) v h w).mono fun e w' ⟨he,hw⟩=>⟨⟨v,_,he,.inl ⟨by unfold num?;rw[h],rfl⟩⟩,by
    rcases hw with rfl|⟨t,rfl⟩
    · exact Below.refl _ _
    · exact Lib.bytesWorld_below _ _ _⟩
 · exact(Tryz.strconv_Atoi_syntax s (by omega) h _ w h1 (.inr ⟨_,_,rfl⟩)).mono fun e w' ⟨N,he,_,_,hb⟩=>⟨⟨_,_,he,.inr ⟨by unfold num?;rw[h],_,_,rfl⟩⟩,hb⟩
 · exact(Tryz.strconv_Atoi_range s (by omega) h _ w h2 (.inr ⟨_,_,rfl⟩)).mono fun e w' ⟨N,he,_,_,hb⟩=>⟨⟨_,_,he,.inr ⟨by unfold num?;rw[h],_,_,rfl⟩⟩,hb⟩
theorem split_any (c:UInt8) (s:ByteArray) (w:World) (hs:s.size<=100000) (hv:NumVars w):
  Calls Tryz.prog 13 #[.string s,.string ⟨#[c]⟩] w fun e w' => ∃l:List ByteArray,l.map (·.data.toList)=cutC c s.data.toList/\e= .returned (.slice (some ⟨w.heap.size,0,none⟩) l.length l.length)/\w' =w.alloc (.cells (l.map Value.string).toArray 9):=by
 obtain⟨_,_,⟨m,h3⟩⟩:=hv
 refine(Tryz.strings_Split s ⟨#[c]⟩ m w (by omega) h3 (Nat.le_refl 1)).mono fun e w' ⟨he,hw⟩=>⟨_,splitB_eq c s,?_,hw⟩
 rw[he]
 have:(Lib.splitB ⟨#[c]⟩ 0 (Lib.countB s ⟨#[c]⟩) s).length=Lib.countB s ⟨#[c]⟩+1:=Lib.splitB_all ⟨#[c]⟩ (Nat.le_refl 1) 0 _ s rfl
 rw[this]
theorem splitSeq_any (s:ByteArray) (c:UInt8) (w:World):Calls Tryz.prog 8 #[.string s,.string ⟨#[c]⟩] w fun e w' =>
  e = .returned (.func (.func 58) #[] #[.pointer (some ⟨w.heap.size+1,0,none⟩),.pointer (some ⟨w.heap.size,0,none⟩),.pointer (some ⟨w.heap.size+2,0,none⟩)])∧
    w' =((w.alloc (.cells #[.string s] 9)).alloc (.cells #[.string ⟨#[c]⟩] 9)).alloc (.cells #[.int .i64 0] 3):=by
 have h:Calls Tryz.prog 21 #[.string s,.string ⟨#[c]⟩,.int .i64 0] w fun e w' =>
  e = .returned (.func (.func 58) #[] #[.pointer (some ⟨w.heap.size+1,0,none⟩),.pointer (some ⟨w.heap.size,0,none⟩),.pointer (some ⟨w.heap.size+2,0,none⟩)])∧
    w' =((w.alloc (.cells #[.string s] 9)).alloc (.cells #[.string ⟨#[c]⟩] 9)).alloc (.cells #[.int .i64 0] 3):=by
  go_enter Tryz.func21,Tryz.ntmps21
  go_wp2
  go_ret
  exact⟨rfl,rfl⟩
 go_enter Tryz.func8,Tryz.ntmps8
 go_wp2_with (go_at_call 21;refine h.mono ?_;rintro e w' ⟨rfl,rfl⟩)
 go_ret
 exact⟨rfl,rfl⟩
end Go.Proofs.YtpgkjnebklknjaaGreatDoor
