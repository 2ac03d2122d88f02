/-Numerals joined with blanks:the document's Words. The condition:the library's table of powers of ten is as its own text lays it. -/
import Derived.Shelf.Strings.SlTrimAscii
import Derived.Lib.AppendIntMem
import Derived.Lib.ItoaLen
import Derived.Test.YtpgkjnebklknjaaGreatDoorFactNJr
import Derived.Test.YtpgkjnebklknjaaGreatDoorShelfJr
import Derived.Test.YtpgkjnebklknjaaGreatDoorRowJr
namespace Go.Proofs.YtpgkjnebklknjaaGreatDoor
open Go.RowKit
theorem size_toList (s:ByteArray):s.data.toList.length=s.size:=Array.length_toList
theorem empty_eq (s:ByteArray):s.toList.isEmpty=decide (s.size=0):=by
 rw[ByteArray.toList_eq, <-size_toList]
 cases s.data.toList<;>simp
theorem empty_true {s:ByteArray} (h:s.size=0):s.toList.isEmpty=true:=by rw[empty_eq];simpa using h
theorem empty_false {s:ByteArray} (h: ¬s.size=0):s.toList.isEmpty=false:=by rw[empty_eq];simpa using h
theorem dash_no {s:ByteArray} (h: ¬s.size=0):(⟨(dashL s).toArray⟩:ByteArray)=s:=by unfold dashL;rw[if_neg h]
theorem dash_yes {s:ByteArray} (h:s.size=0):dashL s= [45]:=by unfold dashL;rw[if_pos h]
theorem dashF_any (s:ByteArray) (w:World):Calls Tryz.prog 226 #[.string s] w fun e w' =>e= .returned (.string ⟨(dashL s).toArray⟩)/\w' =w:=by
 by_cases h:s.size=0
 · have h1:=empty_true h
   rw[dash_yes h]
   go_enter Tryz.func226,Tryz.ntmps226
   go_wp2
   go_ret
   exact⟨rfl,rfl⟩
 · have h1:=empty_false h
   rw[dash_no h]
   go_enter Tryz.func226,Tryz.ntmps226
   go_wp2
   go_ret
   exact⟨rfl,rfl⟩
theorem sign_any (b:Bool) (w:World):Calls Tryz.prog 234 #[.bool b] w fun e w' =>e= .returned (.int .i64 (sgn b))/\w' =w:=by
 go_enter Tryz.func234,Tryz.ntmps234
 cases b
 all_goals
  go_wp2
  go_ret
  exact⟨rfl,rfl⟩
theorem key1_any (n:Int) (w:World):Calls Tryz.prog 235 #[.int .i64 n] w fun e w' =>e= .returned (.bool (nodeB n))/\w' =w:=by
 by_cases h1:0<=n
 · by_cases h2:n<=1048576
   · go_enter Tryz.func235,Tryz.ntmps235
     go_wp2
     go_ret
     exact⟨ret_bool (decide_eq_true (by omega)).symm,rfl⟩
   · go_enter Tryz.func235,Tryz.ntmps235
     go_wp2
     go_ret
     exact⟨ret_bool (decide_eq_false (by omega)).symm,rfl⟩
 · go_enter Tryz.func235,Tryz.ntmps235
   go_wp2
   go_ret
   exact⟨ret_bool (decide_eq_false (by omega)).symm,rfl⟩
theorem letters_str:(⟨#[97,98,99,100,101,102,103,104,105,106,107,108,109,110,111,112,113,114,115,116,117,118,119,120,121,122,48,49,50,51,52,53,54,55,56,57]⟩:ByteArray).data.toList=letters:=rfl
theorem trim_any (s:ByteArray) (w:World) (hs:s.size<=maxLen):Calls Tryz.prog 288 #[.string s,.string ⟨#[97,98,99,100,101,102,103,104,105,106,107,108,109,110,111,112,113,114,115,116,117,118,119,120,121,122,48,49,50,51,52,53,54,55,56,57]⟩] w
  fun e w' =>(∃t:ByteArray,e= .returned (.string t)/\t.toList.isEmpty=s.data.toList.all isW)/\Below w.heap.size w w' :=
 (Any.strings_Trim_laid Tryz.lays160 (by kernel_rfl) s _ w (by unfold maxLen at hs;omega) (by decide) (ascii_of_all (by decide))).mono fun e w' ⟨h1,h2⟩=>⟨⟨_,h1,by
  rw[letters_str,ByteArray.toList_eq,Bool.eq_iff_iff, <-trim_word]
  show(Lib.trimS s.data.toList letters).isEmpty=true↔_
  rw[List.isEmpty_iff]⟩,h2⟩
theorem fword_any (s:ByteArray) (w:World) (hs:s.size<=maxLen):Calls Tryz.prog 236 #[.string s] w fun e w' =>e= .returned (.bool (wordB s))/\Below w.heap.size w w' :=by
 have hT:=trim_any s w hs
 unfold maxLen at hs
 by_cases h1:1<=s.size
 · by_cases h2:s.size<=12
   · have e0:wordB s=s.data.toList.all isW:=by unfold wordB;simp[h1,h2]
     rw[e0]
     clear e0
     have HT:=Lib.hid hT
     clear hT
     go_enter Tryz.func236,Tryz.ntmps236
     go_wp2_with (go_at_call 288;refine HT.out.mono ?_;rintro e w' ⟨⟨t,rfl,ht⟩,hb⟩;have Ht:=Lib.hid ht;clear ht)
     go_ret
     exact⟨ret_bool Ht.out,hb⟩
   · go_enter Tryz.func236,Tryz.ntmps236
     go_wp2
     go_ret
     exact⟨ret_bool (by unfold wordB;simp[h2]),Below.refl _ _⟩
 · go_enter Tryz.func236,Tryz.ntmps236
   go_wp2
   go_ret
   exact⟨ret_bool (by unfold wordB;simp[h1]),Below.refl _ _⟩
theorem keyB_1 (a b:Int) (s:ByteArray):keyB ⟨1,a,s,b⟩=(nodeB a && (decide (s.size=0) && decide (b=0))):=rfl
theorem keyB_2 (a b:Int) (s:ByteArray):keyB ⟨2,a,s,b⟩=(nodeB a && (nodeB b && wordB s)):=rfl
theorem keyB_3 (a b:Int) (s:ByteArray):keyB ⟨3,a,s,b⟩=(nodeB a && (wordB s && decide (b=0))):=rfl
theorem keyB_else (k a b:Int) (s:ByteArray) (h1:k≠1) (h2:k≠2) (h3:k≠3):keyB ⟨k,a,s,b⟩=false:=by
 unfold keyB;simp[h1,h2,h3]
set_option maxHeartbeats 2000000 in
theorem fkey_any (k a b:Int) (s:ByteArray) (w:World) (hs:s.size<=maxLen):
  Calls Tryz.prog 171 #[.agg #[.int .i64 k,.int .i64 a,.string s,.int .i64 b]] w fun e w' =>e= .returned (.bool (keyB ⟨k,a,s,b⟩))/\Below w.heap.size w w' :=by
 have hs0:=hs
 unfold maxLen at hs
 have bA:Below w.heap.size w (w.alloc (.cells #[.int .i64 k,.int .i64 a,.string s,.int .i64 b] 97)):=(Below.refl _ w).alloc (Nat.le_refl _) _
 by_cases k1:k=1
 · subst k1
   rw[keyB_1]
   cases hn:nodeB a
   · go_enter Tryz.func171,Tryz.ntmps171
     go_wp2_with (go_at_call 235;refine(key1_any _ _).mono ?_;rintro e w' ⟨rfl,rfl⟩)
     go_ret
     exact⟨rfl,bA⟩
   · by_cases h0:s.size=0
     · have e1:=empty_true h0
       rw[h0]
       by_cases hb:b=0
       · subst hb
         go_enter Tryz.func171,Tryz.ntmps171
         go_wp2_with (go_at_call 235;refine(key1_any _ _).mono ?_;rintro e w' ⟨rfl,rfl⟩)
         go_ret
         exact⟨rfl,bA⟩
       · have hb1:((b:Int)==0)=false:=by simpa using hb
         have hb2:decide (b=0)=false:=decide_eq_false hb
         go_enter Tryz.func171,Tryz.ntmps171
         go_wp2_with (go_at_call 235;refine(key1_any _ _).mono ?_;rintro e w' ⟨rfl,rfl⟩)
         go_ret
         exact⟨by rw[hb2];rfl,bA⟩
     · have e1:=empty_false h0
       have h2:decide (s.size=0)=false:=decide_eq_false h0
       rw[h2]
       clear h2
       go_enter Tryz.func171,Tryz.ntmps171
       go_wp2_with (go_at_call 235;refine(key1_any _ _).mono ?_;rintro e w' ⟨rfl,rfl⟩)
       go_ret
       exact⟨rfl,bA⟩
 · have n1:((k:Int)==1)=false:=by simpa using k1
   by_cases k2:k=2
   · subst k2
     rw[keyB_2]
     cases hn:nodeB a
     · go_enter Tryz.func171,Tryz.ntmps171
       go_wp2_with (go_at_call 235;refine(key1_any _ _).mono ?_;rintro e w' ⟨rfl,rfl⟩)
       go_ret
       exact⟨rfl,bA⟩
     · cases hm:nodeB b
       · go_enter Tryz.func171,Tryz.ntmps171
         go_wp2_with (go_at_call 235;refine(key1_any _ _).mono ?_;rintro e w' ⟨rfl,rfl⟩)
         go_ret
         exact⟨rfl,bA⟩
       · go_enter Tryz.func171,Tryz.ntmps171
         go_wp2_with (first|(go_at_call 235;refine(key1_any _ _).mono ?_;rintro e w' ⟨rfl,rfl⟩)|(go_at_call 236;refine(fword_any _ _ hs0).mono ?_;rintro e w' ⟨rfl,hb⟩))
         go_ret
         exact⟨rfl,below_over hb⟩
   · have n2:((k:Int)==2)=false:=by simpa using k2
     by_cases k3:k=3
     · subst k3
       rw[keyB_3]
       cases hn:nodeB a
       · go_enter Tryz.func171,Tryz.ntmps171
         go_wp2_with (go_at_call 235;refine(key1_any _ _).mono ?_;rintro e w' ⟨rfl,rfl⟩)
         go_ret
         exact⟨rfl,bA⟩
       · cases hw:wordB s
         · go_enter Tryz.func171,Tryz.ntmps171
           go_wp2_with (first|(go_at_call 235;refine(key1_any _ _).mono ?_;rintro e w' ⟨rfl,rfl⟩)|(go_at_call 236;refine(fword_any _ _ hs0).mono ?_;rintro e w' ⟨rfl,hb⟩))
           go_ret
           exact⟨rfl,below_over hb⟩
         · have c3:(w.alloc (.cells #[.int .i64 3,.int .i64 a,.string s,.int .i64 b] 97)).cell? ⟨w.heap.size,3,none⟩=some (.int .i64 b):=by simp
           by_cases hb:b=0
           · subst hb
             go_enter Tryz.func171,Tryz.ntmps171
             go_wp2_with (first|(go_at_call 235;refine(key1_any _ _).mono ?_;rintro e w' ⟨rfl,rfl⟩)|(go_at_call 236;refine(fword_any _ _ hs0).mono ?_;rintro e w' ⟨rfl,hb⟩;have d3:=below_cell hb (by simp) c3))
             go_ret
             exact⟨rfl,below_over hb⟩
           · have hb1:((b:Int)==0)=false:=by simpa using hb
             have hb2:decide (b=0)=false:=decide_eq_false hb
             go_enter Tryz.func171,Tryz.ntmps171
             go_wp2_with (first|(go_at_call 235;refine(key1_any _ _).mono ?_;rintro e w' ⟨rfl,rfl⟩)|(go_at_call 236;refine(fword_any _ _ hs0).mono ?_;rintro e w' ⟨rfl,hb⟩;have d3:=below_cell hb (by simp) c3))
             go_ret
             exact⟨by rw[hb2];rfl,below_over hb⟩
     · have n3:((k:Int)==3)=false:=by simpa using k3
       rw[keyB_else k a b s k1 k2 k3]
       go_enter Tryz.func171,Tryz.ntmps171
       go_wp2
       go_ret
       exact⟨rfl,bA⟩
theorem cmpArr (x y z u:Int): ∀w,(Instr.index 305 (.agg #[.int .i64 x,.int .i64 y,.int .i64 z,.int .i64 u]) (.int .i64 0)).run Tryz.prog w= .ok (.agg #[.int .i64 x,.int .i64 y]) w∧
  (Instr.index 305 (.agg #[.int .i64 x,.int .i64 y,.int .i64 z,.int .i64 u]) (.int .i64 1)).run Tryz.prog w= .ok (.agg #[.int .i64 z,.int .i64 u]) w:=fun w=>⟨by kernel_rfl,by kernel_rfl⟩
theorem opB_mk (k a b f t:Int) (s v:ByteArray):opB ⟨⟨k,a,s,b⟩,f,t,v⟩=(keyB ⟨k,a,s,b⟩ && (rightB f t && (decide (v.size=0)||wordB v))):=rfl
set_option maxHeartbeats 1000000 in
theorem fop_any (k a b f t:Int) (s v:ByteArray) (w:World) (hs:s.size<=maxLen) (hv:v.size<=maxLen):
  Calls Tryz.prog 225 #[.agg #[.int .i64 k,.int .i64 a,.string s,.int .i64 b,.int .i64 f,.int .i64 t,.string v]] w fun e w' =>e= .returned (.bool (opB ⟨⟨k,a,s,b⟩,f,t,v⟩))/\Below w.heap.size w w' :=by
 obtain⟨W,hW⟩: ∃W,W=w.alloc (.cells #[.int .i64 k,.int .i64 a,.string s,.int .i64 b,.int .i64 f,.int .i64 t,.string v] 148):=⟨_,rfl⟩
 have bA:Below w.heap.size w W:=by rw[hW];exact(Below.refl _ w).alloc (Nat.le_refl _) _
 have hwW:w.heap.size<W.heap.size:=by rw[hW];simp
 have c0:W.cell? ⟨w.heap.size,0,none⟩=some (.int .i64 k):=by rw[hW];simp
 have c1:W.cell? ⟨w.heap.size,1,none⟩=some (.int .i64 a):=by rw[hW];simp
 have c2:W.cell? ⟨w.heap.size,2,none⟩=some (.string s):=by rw[hW];simp
 have c3:W.cell? ⟨w.heap.size,3,none⟩=some (.int .i64 b):=by rw[hW];simp
 have c4:W.cell? ⟨w.heap.size,4,none⟩=some (.int .i64 f):=by rw[hW];simp
 have c5:W.cell? ⟨w.heap.size,5,none⟩=some (.int .i64 t):=by rw[hW];simp
 have c6:W.cell? ⟨w.heap.size,6,none⟩=some (.string v):=by rw[hW];simp
 have HW:=Lib.hid hW
 clear hW
 have hK:=fun W' =>fkey_any k a b s W' hs
 have hR:=fun W' =>right_any f t W'
 have hF:=fun W' =>fword_any v W' hv
 rw[opB_mk]
 cases e1:keyB ⟨k,a,s,b⟩
 · simp only[e1] at hK
   go_enter Tryz.func225,Tryz.ntmps225
   go_wp2_with fail
   rw[<-HW.out]
   go_wp2_with (go_at_call 171;refine(hK _).mono ?_;rintro e w1 ⟨rfl,h1⟩)
   go_ret
   exact⟨rfl,below_step bA h1⟩
 · simp only[e1] at hK
   cases e2:rightB f t
   · simp only[e2] at hR
     go_enter Tryz.func225,Tryz.ntmps225
     go_wp2_with fail
     rw[<-HW.out]
     go_wp2_with (first|(go_at_call 171;refine(hK _).mono ?_;rintro e w1 ⟨rfl,h1⟩;have d4:=below_cell h1 hwW c4;have d5:=below_cell h1 hwW c5)|(go_at_call 187;refine(hR _).mono ?_;rintro e w2 ⟨rfl,h2⟩))
     go_ret
     exact⟨rfl,below_step (below_step bA h1) h2⟩
   · simp only[e2] at hR
     by_cases h0:v.size=0
     · have e3:=empty_true h0
       rw[h0]
       go_enter Tryz.func225,Tryz.ntmps225
       go_wp2_with fail
       rw[<-HW.out]
       go_wp2_with (first|(go_at_call 171;refine(hK _).mono ?_;rintro e w1 ⟨rfl,h1⟩;have d4:=below_cell h1 hwW c4;have d5:=below_cell h1 hwW c5;have d6:=below_cell h1 hwW c6;have hz:=Nat.lt_of_lt_of_le hwW h1.size)|(go_at_call 187;refine(hR _).mono ?_;rintro e w2 ⟨rfl,h2⟩;have g6:=below_cell h2 hz d6))
       go_ret
       exact⟨rfl,below_step (below_step bA h1) h2⟩
     · have e3:=empty_false h0
       have h0' :decide (v.size=0)=false:=decide_eq_false h0
       rw[h0']
       clear h0'
       go_enter Tryz.func225,Tryz.ntmps225
       go_wp2_with fail
       rw[<-HW.out]
       go_wp2_with (first|(go_at_call 171;refine(hK _).mono ?_;rintro e w1 ⟨rfl,h1⟩;have d4:=below_cell h1 hwW c4;have d5:=below_cell h1 hwW c5;have d6:=below_cell h1 hwW c6;have hz:=Nat.lt_of_lt_of_le hwW h1.size)|(go_at_call 187;refine(hR _).mono ?_;rintro e w2 ⟨rfl,h2⟩;have g6:=below_cell h2 hz d6)|(go_at_call 236;refine(hF _).mono ?_;rintro e w3 ⟨rfl,h3⟩))
       go_ret
       exact⟨rfl,below_step (below_step (below_step bA h1) h2) h3⟩
theorem fwrite1_any (k a b f t:Int) (s v:ByteArray) (w:World) (hs:s.size<=maxLen) (hv:v.size<=maxLen):
  Calls Tryz.prog 224 #[.agg #[.int .i64 k,.int .i64 a,.string s,.int .i64 b,.int .i64 f,.int .i64 t,.string v]] w fun e w' =>e= .returned (.bool (!opB ⟨⟨k,a,s,b⟩,f,t,v⟩))/\Below w.heap.size w w' :=by
 go_enter Tryz.func224,Tryz.ntmps224
 go_wp2_with (go_at_call 225;refine(fop_any k a b f t s v _ hs hv).mono ?_;rintro e w1 ⟨rfl,h1⟩)
 go_ret
 exact⟨rfl,below_over h1⟩
def PowTab (w : World) : Prop := Lib.TabIs Tryz.prog w "internal/strconv.uint64pow10" .u64 Lib.pow10Tab
theorem PowTab.below {w w' :World} (h:PowTab w) (hb:Below w.heap.size w w'):PowTab w' :=Lib.tabBelow_of_tabIs h w' hb
def i64B (n:Int):Prop:= -9223372036854775808<=n/\n<=9223372036854775807
theorem itoa_any (n:Int) (hn:i64B n) (w:World) (ht:PowTab w):Calls Tryz.prog 25 #[.int .i64 n] w fun e w' =>e= .returned (.string ⟨(Lib.itoa n).toArray⟩)/\Below w.heap.size w w' :=
 (Tryz.strconv_Itoa n hn.1 hn.2 w ht).mono fun _ _ ⟨h1,k,os,h2⟩=>⟨h1,by rw[h2];exact Lib.below_grow _ w (Nat.le_refl _) k os⟩
def textsAt (w:World) (ao:Option Addr) (l:List ByteArray):Prop:= ∀i x,l[i]? =some x-> ∃b o,ao=some ⟨b,o,none⟩/\w.cell? ⟨b,o+i,none⟩=some (.string x)
theorem textsAt.below {w w' :World} {ao:Option Addr} {l:List ByteArray} (h:textsAt w ao l) (hb:Below w.heap.size w w'):textsAt w' ao l:=
 fun i x hi=>let ⟨b,o,h1,h2⟩:=h i x hi
  ⟨b,o,h1,(hb.cell (p:=⟨b,_,none⟩) (World.block_lt_of_cell? w _ h2)).trans h2⟩
theorem infoStr:(Tryz.prog.info? 9).map (fun i=>(i.zero,i.size,i.bytes))=some (some (.string ⟨#[]⟩),1,16):=by kernel_rfl
theorem ownsRow_texts {w:World} {base n:Nat} {v:Value} {l:List ByteArray} {e:TypeId} (h:w.ownsRow base e 1 v n (l.map Value.string)):
  ∃ao cap,v= .slice ao l.length cap/\textsAt w ao l/\l.length<=cap/\(ao=none->l= []):=by
 have hn:n=l.length:=by have:=h.1;simp at this;omega
 subst hn
 have h0:=h
 rcases h.2 with ⟨rfl,hn⟩|⟨g,cap,cur,rfl,hbg,hh,hnc,hcm,hcs,htk⟩
 · have hl:l= []:=List.eq_nil_of_length_eq_zero hn
   subst hl
   exact⟨none,0,rfl,fun i x hx=>by simp at hx,Nat.le_refl _,fun _=>rfl⟩
 · refine⟨some ⟨g,0,none⟩,cap,rfl,fun i x hx=>⟨g,0,rfl,?_⟩,hnc,fun h=>by cases h⟩
   have hi:=(List.getElem?_eq_some_iff.1 hx).1
   have:=h0.cellAt i (by omega)
   rw[Nat.zero_add,this]
   simp[hx]
theorem join_any (ao:Option Addr) (c:Nat) (xs:List ByteArray) (sep:ByteArray) (w:World) (hx:textsAt w ao xs) (hc:xs.length<=c) (hn:xs.length<=140737488355328) (hlen:(Lib.join (xs.map (·.data.toList)) sep.data.toList).length<=140737488355328):
  Calls Tryz.prog 31 #[.slice ao xs.length c,.string sep] w fun e w' =>e= .returned (.string ⟨(Lib.join (xs.map (·.data.toList)) sep.data.toList).toArray⟩)/\Below w.heap.size w w' :=by
 cases xs with
 | nil=>exact(Tryz.strings_Join_none ao c sep w).mono fun _ _ ⟨h1,h2⟩=>⟨h1,by rw[h2];exact Below.refl _ _⟩
 | cons x r=>
   obtain⟨b,o,rfl,h0⟩:=hx 0 x rfl
   exact Tryz.strings_Join b o c (x::r) sep w (fun j y hj=>by obtain⟨b',o',h1,h2⟩:=hx j y hj;cases h1;exact h2) (World.block_lt_of_cell? w _ h0) hn hc hlen
theorem appText {W:World} {ops:Array Oper} {rest:List Oper} {o:Oper} {a:Act} {Q:Exit->Act->World->Prop} (hgd:o.guard=none) (s x:Operand)
  (ho:o.op= .call { callee:= .builtin .append,args:= #[s,x],argTypes:= #[45,45] }) (base:Nat) (v:Value) (l:List ByteArray) (hs:a.eval s=v) (hown:W.ownsRow base 9 1 v l.length (l.map Value.string))
  (b:Nat) (t:ByteArray) (hx:a.eval x= .slice (some ⟨b,0,none⟩) 1 1) (hc1:W.cell? ⟨b,0,none⟩=some (.string t))
  (hbytes:(l.length+1)*16<=140737488355328) (hbase:base<=W.heap.size) (w0:World) (hB:Below base w0 W)
  (h: ∀v' w',w'.ownsRow base 9 1 v' (l++ [t]).length ((l++ [t]).map Value.string)->Below base w0 w' ->W.heap.size<=w'.heap.size->W.grownBy w' v.ownBlock->wpList Tryz.prog ops Q rest (a.put o.dst v') w'):wpList Tryz.prog ops Q (o::rest) a W:=by
 refine app1 hgd s x _ ho base 9 Tryz.underlying45 infoStr rfl (by decide) (by decide) v l.length (l.map Value.string) hs hown b [.string t] hx rfl (fun u hu=> ?_) (fun j u hu=> ?_) hbytes hbase w0 hB fun v' w' h2 h3 h4 h5 h6=>h v' w' ?_ h3 h4 h6
 · simp at hu;subst hu;rfl
 · match j,hu with
   | 0,hu=>simp at hu;subst hu;exact hc1
 · rw[List.map_append,List.length_append];exact h2
def numsB (l:List Int):List ByteArray:=l.map fun n=>⟨(Lib.itoa n).toArray⟩
theorem numsB_data (l:List Int):(numsB l).map (·.data.toList)=l.map Lib.itoa:=by simp[numsB]
theorem numsB_length (l:List Int):(numsB l).length=l.length:=by simp[numsB]
theorem numsB_snoc (l:List Int) (k:Nat) (x:Int) (h:l[k]? =some x):numsB (l.take (k+1))=numsB (l.take k)++ [⟨(Lib.itoa x).toArray⟩]:=by
 rw[List.take_add_one,h];simp[numsB]
theorem join_len (sep:List UInt8) (m:Nat): ∀l:List (List UInt8),(∀p∈l,p.length<=m)->(Lib.join l sep).length<=l.length*(m+sep.length)
 | [],_=>by simp[Lib.join,List.intercalate]
 | [p],h=>by
   have:=h p (by simp)
   simp[Lib.join,List.intercalate,List.intersperse];omega
 | p ::q::r,h=>by
   have h1:=h p (by simp)
   have h2:=join_len sep m (q::r) (fun x hx=>h x (List.mem_cons_of_mem _ hx))
   have e:Lib.join (p::q::r) sep=p++(sep++Lib.join (q::r) sep):=by simp[Lib.join,List.intercalate,List.intersperse]
   rw[e]
   simp only[List.length_append,List.length_cons,Nat.add_mul,Nat.one_mul] at h2 ⊢
   omega
def wordsT (l:List Int):List UInt8:=Lib.join (l.map Lib.itoa) [32]
theorem wordsT_len (l:List Int) (h: ∀x∈l,i64B x):(wordsT l).length<=l.length*22:=by
 have :=join_len [32] 21 (l.map Lib.itoa) (fun p hp=>by
  obtain⟨x,hx,rfl⟩:=List.mem_map.1 hp
  exact Lib.itoa_length_le x (h x hx).1 (h x hx).2)
 simpa [wordsT] using this
end Go.Proofs.YtpgkjnebklknjaaGreatDoor
