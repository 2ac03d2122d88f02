/-The document's Write. The condition:the library's table of powers of ten is as its own text lays it. -/
import Derived.Laws.AppendOwnNone
import Derived.Test.YtpgkjnebklknjaaGreatDoorRowJr
import Derived.Test.YtpgkjnebklknjaaGreatDoorFcEJr
import Derived.Test.YtpgkjnebklknjaaGreatDoorDag2Jr
import Derived.Test.YtpgkjnebklknjaaGreatDoorFactMJr
namespace Go.Proofs.YtpgkjnebklknjaaGreatDoor
open Go.RowKit Go.Shelf Go.Sort
open Go.RowKit
theorem ret_str {a b:ByteArray} (h:a=b):Ending.returned (.string a)= .returned (.string b):=by rw[h]
theorem intsAt_new (V:World) (l:List Int) {cs:Array Value} {t:TypeId} (h:cs.toList=l.map (Value.int .i64)):intsAt (V.alloc (.cells cs t)) (some ⟨V.heap.size,0,none⟩) l:=by
 intro i x hi
 refine⟨V.heap.size,0,rfl,?_⟩
 rw[Nat.zero_add]
 have:cs[i]? =some (.int .i64 x):=by rw[<-Array.getElem?_toList,h];simp[hi]
 simp[this]
theorem dashL_len (s:ByteArray):(dashL s).length<=s.size+1:=by
 unfold dashL;split
 · simp
 · rw[size_toList];omega
def ktφ (kb:Nat) (k a b:Int) (s:ByteArray):Nat->World->Value->Prop:=fun i V v=>match i with
 | 0=>v= .pointer (some ⟨kb,0,none⟩)
 | 1=>v= .int .i64 k
 | 2=>v= .pointer (some ⟨kb,1,none⟩)
 | 3=>v= .int .i64 a
 | 4=> ∃g,v= .slice (some ⟨g,0,none⟩) 2 2/\intsAt V (some ⟨g,0,none⟩) [k,a]
 | 5=>v= .string ⟨(wordsT [k,a]).toArray⟩
 | 6=>v= .string (⟨(wordsT [k,a]).toArray⟩++⟨#[32]⟩)
 | 7=>v= .pointer (some ⟨kb,2,none⟩)
 | 8=>v= .string s
 | 9=>v= .string ⟨(dashL s).toArray⟩
 | 10=>v= .string (⟨(wordsT [k,a]).toArray⟩++⟨#[32]⟩++⟨(dashL s).toArray⟩)
 | 11=>v= .string (⟨(wordsT [k,a]).toArray⟩++⟨#[32]⟩++⟨(dashL s).toArray⟩++⟨#[32]⟩)
 | 12=>v= .pointer (some ⟨kb,3,none⟩)
 | 13=>v= .int .i64 b
 | 14=> ∃g,v= .slice (some ⟨g,0,none⟩) 1 1/\intsAt V (some ⟨g,0,none⟩) [b]
 | 15=>v= .string ⟨(wordsT [b]).toArray⟩
 | 16=>v= .string (⟨(wordsT [k,a]).toArray⟩++⟨#[32]⟩++⟨(dashL s).toArray⟩++⟨#[32]⟩++⟨(wordsT [b]).toArray⟩)
 | _=>True
theorem ktφ_0 (kb:Nat) (k a b:Int) (s:ByteArray) (V:World) (v:Value) (h:ktφ kb k a b s 0 V v):v= .pointer (some ⟨kb,0,none⟩):=h
theorem ktφ_1 (kb:Nat) (k a b:Int) (s:ByteArray) (V:World) (v:Value) (h:ktφ kb k a b s 1 V v):v= .int .i64 k:=h
theorem ktφ_2 (kb:Nat) (k a b:Int) (s:ByteArray) (V:World) (v:Value) (h:ktφ kb k a b s 2 V v):v= .pointer (some ⟨kb,1,none⟩):=h
theorem ktφ_3 (kb:Nat) (k a b:Int) (s:ByteArray) (V:World) (v:Value) (h:ktφ kb k a b s 3 V v):v= .int .i64 a:=h
theorem ktφ_4 (kb:Nat) (k a b:Int) (s:ByteArray) (V:World) (v:Value) (h:ktφ kb k a b s 4 V v): ∃g,v= .slice (some ⟨g,0,none⟩) 2 2/\intsAt V (some ⟨g,0,none⟩) [k,a]:=h
theorem ktφ_5 (kb:Nat) (k a b:Int) (s:ByteArray) (V:World) (v:Value) (h:ktφ kb k a b s 5 V v):v= .string ⟨(wordsT [k,a]).toArray⟩:=h
theorem ktφ_6 (kb:Nat) (k a b:Int) (s:ByteArray) (V:World) (v:Value) (h:ktφ kb k a b s 6 V v):v= .string (⟨(wordsT [k,a]).toArray⟩++⟨#[32]⟩):=h
theorem ktφ_7 (kb:Nat) (k a b:Int) (s:ByteArray) (V:World) (v:Value) (h:ktφ kb k a b s 7 V v):v= .pointer (some ⟨kb,2,none⟩):=h
theorem ktφ_8 (kb:Nat) (k a b:Int) (s:ByteArray) (V:World) (v:Value) (h:ktφ kb k a b s 8 V v):v= .string s:=h
theorem ktφ_9 (kb:Nat) (k a b:Int) (s:ByteArray) (V:World) (v:Value) (h:ktφ kb k a b s 9 V v):v= .string ⟨(dashL s).toArray⟩:=h
theorem ktφ_10 (kb:Nat) (k a b:Int) (s:ByteArray) (V:World) (v:Value) (h:ktφ kb k a b s 10 V v):v= .string (⟨(wordsT [k,a]).toArray⟩++⟨#[32]⟩++⟨(dashL s).toArray⟩):=h
theorem ktφ_11 (kb:Nat) (k a b:Int) (s:ByteArray) (V:World) (v:Value) (h:ktφ kb k a b s 11 V v):v= .string (⟨(wordsT [k,a]).toArray⟩++⟨#[32]⟩++⟨(dashL s).toArray⟩++⟨#[32]⟩):=h
theorem ktφ_12 (kb:Nat) (k a b:Int) (s:ByteArray) (V:World) (v:Value) (h:ktφ kb k a b s 12 V v):v= .pointer (some ⟨kb,3,none⟩):=h
theorem ktφ_13 (kb:Nat) (k a b:Int) (s:ByteArray) (V:World) (v:Value) (h:ktφ kb k a b s 13 V v):v= .int .i64 b:=h
theorem ktφ_14 (kb:Nat) (k a b:Int) (s:ByteArray) (V:World) (v:Value) (h:ktφ kb k a b s 14 V v): ∃g,v= .slice (some ⟨g,0,none⟩) 1 1/\intsAt V (some ⟨g,0,none⟩) [b]:=h
theorem ktφ_15 (kb:Nat) (k a b:Int) (s:ByteArray) (V:World) (v:Value) (h:ktφ kb k a b s 15 V v):v= .string ⟨(wordsT [b]).toArray⟩:=h
theorem ktφ_16 (kb:Nat) (k a b:Int) (s:ByteArray) (V:World) (v:Value) (h:ktφ kb k a b s 16 V v):v= .string (⟨(wordsT [k,a]).toArray⟩++⟨#[32]⟩++⟨(dashL s).toArray⟩++⟨#[32]⟩++⟨(wordsT [b]).toArray⟩):=h
theorem ktφ_mono (kb:Nat) (k a b:Int) (s:ByteArray) (i:Nat) (V V' :World) (v:Value) (hb:Below V.heap.size V V') (h:ktφ kb k a b s i V v):ktφ kb k a b s i V' v:=
 match i,h with
 | 0,h=>h
 | 1,h=>h
 | 2,h=>h
 | 3,h=>h
 | 4,h=>let ⟨g,e,hg⟩:=h;⟨g,e,hg.below hb⟩
 | 5,h=>h
 | 6,h=>h
 | 7,h=>h
 | 8,h=>h
 | 9,h=>h
 | 10,h=>h
 | 11,h=>h
 | 12,h=>h
 | 13,h=>h
 | 14,h=>let ⟨g,e,hg⟩:=h;⟨g,e,hg.below hb⟩
 | 15,h=>h
 | 16,h=>h
 | _+17,_=>trivial
theorem ktφ_list {X:List Value} (h:X.length=17): ∃x0 x1 x2 x3 x4 x5 x6 x7 x8 x9 x10 x11 x12 x13 x14 x15 x16,X= [x0,x1,x2,x3,x4,x5,x6,x7,x8,x9,x10,x11,x12,x13,x14,x15,x16]:=
 match X,h with| [x0,x1,x2,x3,x4,x5,x6,x7,x8,x9,x10,x11,x12,x13,x14,x15,x16],_=>⟨x0,x1,x2,x3,x4,x5,x6,x7,x8,x9,x10,x11,x12,x13,x14,x15,x16,rfl⟩
def opCells (o:OpP):List Value:= [.int .i64 o.key.kind,.int .i64 o.key.a,.string o.key.word,.int .i64 o.key.b,.int .i64 o.fr,.int .i64 o.to,.string o.value]
def opsAt (w:World) (ao:Option Addr) (l:List OpP):Prop:= ∀i o,l[i]? =some o-> ∃b f,ao=some ⟨b,f,none⟩/\ ∀j u,(opCells o)[j]? =some u->w.cell? ⟨b,f+i*7+j,none⟩=some u
theorem opsAt.below {w w' :World} {ao:Option Addr} {l:List OpP} (h:opsAt w ao l) (hb:Below w.heap.size w w'):opsAt w' ao l:=
 fun i o hi=>let ⟨b,f,h1,h2⟩:=h i o hi
  ⟨b,f,h1,fun j u hj=>(hb.cell (p:=⟨b,_,none⟩) (World.block_lt_of_cell? w _ (h2 j u hj))).trans (h2 j u hj)⟩
theorem opsAt_get {w:World} {ao:Option Addr} {l:List OpP} (h:opsAt w ao l) {k:Nat} (hk:k<l.length):
  ∃ b f n a s m x y u,Hid (l[k]? =some ⟨⟨n,a,s,m⟩,x,y,u⟩)/\ao=some ⟨b,f,none⟩/\b<w.heap.size/\w.cell? ⟨b,f+k*7,none⟩=some (.int .i64 n)/\w.cell? ⟨b,f+k*7+1,none⟩=some (.int .i64 a)/\w.cell? ⟨b,f+k*7+2,none⟩=some (.string s)∧
    w.cell? ⟨b,f+k*7+3,none⟩=some (.int .i64 m)/\w.cell? ⟨b,f+k*7+4,none⟩=some (.int .i64 x)/\w.cell? ⟨b,f+k*7+5,none⟩=some (.int .i64 y)/\w.cell? ⟨b,f+k*7+6,none⟩=some (.string u):=by
 cases hg:l[k] with
 | mk key x y u=>
   cases key with
   | mk n a s m=>
     have hs:l[k]? =some ⟨⟨n,a,s,m⟩,x,y,u⟩:=by rw[List.getElem?_eq_getElem hk,hg]
     obtain⟨b,f,h1,h2⟩:=h k _ hs
     exact⟨b,f,n,a,s,m,x,y,u,Lib.hid hs,h1,World.block_lt_of_cell? w _ (h2 0 _ rfl),h2 0 _ rfl,h2 1 _ rfl,h2 2 _ rfl,h2 3 _ rfl,h2 4 _ rfl,h2 5 _ rfl,h2 6 _ rfl⟩
theorem word_size {s:ByteArray} (h:s.size=0\/wordB s=true):s.size<=12:=by
 rcases h with h|h
 · omega
 · unfold wordB at h;simp only[Bool.and_eq_true,decide_eq_true_eq] at h;exact h.1.2
theorem opT_len {o:OpP} (hb:opB o=true):(opT o).length<=500:=by
 have hw:=opB_wf hb
 have h1:=word_size (key_word (op_key hb))
 have h2:=word_size (op_value hb)
 have :=join_len [32] 61 (opWs o) (fun p hp=>by
  obtain⟨w1,w2,w3,w4,w5⟩:=hw
  have d1:=dashL_len o.key.word
  have d2:=dashL_len o.value
  have l1:=Lib.itoa_length_le _ w1.1 w1.2
  have l2:=Lib.itoa_length_le _ w2.1 w2.2
  have l3:=Lib.itoa_length_le _ w3.1 w3.2
  have l4:=Lib.itoa_length_le _ w4.1 w4.2
  have l5:=Lib.itoa_length_le _ w5.1 w5.2
  simp only[opWs,List.mem_cons,List.not_mem_nil,or_false] at hp
  rcases hp with rfl|rfl|rfl|rfl|rfl|rfl|rfl<;>omega)
 simp only[opWs,List.length_cons,List.length_nil] at this
 unfold opT opWs
 omega
theorem lenB_le {l:List OpP} (h:lenB l=true):l.length<=8:=by unfold lenB at h;simp only[decide_eq_true_eq] at h;exact h.2
theorem writeR_good {l:List OpP} (hl:lenB l=true) (hb:l.all opB=true):writeR l=(writeT l,0, -1):=by
 unfold writeR;rw[hl,hb];rfl
theorem writeR_len {l:List OpP} (hl:lenB l=false):writeR l=([],4, -1):=by
 unfold writeR;rw[hl];rfl
end Go.Proofs.YtpgkjnebklknjaaGreatDoor
