/-Plain law,no program in it:what may be said,in which order keys stand,and how changes are written. -/
import Derived.Lib.ItoaNum
import Derived.Lib.Join
import Derived.Lib.SlTrimSet
import GoSem.Op.String
namespace Go.Proofs.YtpgkjnebklknjaaGreatDoor
open Go
structure KeyP where
 kind:Int
 a:Int
 word:ByteArray
 b:Int
structure OpP where
 key:KeyP
 fr:Int
 to:Int
 value:ByteArray
instance:DecidableEq KeyP:=fun x y=>
 if h:x.kind=y.kind/\x.a=y.a/\x.word=y.word/\x.b=y.b then .isTrue (by obtain⟨a,b,c,d⟩:=x;obtain⟨a',b',c',d'⟩:=y;simp at h;simp[h])
 else .isFalse (fun e=>h (by subst e;exact⟨rfl,rfl,rfl,rfl⟩))
instance:Inhabited KeyP:=⟨⟨0,0,ByteArray.empty,0⟩⟩
instance:Inhabited OpP:=⟨⟨default,0,0,ByteArray.empty⟩⟩
def isW (c:UInt8):Bool:=decide (97<=c.toNat/\c.toNat<=122)||decide (48<=c.toNat/\c.toNat<=57)
def wordB (s:ByteArray):Bool:=decide (1<=s.size/\s.size<=12) && s.data.toList.all isW
def nodeB (n:Int):Bool:=decide (0<=n/\n<=1048576)
def keyB (k:KeyP):Bool:=
 if k.kind=1 then nodeB k.a && (decide (k.word.size=0) && decide (k.b=0))
 else if k.kind=2 then nodeB k.a && (nodeB k.b && wordB k.word)
 else if k.kind=3 then nodeB k.a && (wordB k.word && decide (k.b=0)) else false
def spanB (f t:Int):Bool:=decide (-1099511627776<=f/\t<=1099511627776/\f<t)
def opB (o:OpP):Bool:=keyB o.key && (spanB o.fr o.to && (decide (o.value.size=0)||wordB o.value))
def letters:List UInt8:= [97,98,99,100,101,102,103,104,105,106,107,108,109,110,111,112,113,114,115,116,117,118,119,120,121,122,48,49,50,51,52,53,54,55,56,57]
theorem letters_fin: ∀i:Fin 256,letters.contains (UInt8.ofNat i.val)=isW (UInt8.ofNat i.val):=by decide+kernel
theorem letters_isW (c:UInt8):letters.contains c=isW c:=by
 have:=letters_fin ⟨c.toNat,c.toNat_lt⟩
 simpa using this
theorem dropWhile_all {α:Type} (p:α->Bool): ∀l:List α,(l.dropWhile p= []↔l.all p=true)
 | []=>by simp
 | a ::l=>by
   cases h:p a
   · simp[List.dropWhile,h]
   · simp only[List.dropWhile,h,List.all_cons,Bool.true_and];exact dropWhile_all p l
theorem trim_word (l:List UInt8):Lib.trimS l letters= []↔l.all isW=true:=by
 unfold Lib.trimS Lib.trimLeftS Lib.trimRightS
 have e:(fun x=>letters.contains x)=isW:=funext letters_isW
 rw[e,dropWhile_all]
 constructor
 · intro h
   by_cases hn:l.reverse.dropWhile isW= []
   · have:=(dropWhile_all isW l.reverse).1 hn
     rw[List.all_reverse] at this
     exact this
   · exfalso
     obtain⟨a,r,hr⟩:=List.exists_cons_of_ne_nil hn
     have h1:isW a=false:=by
      have:=List.head_dropWhile_not isW hn
      simp only[hr,List.head_cons] at this
      simpa using this
     rw[hr] at h
     rw[List.all_reverse] at h
     simp only[List.all_cons,h1,Bool.false_and] at h
     cases h
 · intro h
   have h' :l.reverse.all isW=true:=by rw[List.all_reverse];exact h
   rw[(dropWhile_all isW l.reverse).2 h']
   rfl
theorem bless_irrefl: ∀l:List UInt8,Op.bytesLess l l=false
 | []=>rfl
 | a::l=>by simp[Op.bytesLess,bless_irrefl l]
theorem bless_tri: ∀l m:List UInt8,Op.bytesLess l m=true\/l=m\/Op.bytesLess m l=true
 | [],[]=> .inr (.inl rfl)
 | [],_::_=> .inl rfl
 | _::_,[]=> .inr (.inr rfl)
 | a ::l,b::m=>by
   simp only[Op.bytesLess,Bool.or_eq_true,decide_eq_true_eq,Bool.and_eq_true,beq_iff_eq]
   rcases(show a<b\/a=b\/b<a by rw[UInt8.lt_iff_toNat_lt,UInt8.lt_iff_toNat_lt, <-UInt8.toNat_inj];omega) with h|h|h
   · exact .inl (.inl h)
   · subst h
     rcases bless_tri l m with h|h|h
     · exact .inl (.inr ⟨rfl,h⟩)
     · exact .inr (.inl (by rw[h]))
     · exact .inr (.inr (.inr ⟨rfl,h⟩))
   · exact .inr (.inr (.inl h))
theorem bless_trans: ∀l m n:List UInt8,Op.bytesLess l m=true->Op.bytesLess m n=true->Op.bytesLess l n=true
 | _,_,[],_,h=>by simp[Op.bytesLess] at h
 | _,[],_::_,h,_=>by simp[Op.bytesLess] at h
 | [],_::_,_::_,_,_=>rfl
 | a ::l,b::m,c::n,h,k=>by
   simp only[Op.bytesLess,Bool.or_eq_true,decide_eq_true_eq,Bool.and_eq_true,beq_iff_eq] at h k ⊢
   rcases h with h|⟨rfl,h⟩
   · rcases k with k|⟨rfl,k⟩
     · exact .inl (UInt8.lt_trans h k)
     · exact .inl h
   · rcases k with k|⟨rfl,k⟩
     · exact .inl k
     · exact .inr ⟨rfl,bless_trans l m n h k⟩
theorem bless_asymm (l m:List UInt8) (h:Op.bytesLess l m=true):Op.bytesLess m l=false:=by
 cases h' :Op.bytesLess m l
 · rfl
 · have:=bless_trans l m l h h'
   rw[bless_irrefl] at this;cases this
def sgn (more:Bool):Int:=if more then 1 else-1
def keyCmp (x y:KeyP):Int:=
 if x.kind≠y.kind then sgn (decide (y.kind<x.kind))
 else if x.a≠y.a then sgn (decide (y.a<x.a))
 else if x.word≠y.word then sgn (Op.bytesLess y.word.data.toList x.word.data.toList)
 else if x.b≠y.b then sgn (decide (y.b<x.b)) else 0
def keyLess (x y:KeyP):Bool:=
 if x.kind≠y.kind then decide (x.kind<y.kind)
 else if x.a≠y.a then decide (x.a<y.a)
 else if x.word≠y.word then Op.bytesLess x.word.data.toList y.word.data.toList
 else decide (x.b<y.b)
theorem bytes_ext {x y:ByteArray} (h:x.data.toList=y.data.toList):x=y:=by
 obtain⟨⟨l⟩⟩:=x;obtain⟨⟨m⟩⟩:=y;simp at h;rw[h]
theorem cmp_less (x y:KeyP):keyCmp x y=if keyLess x y then-1 else if x≠y then 1 else 0:=by
 obtain⟨k,a,s,b⟩:=x;obtain⟨k',a',s',b'⟩:=y
 unfold keyCmp keyLess sgn
 by_cases h1:k=k'
 · subst h1
   by_cases h2:a=a'
   · subst h2
     by_cases h3:s=s'
     · subst h3
       by_cases h4:b=b'
       · subst h4;simp
       · by_cases h5:b' <b
         · simp[h4,h5,show ¬b<b' by omega]
         · simp[h4,h5,show b<b' by omega]
     · rcases bless_tri s.data.toList s'.data.toList with h|h|h
       · simp[h3,h,bless_asymm _ _ h]
       · exact absurd (bytes_ext h) h3
       · simp[h3,h,bless_asymm _ _ h]
   · by_cases h5:a' <a
     · simp[h2,h5,show ¬a<a' by omega]
     · simp[h2,h5,show a<a' by omega]
 · by_cases h5:k' <k
   · simp[h1,h5,show ¬k<k' by omega]
   · simp[h1,h5,show k<k' by omega]
def dashL (s:ByteArray):List UInt8:=if s.size=0 then [45] else s.data.toList
def opWs (o:OpP):List (List UInt8):= [Lib.itoa o.key.kind,Lib.itoa o.key.a,dashL o.key.word,Lib.itoa o.key.b,Lib.itoa o.fr,Lib.itoa o.to,dashL o.value]
def opT (o:OpP):List UInt8:=Lib.join (opWs o) [32]
def writeT (l:List OpP):List UInt8:=Lib.join (l.map opT) [43]
def lenB (l:List OpP):Bool:=decide (1<=l.length/\l.length<=8)
def writeR (l:List OpP):List UInt8×Int×Int:=
 if lenB l then (if l.all opB then (writeT l,0, -1) else ([],1,(l.findIdx fun o=> !opB o:Nat))) else ([],4, -1)
end Go.Proofs.YtpgkjnebklknjaaGreatDoor
