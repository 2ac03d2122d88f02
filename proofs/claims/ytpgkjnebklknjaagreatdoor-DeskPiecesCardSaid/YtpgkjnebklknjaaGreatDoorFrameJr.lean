/-What a call may turn:the blocks of a set,and new ones;and blocks that are known whole. -/
import Derived.OneCell
import Derived.Test.YtpgkjnebklknjaaGreatDoorKitJr
namespace Go.Proofs.YtpgkjnebklknjaaGreatDoor
open Go.RowKit
structure Fr (F:Nat->Prop) (w w' :World):Prop where
 os:w'.os=w.os
 tape:w'.tape=w.tape
 output:w'.output=w.output
 size:w.heap.size<=w'.heap.size
 block: ∀k,k<w.heap.size-> ¬F k->w'.heap[k]? =w.heap[k]?
theorem Fr.refl (F:Nat->Prop) (w:World):Fr F w w:=⟨rfl,rfl,rfl,Nat.le_refl _,fun _ _ _=>rfl⟩
theorem Fr.trans {F:Nat->Prop} {a b c:World} (h:Fr F a b) (k:Fr F b c):Fr F a c:=
 ⟨k.os.trans h.os,k.tape.trans h.tape,k.output.trans h.output,Nat.le_trans h.size k.size,fun i hi hn=>(k.block i (Nat.lt_of_lt_of_le hi h.size) hn).trans (h.block i hi hn)⟩
theorem Fr.mono {F G:Nat->Prop} {w w' :World} (h:Fr F w w') (hFG: ∀k,k<w.heap.size->F k->G k):Fr G w w' :=
 ⟨h.os,h.tape,h.output,h.size,fun k hk hn=>h.block k hk fun hf=>hn (hFG k hk hf)⟩
theorem Fr.next {F G:Nat->Prop} {a b c:World} (h:Fr F a b) (k:Fr G b c) (hFG: ∀k,k<a.heap.size->G k->F k):Fr F a c:=
 ⟨k.os.trans h.os,k.tape.trans h.tape,k.output.trans h.output,Nat.le_trans h.size k.size,fun i hi hn=>(k.block i (Nat.lt_of_lt_of_le hi h.size) fun hg=>hn (hFG i hi hg)).trans (h.block i hi hn)⟩
theorem Fr.drew {F:Nat->Prop} {a w:World} (h:Fr F a w):Fr F a w.drew:=⟨h.os,h.tape,h.output,h.size,h.block⟩
theorem Fr.drewN {F:Nat->Prop} {a w:World} (h:Fr F a w) (n:Nat):Fr F a (w.drewN n):=⟨h.os,h.tape,h.output,h.size,h.block⟩
theorem Fr.alloc {F:Nat->Prop} {a w:World} (h:Fr F a w) (o:Obj):Fr F a (w.alloc o):=
 ⟨h.os,h.tape,h.output,by have:=h.size;simp;omega,fun k hk hn=>by rw[Below.heap_alloc _ _ _ (Nat.lt_of_lt_of_le hk h.size)];exact h.block k hk hn⟩
theorem Fr.setCell {F:Nat->Prop} {a w:World} (h:Fr F a w) {p:Addr} (hp:p.block<a.heap.size->F p.block) (u:Value):Fr F a (w.setCell p u):=
 ⟨h.os,h.tape,h.output,by have:=h.size;simp[World.setCell];omega,fun k hk hn=>by rw[Below.heap_setCell _ _ _ _ (fun e=>hn (by rw[e];exact hp (by rw[<-e];exact hk)))];exact h.block k hk hn⟩
theorem Fr.below {F:Nat->Prop} {B:Nat} {w w' :World} (h:Fr F w w') (hF: ∀k,k<w.heap.size->F k->B<=k) (hB:B<=w.heap.size):Below B w w' :=
 ⟨h.os,h.tape,h.output,h.size,fun k hk=>h.block k (by omega) fun hf=>by have:=hF k (by omega) hf;omega⟩
theorem Fr.ofBelow {B:Nat} {w w' :World} (h:Below B w w'):Fr (fun k=>B<=k) w w' :=⟨h.os,h.tape,h.output,h.size,fun k _ hn=>h.block k (by omega)⟩
theorem Fr.ofGrown {w w' :World} {m:Nat} (h:w.grownBy w' (some m)):Fr (· =m) w w' :=⟨h.os,h.tape,h.output,h.size,fun k hk hn=>h.block k hk (fun e=>hn (Option.some.inj e))⟩
theorem Fr.new {F:Nat->Prop} {w w' :World} (h:Below w.heap.size w w'):Fr F w w' :=⟨h.os,h.tape,h.output,h.size,fun k hk _=>h.block k hk⟩
theorem Fr.keeps {F:Nat->Prop} {w w' :World} (h:Fr F w w') {b:Nat} {o:Obj} (hb:w.heap[b]? =some o) (hn: ¬F b):w'.heap[b]? =some o:=
 (h.block b (lt_of_block hb) hn).trans hb
theorem block_cell {w:World} {b:Nat} {cs:Array Value} {t:TypeId} {fz:Nat×Nat} (h:w.heap[b]? =some (.cells cs t fz)) (i:Nat):w.cell? ⟨b,i,none⟩=cs[i]? :=by simp[World.cell?,h]
theorem block_free {w:World} {b:Nat} {cs:Array Value} {t:TypeId} (h:w.heap[b]? =some (.cells cs t (0,0))) (i:Nat):w.frozen? ⟨b,i,none⟩=false:=by simp[World.frozen?,h]
theorem block_set {w:World} {b:Nat} {cs:Array Value} {t:TypeId} {fz:Nat×Nat} (h:w.heap[b]? =some (.cells cs t fz)) (i:Nat) (v:Value):(w.setCell ⟨b,i,none⟩ v).heap[b]? =some (.cells (cs.setIfInBounds i v) t fz):=by
 have hlt:=lt_of_block h
 have h' :w.heap[b]= .cells cs t fz:=by simpa [Array.getElem?_eq_getElem hlt] using h
 show(w.heap.modify b _)[b]? =_
 rw[Array.getElem?_eq_getElem (by simpa using hlt),Array.getElem_modify_self,h']
 rfl
theorem block_set_other {w:World} {b:Nat} {o:Obj} (h:w.heap[b]? =some o) {p:Addr} (hp:b≠p.block) (v:Value):(w.setCell p v).heap[b]? =some o:=by
 rw[Below.heap_setCell _ _ _ _ hp];exact h
theorem block_alloc {w:World} {b:Nat} {o:Obj} (h:w.heap[b]? =some o) (x:Obj):(w.alloc x).heap[b]? =some o:=by
 rw[Below.heap_alloc _ _ _ (lt_of_block h)];exact h
theorem block_alloc_new (w:World) (x:Obj):(w.alloc x).heap[w.heap.size]? =some x:=by
 show(w.heap.push x)[w.heap.size]? =_
 simp
end Go.Proofs.YtpgkjnebklknjaaGreatDoor
