/-Small laws of the prover's own,over any program:an append of one element to a slice of the call's own;what is kept by calls that change nothing that was there. -/
import Derived.WalkKit
import Derived.WalkSpells
import Derived.WalkLawsBesides
import Derived.Lib.Hide
import Derived.RangeFuncBox
import Derived.Test.YtpgkjnebklknjaaGreatDoorRows
namespace Go.Proofs.YtpgkjnebklknjaaGreatDoor
def sortI (l:List Int):List Int:=l.mergeSort fun x y=>decide (x<=y)
theorem sortI_sorted (l:List Int):(sortI l).Pairwise (· <= ·):=by
 have h:=List.pairwise_mergeSort (le:=fun x y:Int=>decide (x<=y)) (by intro a b c;simp;omega) (by intro a b;simp;omega) l
 exact h.imp (by intro a b;simp)
theorem mem_sortI (l:List Int) (x:Int):x∈l↔x∈sortI l:=by unfold sortI;simp
open Go.RowKit
theorem ownsRow_below {w w' :World} {base:Nat} {e:TypeId} {size:Nat} {v:Value} {n:Nat} {xs:List Value} (h:w.ownsRow base e size v n xs) (hb:Below w.heap.size w w'):w'.ownsRow base e size v n xs:=
 ⟨h.1,h.2.imp id fun⟨g,cap,cur,h1,h2,h3,h4⟩=>⟨g,cap,cur,h1,h2,(hb.block g (Array.getElem?_eq_some_iff.1 h3).1).trans h3,h4⟩⟩
theorem below_trans {B:Nat} {a b c:World} (h:Below B a b) (hB:B<=b.heap.size) (k:Below b.heap.size b c):Below B a c:=h.trans (k.mono hB)
theorem ownsRow_mono {w:World} {base base' :Nat} {e:TypeId} {size:Nat} {v:Value} {n:Nat} {xs:List Value} (h:w.ownsRow base e size v n xs) (hb:base' <=base):w.ownsRow base' e size v n xs:=
 ⟨h.1,h.2.imp id fun⟨g,cap,cur,h1,h2,h3⟩=>⟨g,cap,cur,h1,Nat.le_trans hb h2,h3⟩⟩
theorem below_step {a b c:World} (h:Below a.heap.size a b) (k:Below b.heap.size b c):Below a.heap.size a c:=below_trans h h.size k
theorem below_cell {B:Nat} {w w' :World} (h:Below B w w') {b o:Nat} {v:Value} (hb:b<B) (hc:w.cell? ⟨b,o,none⟩=some v):w'.cell? ⟨b,o,none⟩=some v:=(h.cell (p:=⟨b,o,none⟩) hb).trans hc
theorem below_frozen {B:Nat} {w w' :World} (h:Below B w w') {b o:Nat} {v:Bool} (hb:b<B) (hc:w.frozen? ⟨b,o,none⟩=v):w'.frozen? ⟨b,o,none⟩=v:=(h.frozen (p:=⟨b,o,none⟩) hb).trans hc
theorem below_over {X w1:World} {o:Obj} (h:Below (X.alloc o).heap.size (X.alloc o) w1):Below X.heap.size X w1:=((Below.refl _ _).alloc (Nat.le_refl _) _).trans (h.mono (by simp))
def imin (x y:Int):Int:=min x y
def imax (x y:Int):Int:=max x y
@[go_sem high] theorem run_min_name {P:Program} {w:World} (ts:Array TypeId) (t:TypeId) (k k' :IntKind) (x y:Int):(Builtin.min_ ts t #[.int k x,.int k' y]).run P w= .ok (.int k (imin x y)) w:=by
  rw[run_min_int2]
  congr 2
  unfold imin;omega
@[go_sem high] theorem run_max_name {P:Program} {w:World} (ts:Array TypeId) (t:TypeId) (k k' :IntKind) (x y:Int):(Builtin.max_ ts t #[.int k x,.int k' y]).run P w= .ok (.int k (imax x y)) w:=by
  rw[run_max_int2]
  congr 2
  unfold imax;omega
theorem app1 {P:Program} {W:World} {ops:Array Oper} {rest:List Oper} {o:Oper} {a:Act} {Q:Exit->Act->World->Prop} (hgd:o.guard=none) (s x:Operand) (t:TypeId)
  (ho:o.op= .call { callee:= .builtin .append,args:= #[s,x],argTypes:= #[t,t] }) (base:Nat) (e:TypeId) {z:Value} {size bytes:Nat} (ht:P.underlying t=some (.slice e))
  (hinfo:(P.info? e).map (fun i=>(i.zero,i.size,i.bytes))=some (some z,size,bytes)) (hzs:z.cells.size=size) (hsz:0<size) (hby:0<bytes)
  (v:Value) (n:Nat) (xs:List Value) (hs:a.eval s=v) (hown:W.ownsRow base e size v n xs)
  (b:Nat) (news:List Value) (hx:a.eval x= .slice (some ⟨b,0,none⟩) 1 1) (hl:news.length=1*size) (h1: ∀u∈news,u.oneCell' =true) (hnews: ∀j u,news[j]? =some u->W.cell? ⟨b,j,none⟩=some u)
  (hbytes:(n+1)*bytes<=140737488355328) (hbase:base<=W.heap.size) (w0:World) (hB:Below base w0 W)
  (h: ∀v' w',w'.ownsRow base e size v' (n+1) (xs++news)->Below base w0 w' ->W.heap.size<=w'.heap.size->(∃g cap,v' = .slice (some ⟨g,0,none⟩) (n+1) cap)->W.grownBy w' v.ownBlock->wpList P ops Q rest (a.put o.dst v') w'):wpList P ops Q (o::rest) a W:=by
 obtain⟨i,hi,hz0,hz1,hz2⟩:=info_parts hinfo
 have h63:n+1<=maxLen:=by
  have:n+1<=(n+1)*bytes:=Nat.le_mul_of_pos_right _ hby
  unfold maxLen;omega
 refine wpList_append_own _ hgd s x t ho base e i z size bytes ht hi hz0 hz1 hz2 hzs hsz v n xs hs hown ⟨b,0,none⟩ 1 1 news hx hl ?_ h1 h63 hbytes hbase ?_
 · intro j u hu
   have:(⟨b,0,none⟩:Addr).add j=⟨b,j,none⟩:=by unfold Addr.add;split<;>simp_all
   rw[this];exact hnews j u hu
 · intro v' w' h2 h3 _
   exact h v' w' h2 (hB.grown h3 hbase (fun k hk=>(hown.lt k hk).1)) h3.size (ownsRow_succ h2) h3
end Go.Proofs.YtpgkjnebklknjaaGreatDoor
