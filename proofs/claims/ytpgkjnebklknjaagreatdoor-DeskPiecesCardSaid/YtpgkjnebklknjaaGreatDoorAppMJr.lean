/-Many elements appended at once to a slice of one's own. -/
import Derived.Laws.AppendOwnNone
import Derived.Lib.AppendZeros
import Derived.Test.YtpgkjnebklknjaaGreatDoorPsAJr
import Derived.Test.YtpgkjnebklknjaaGreatDoorPickJr
import Derived.Test.YtpgkjnebklknjaaGreatDoorApFJr
namespace Go.Proofs.YtpgkjnebklknjaaGreatDoor
open Go.RowKit Go.Deep Go.Shelf Go.Sort Go.Maps
theorem appMany {W:World} {ops:Array Oper} {rest:List Oper} {o:Oper} {a:Act} {Q:Exit->Act->World->Prop} (hgd:o.guard=none) (s x:Operand) (t:TypeId)
  (ho:o.op= .call { callee:= .builtin .append,args:= #[s,x],argTypes:= #[t,t] }) (base:Nat) (e:TypeId) (ht:Tryz.prog.underlying t=some (.slice e)) {z:Value} {size bytes:Nat} (hinfo:(Tryz.prog.info? e).map (fun i=>(i.zero,i.size,i.bytes))=some (some z,size,bytes)) (hzs:z.cells.size=size) (hsz:0<size)
  (v:Value) (n:Nat) (xs:List Value) (hs:a.eval s=v) (hown:W.ownsRow base e size v n xs) (ao:Option Addr) (m c:Nat) (hx:a.eval x= .slice ao m c) (hnone:ao=none->m=0/\c=0) (news:List Value) (hl:news.length=m*size) (hnews: ∀p,ao=some p-> ∀j u,news[j]? =some u->W.cell? (p.add j)=some u) (h1: ∀u∈news,u.oneCell' =true)
  (h63:n+m<=maxLen) (hbytes:(n+m)*bytes<=140737488355328) (hbase:base<=W.heap.size) (w0:World) (hB:Below base w0 W)
  (h: ∀v' w',w'.ownsRow base e size v' (n+m) (xs++news)->Below base w0 w' ->W.heap.size<=w'.heap.size->W.grownBy w' v.ownBlock->(∀p,w'.heap.size<=p->v'.ownBlock≠some p)->wpList Tryz.prog ops Q rest (a.put o.dst v') w'):wpList Tryz.prog ops Q (o::rest) a W:=by
 obtain⟨i0,hi,hz0,hz1,hz2⟩:=info_parts hinfo
 cases ao with
 | none=>
   obtain⟨rfl,rfl⟩:=hnone rfl
   have hn:news= []:=List.eq_nil_of_length_eq_zero (by simpa using hl)
   subst hn
   refine wpList_append_own_none hgd s x t ho base e i0 size ht hi v n xs hs hown hx (h v W ?_ hB (Nat.le_refl _) ⟨rfl,rfl,rfl,Nat.le_refl _,fun _ _ _=>rfl⟩ fun p hp e=> ?_)
   · simpa using hown
   · have:=(hown.lt p e).2;omega
 | some p=>
   obtain⟨v',w',hr,h2,h3,_⟩:=run_append_own (P:=Tryz.prog) W base t o.type e i0 z size bytes ht hi hz0 hz1 hz2 hzs hsz v n xs hown p m c news hl (hnews p rfl) h1 h63 hbytes hbase
   exact Lib.wpList_append_run W hgd s x t t ho v (.slice (some p) m c) hs hx v' w' hr (h v' w' h2 (hB.grown h3 hbase (fun k hk=>(hown.lt k hk).1)) h3.size h3 fun p hp e=>by have:=(h2.lt p e).2;omega)
theorem own_empty {base:Nat} {e:TypeId} {size:Nat} (w:World) (hb:base<=w.heap.size):(w.alloc (.cells #[] e)).ownsRow base e size (.slice (some ⟨w.heap.size,0,none⟩) 0 0) 0 []:=
 World.ownsRow_made w #[] 0 hb (by simp[maxLen]) (by simp)
theorem add_at (b f j:Nat):(⟨b,f,none⟩:Addr).add j=⟨b,f+j,none⟩:=by unfold Addr.add;split<;>simp_all
end Go.Proofs.YtpgkjnebklknjaaGreatDoor
