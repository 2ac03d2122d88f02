/-An append to a slice of the call's own:the new slice begins at the same block or at a new one:so whatever other block stays apart from it. -/
import Derived.ArgAppend
import Derived.Test.YtpgkjnebklknjaaGreatDoorKitJr
namespace Go.Proofs.YtpgkjnebklknjaaGreatDoor
open Go.RowKit
def Apart (v:Value) (p:Nat):Prop:=v.ownBlock≠some p
theorem apart_new {w:World} {base:Nat} {e:TypeId} {size:Nat} {v:Value} {n:Nat} {xs:List Value} (h:w.ownsRow base e size v n xs) {p:Nat} (hp:w.heap.size<=p):Apart v p:=fun e=>by have:=(h.lt p e).2;omega
theorem append_fresh {P:Program} (w:World) (base:Nat) (t ty e:TypeId) (i:TypeInfo) (z:Value) (size bytes:Nat) (ht:P.underlying t=some (.slice e)) (hi:P.info? e=some i) (hz:i.zero=some z)
  (hsize:i.size=size) (hby:i.bytes=bytes) (hzs:z.cells.size=size) (hsz:0<size)
  (v:Value) (n:Nat) (xs:List Value) (hown:w.ownsRow base e size v n xs)
  (a:Addr) (m c:Nat) (news:List Value) (hl:news.length=m*size) (hnews: ∀j u,news[j]? =some u->w.cell? (a.add j)=some u) (h1: ∀u∈news,u.oneCell' =true)
  (h63:n+m<=maxLen) (hbytes:(n+m)*bytes<=140737488355328) (v' :Value) (w' :World)
  (hr:(Builtin.append_ #[t,t] ty #[v,.slice (some a) m c]).run P w= .ok v' w'): ∀p,p<w.heap.size->Apart v p->Apart v' p:=by
 intro p hp hap
 rcases hown.2 with ⟨rfl,hn⟩|⟨g,cap,cur,rfl,hbg,hh,hnc,hcm,hcs,htk⟩
 · subst hn
   have hx:xs= []:=List.eq_nil_of_length_eq_zero (by simpa using hown.1)
   subst hx
   obtain⟨v2,w2,hr2,h2,_⟩:=run_append_own (P:=P) w w.heap.size t ty e i z size bytes ht hi hz hsize hby hzs hsz _ 0 [] (World.ownsRow_nil w _ e size) a m c news hl hnews h1 h63 hbytes (Nat.le_refl _)
   rw[hr] at hr2
   injection hr2 with e1 e2
   subst e1 e2
   intro hc
   have:=(h2.lt p hc).1
   omega
 · by_cases hroom:n+m<=cap
   · obtain⟨w2,hr2,_⟩:=run_append_fits (P:=P) w base t ty e i size ht hi hsize g n cap xs hown a m c news hl hnews h1 hroom
     rw[hr] at hr2
     injection hr2 with e1 e2
     subst e1
     exact hap
   · have hadd: ∀k,(⟨g,0,none⟩:Addr).add k=⟨g,k,none⟩:=fun k=>by unfold Addr.add;split<;>simp_all
     obtain⟨v2,w2,hr2,h2,_⟩:=run_append_arg_grows (P:=P) w t ty e i z size bytes ht hi hz hsize hby hzs hsz ⟨g,0,none⟩ n cap xs hown.1 (fun j u hu=>by rw[hadd];rw[hown.cellAt j (by rw[<-hown.1];exact(List.getElem?_eq_some_iff.1 hu).1)];exact hu) a m c news hl hnews (by omega) h63 hbytes
     rw[hr] at hr2
     injection hr2 with e1 e2
     subst e1 e2
     intro hc
     have:=(h2.lt p hc).1
     omega
end Go.Proofs.YtpgkjnebklknjaaGreatDoor
