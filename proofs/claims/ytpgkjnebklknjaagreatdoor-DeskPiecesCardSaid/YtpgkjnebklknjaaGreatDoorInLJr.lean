/-Lists of numbers that are read. -/
import Derived.Test.YtpgkjnebklknjaaGreatDoorPwEJr
namespace Go.Proofs.YtpgkjnebklknjaaGreatDoor
open Go.RowKit Go.Deep Go.Shelf Go.Sort Go.Maps
def IntsIn (w:World) (ao:Option Addr) (l:List Int):Prop:= ∀(j:Nat) x,l[j]? =some x-> ∃b,ao=some ⟨b,0,none⟩/\w.cell? ⟨b,j,none⟩=some (.int .i64 x)
theorem IntsIn.below {w w' :World} {ao:Option Addr} {l:List Int} (h:IntsIn w ao l) (hb:Below w.heap.size w w'):IntsIn w' ao l:=fun j p hp=>by
 obtain⟨b,h1,h2⟩:=h j p hp
 exact⟨b,h1,below_cell hb (World.block_lt_of_cell? w _ h2) h2⟩
theorem ownsRow_intsIn {w:World} {base n:Nat} {v:Value} {l:List Int} {e:TypeId} (h:w.ownsRow base e 1 v n (l.map (Value.int .i64))): ∃ao cap,v= .slice ao l.length cap/\IntsIn w ao l:=by
 obtain⟨ao,cap,h1,h2⟩:=ownsRow_intsB h
 exact⟨ao,cap,h1,fun j x hx=>by obtain⟨b,e,_,hc⟩:=h2 j x hx;exact⟨b,e,hc⟩⟩
end Go.Proofs.YtpgkjnebklknjaaGreatDoor
