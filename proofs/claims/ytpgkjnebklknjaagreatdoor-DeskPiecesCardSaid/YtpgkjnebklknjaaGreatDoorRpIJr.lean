/-PastPlays:lists that are the same compare as the same. -/
import Derived.Test.YtpgkjnebklknjaaGreatDoorFcKJr
import Derived.Test.YtpgkjnebklknjaaGreatDoorPwMJr
import Derived.Test.YtpgkjnebklknjaaGreatDoorTreeRJr
namespace Go.Proofs.YtpgkjnebklknjaaGreatDoor
open Go.RowKit
section
variable (w:World) (f t:Int) (s:ByteArray)
end
end Go.Proofs.YtpgkjnebklknjaaGreatDoor
namespace Go.Proofs.YtpgkjnebklknjaaGreatDoor
open Go.RowKit Go.Deep Go.Shelf Go.Sort Go.Maps
def KeysIn (w:World) (ao:Option Addr) (l:List KeyP):Prop:= ∀j p,l[j]? =some p-> ∃b,ao=some ⟨b,0,none⟩/\w.cell? ⟨b,j*4,none⟩=some (.int .i64 p.kind)/\w.cell? ⟨b,j*4+1,none⟩=some (.int .i64 p.a)/\w.cell? ⟨b,j*4+2,none⟩=some (.string p.word)/\w.cell? ⟨b,j*4+3,none⟩=some (.int .i64 p.b)
theorem flatKeys_at: ∀(l:List KeyP) (i:Nat) (p:KeyP),l[i]? =some p->(flatKeys l)[i*4]? =some (.int .i64 p.kind)/\(flatKeys l)[i*4+1]? =some (.int .i64 p.a)/\(flatKeys l)[i*4+2]? =some (.string p.word)/\(flatKeys l)[i*4+3]? =some (.int .i64 p.b)
 | [],i,p,h=>by simp at h
 | q::l,0,p,h=>by simp at h;subst h;simp[flatKeys,encK]
 | q ::l,i+1,p,h=>by
   have:=flatKeys_at l i p (by simpa using h)
   rw[show(i+1)*4=i*4+4 by omega,show i*4+4+1=i*4+1+4 by omega,show i*4+4+2=i*4+2+4 by omega,show i*4+4+3=i*4+3+4 by omega]
   simpa [flatKeys,encK] using this
theorem ownsRow_keysIn {w:World} {base n:Nat} {v:Value} {l:List KeyP} {e:TypeId} (h:w.ownsRow base e 4 v n (flatKeys l)): ∃ao cap,v= .slice ao l.length cap/\KeysIn w ao l:=by
 have hn:n=l.length:=by have:=h.1;rw[flatKeys_length] at this;omega
 subst hn
 obtain⟨ao,cap,rfl,hc⟩:=ownsRow_at h
 refine⟨ao,cap,rfl,fun i p hp=> ?_⟩
 obtain⟨f1,f2,f3,f4⟩:=flatKeys_at l i p hp
 obtain⟨b,h1,hb,h2⟩:=hc _ _ f1
 obtain⟨b',h1',_,h2'⟩:=hc _ _ f2
 obtain⟨b'',h1'',_,h2''⟩:=hc _ _ f3
 obtain⟨b3,h13,_,h23⟩:=hc _ _ f4
 rw[h1] at h1' h1'' h13;cases h1';cases h1'';cases h13
 exact⟨b,h1,h2,h2',h2'',h23⟩
theorem KeysIn.below {w w' :World} {ao:Option Addr} {l:List KeyP} (h:KeysIn w ao l) (hb:Below w.heap.size w w'):KeysIn w' ao l:=fun j p hp=>by
 obtain⟨b,h1,h2,h3,h4,h5⟩:=h j p hp
 have hl:=World.block_lt_of_cell? w _ h2
 exact⟨b,h1,below_cell hb hl h2,below_cell hb hl h3,below_cell hb hl h4,below_cell hb hl h5⟩
def TextsIn (w:World) (ao:Option Addr) (l:List ByteArray):Prop:= ∀j x,l[j]? =some x-> ∃b,ao=some ⟨b,0,none⟩/\w.cell? ⟨b,j,none⟩=some (.string x)
theorem ownsRow_textsIn {w:World} {base n:Nat} {v:Value} {l:List ByteArray} {e:TypeId} (h:w.ownsRow base e 1 v n (l.map Value.string)): ∃ao cap,v= .slice ao l.length cap/\TextsIn w ao l:=by
 have hn:n=l.length:=by have:=h.1;simp at this;omega
 subst hn
 obtain⟨ao,cap,rfl,hc⟩:=ownsRow_at h
 refine⟨ao,cap,rfl,fun i x hx=> ?_⟩
 obtain⟨b,h1,_,h2⟩:=hc i (.string x) (by rw[List.getElem?_map,hx];rfl)
 exact⟨b,h1,h2⟩
end Go.Proofs.YtpgkjnebklknjaaGreatDoor
