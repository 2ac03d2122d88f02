/-The reference past,walked:Ever,what is wrong with what is asked. -/
import Derived.Test.YtpgkjnebklknjaaGreatDoorPwEJr
import Derived.Test.YtpgkjnebklknjaaGreatDoorPsAJr
import Derived.Test.YtpgkjnebklknjaaGreatDoorFcKJr
import Derived.Test.YtpgkjnebklknjaaGreatDoorRowJr
import Derived.Test.YtpgkjnebklknjaaGreatDoorFcEJr
import Derived.Test.YtpgkjnebklknjaaGreatDoorTreeHJr
import Derived.Test.YtpgkjnebklknjaaGreatDoorPwMJr
namespace Go.Proofs.YtpgkjnebklknjaaGreatDoor
open Go
section
variable {hist:List (List OpP)} {k:KeyP} {n:Nat} {E:List Int} {j:Nat} {D:List Pc} {fr:Int} {last:ByteArray}
end
end Go.Proofs.YtpgkjnebklknjaaGreatDoor
namespace Go.Proofs.YtpgkjnebklknjaaGreatDoor
open Go.RowKit Go.Deep Go.Shelf Go.Sort Go.Maps
def askR (N:Nat) (known a:Int):Int:=if a<0\/(N:Int)<a then 2 else if a<known then 7 else 0
section
variable {F:Nat->Prop} {rb:Nat} {hist:List (List OpP)} {known:Int}
end
end Go.Proofs.YtpgkjnebklknjaaGreatDoor
namespace Go.Proofs.YtpgkjnebklknjaaGreatDoor
open Go.RowKit Go.Deep Go.Shelf Go.Sort Go.Maps
section
variable {F:Nat->Prop} {rb:Nat} {hist:List (List OpP)} {known:Int}
end
end Go.Proofs.YtpgkjnebklknjaaGreatDoor
namespace Go.Proofs.YtpgkjnebklknjaaGreatDoor
open Go.RowKit Go.Deep Go.Shelf Go.Sort Go.Maps
def valR (hist:List (List OpP)) (known:Int) (k:KeyP) (a t:Int):ByteArray×Int:=if askR hist.length known a≠0 then (⟨#[]⟩,askR hist.length known a) else if keyB k && timeB t then (saidH hist k a.toNat t,0) else (⟨#[]⟩,1)
theorem askR_0 {N:Nat} {known a:Int} (h:askR N known a=0):0<=a/\a<=N/\known<=a:=by
 unfold askR at h
 split at h
 · cases h
 · split at h
   · cases h
   · omega
section
variable {F:Nat->Prop} {rb:Nat} {hist:List (List OpP)} {known:Int}
end
end Go.Proofs.YtpgkjnebklknjaaGreatDoor
namespace Go.Proofs.YtpgkjnebklknjaaGreatDoor
open Go.RowKit Go.Deep Go.Shelf Go.Sort Go.Maps
def forR (N:Nat) (known a:Int):Int:=if a<0\/(N:Int)<a then 2 else if a<known then 10 else 0
section
variable {F:Nat->Prop} {rb:Nat} {hist:List (List OpP)} {known:Int}
end
end Go.Proofs.YtpgkjnebklknjaaGreatDoor
namespace Go.Proofs.YtpgkjnebklknjaaGreatDoor
open Go.RowKit Go.Deep Go.Shelf Go.Sort Go.Maps
def pieRE (hist:List (List OpP)) (known:Int) (k:KeyP) (a:Int):Int:=if askR hist.length known a≠0 then askR hist.length known a else if keyB k then 0 else 1
section
variable {F:Nat->Prop} {rb:Nat} {hist:List (List OpP)} {known:Int}
end
end Go.Proofs.YtpgkjnebklknjaaGreatDoor
namespace Go.Proofs.YtpgkjnebklknjaaGreatDoor
open Go.RowKit Go.Deep Go.Shelf Go.Sort Go.Maps
def everRE (hist:List (List OpP)) (known:Int) (k:KeyP) (a b f t:Int):Int:=
 if askR hist.length known a≠0 then askR hist.length known a else if askR hist.length known b≠0 then askR hist.length known b else if b<a then 10 else if keyB k && rightB f t then 0 else 1
theorem new_blk (W:World) (cs:Array Value) (ty:TypeId) (n:Nat) (hn:W.heap.size=n):(W.alloc (.cells cs ty)).heap[n]? =some (.cells cs ty (0,0)):=by
 subst hn;exact block_alloc_new W _
section
variable {F:Nat->Prop} {rb:Nat} {hist:List (List OpP)} {known:Int}
end
end Go.Proofs.YtpgkjnebklknjaaGreatDoor
