/-Slices of numbers,of spans,of slices of spans,as lists;what a call has built of its own,as the next one reads it. -/
import Derived.Deep.QuietTactic
import Derived.BigQuiet
import Derived.Shelf.Abstract
import Derived.Shelf.RegionOpen
import Derived.Sort.OwnSortedInts
import Derived.Test.YtpgkjnebklknjaaGreatDoorKitJr
namespace Go.Proofs.YtpgkjnebklknjaaGreatDoor
open Go.RowKit
def rightB (f t:Int):Bool:=decide (-1099511627776<=f/\t<=1099511627776/\f<t)
theorem ret_bool {a b:Bool} (h:a=b):Ending.returned (.bool a)= .returned (.bool b):=by rw[h]
theorem right_any (f t:Int) (w:World):
  Calls Tryz.prog 187 #[.agg #[.int .i64 f,.int .i64 t]] w fun e w' =>e= .returned (.bool (rightB f t))/\Below w.heap.size w w' :=by
 by_cases h1: -1099511627776<=f
 · by_cases h2:t<=1099511627776
   · by_cases h3:f<t
     · go_enter Tryz.func187,Tryz.ntmps187
       go_wp2
       go_ret
       exact⟨ret_bool (decide_eq_true (by omega)).symm,(Below.refl _ _).alloc (Nat.le_refl _) _⟩
     · go_enter Tryz.func187,Tryz.ntmps187
       go_wp2
       go_ret
       exact⟨ret_bool (decide_eq_false (by omega)).symm,(Below.refl _ _).alloc (Nat.le_refl _) _⟩
   · go_enter Tryz.func187,Tryz.ntmps187
     go_wp2
     go_ret
     exact⟨ret_bool (decide_eq_false (by omega)).symm,(Below.refl _ _).alloc (Nat.le_refl _) _⟩
 · go_enter Tryz.func187,Tryz.ntmps187
   go_wp2
   go_ret
   exact⟨ret_bool (decide_eq_false (by omega)).symm,(Below.refl _ _).alloc (Nat.le_refl _) _⟩
theorem meet_yes (a b c d:Int) (w:World) (h:imax a c<imin b d):
  Calls Tryz.prog 278 #[.agg #[.int .i64 a,.int .i64 b],.agg #[.int .i64 c,.int .i64 d]] w fun e w' =>
   e= .returned (.tuple #[.agg #[.int .i64 (imax a c),.int .i64 (imin b d)],.bool true])/\Below w.heap.size w w' :=by
 have HB: ∀o1 o2 o3 o4,Below w.heap.size w ((((w.alloc o1).alloc o2).alloc o3).alloc o4):=fun o1 o2 o3 o4=>
  ((((Below.refl _ _).alloc (Nat.le_refl _) _).alloc (by simp) _).alloc (by simp;omega) _).alloc (by simp;omega) _
 go_enter Tryz.func278,Tryz.ntmps278
 go_wp2
 exact bodyPost_ret (v:= .tuple #[.agg #[.int .i64 (imax a c),.int .i64 (imin b d)],.bool true]) (by simp[results,Tryz.results278,go_sem]) rfl ⟨rfl,HB _ _ _ _⟩
theorem meet_no (a b c d:Int) (w:World) (h:imin b d<=imax a c):
  Calls Tryz.prog 278 #[.agg #[.int .i64 a,.int .i64 b],.agg #[.int .i64 c,.int .i64 d]] w fun e w' =>
   e= .returned (.tuple #[.agg #[.int .i64 0,.int .i64 0],.bool false])/\Below w.heap.size w w' :=by
 have HB: ∀o1 o2 o3 o4,Below w.heap.size w ((((w.alloc o1).alloc o2).alloc o3).alloc o4):=fun o1 o2 o3 o4=>
  ((((Below.refl _ _).alloc (Nat.le_refl _) _).alloc (by simp) _).alloc (by simp;omega) _).alloc (by simp;omega) _
 go_enter Tryz.func278,Tryz.ntmps278
 go_wp2
 exact bodyPost_ret (v:= .tuple #[.agg #[.int .i64 0,.int .i64 0],.bool false]) (by simp[results,Tryz.results278,go_sem]) rfl ⟨rfl,HB _ _ _ _⟩
section
variable (w:World) (a b c d:Int)
end
end Go.Proofs.YtpgkjnebklknjaaGreatDoor
namespace Go.Proofs.YtpgkjnebklknjaaGreatDoor
open Go.RowKit Go.Shelf
def intsAt (w:World) (ao:Option Addr) (l:List Int):Prop:=
 ∀i x,l[i]? =some x-> ∃b o,ao=some ⟨b,o,none⟩/\w.cell? ⟨b,o+i,none⟩=some (.int .i64 x)
theorem intsAt_get {w:World} {ao:Option Addr} {l:List Int} (h:intsAt w ao l) {k:Nat} (hk:k<l.length):
  ∃b o x,Hid (l[k]? =some x)/\ao=some ⟨b,o,none⟩/\w.cell? ⟨b,o+k,none⟩=some (.int .i64 x):=by
 obtain⟨b,o,h1,h2⟩:=h k l[k] (by simp[hk])
 exact⟨b,o,l[k],(by show l[k]? =_;simp[hk]),h1,h2⟩
def flat (l:List (Int×Int)):List Value:=l.flatMap fun p=> [.int .i64 p.1,.int .i64 p.2]
theorem flat_length (l:List (Int×Int)):(flat l).length=l.length*2:=by
 induction l with
 | nil=>rfl
 | cons a l ih=>simp only[flat,List.flatMap_cons,List.length_append,List.length_cons,List.length_nil] at ih ⊢;omega
theorem flat_append (l m:List (Int×Int)):flat (l++m)=flat l++flat m:=by simp[flat]
theorem infoSpan:(Tryz.prog.info? 107).map (fun i=>(i.zero,i.size,i.bytes))=some (some (.agg #[.int .i64 0,.int .i64 0]),2,16):=by kernel_rfl
theorem appSpan {W:World} {ops:Array Oper} {rest:List Oper} {o:Oper} {a:Act} {Q:Exit->Act->World->Prop} (hgd:o.guard=none) (s x:Operand)
  (ho:o.op= .call { callee:= .builtin .append,args:= #[s,x],argTypes:= #[207,207] }) (base:Nat) (v:Value) (l:List (Int×Int)) (hs:a.eval s=v) (hown:W.ownsRow base 107 2 v l.length (flat l))
  (b:Nat) (f t:Int) (hx:a.eval x= .slice (some ⟨b,0,none⟩) 1 1) (hc1:W.cell? ⟨b,0,none⟩=some (.int .i64 f)) (hc2:W.cell? ⟨b,1,none⟩=some (.int .i64 t))
  (hbytes:(l.length+1)*16<=140737488355328) (hbase:base<=W.heap.size) (w0:World) (hB:Below base w0 W)
  (h: ∀v' w',w'.ownsRow base 107 2 v' (l++ [(f,t)]).length (flat (l++ [(f,t)]))->Below base w0 w' ->W.heap.size<=w'.heap.size->W.grownBy w' v.ownBlock->wpList Tryz.prog ops Q rest (a.put o.dst v') w'):wpList Tryz.prog ops Q (o::rest) a W:=by
 refine app1 hgd s x _ ho base 107 Tryz.underlying207 infoSpan rfl (by decide) (by decide) v l.length (flat l) hs hown b [.int .i64 f,.int .i64 t] hx rfl (fun u hu=> ?_) (fun j u hu=> ?_) hbytes hbase w0 hB fun v' w' h2 h3 h4 h5 h6=>h v' w' ?_ h3 h4 h6
 · simp at hu;rcases hu with rfl|rfl<;>rfl
 · match j,hu with
   | 0,hu=>simp at hu;subst hu;exact hc1
   | 1,hu=>simp at hu;subst hu;exact hc2
 · rw[flat_append,List.length_append];exact h2
open Go.RowKit Go.Shelf Go.Sort
theorem infoInt:(Tryz.prog.info? 3).map (fun i=>(i.zero,i.size,i.bytes))=some (some (.int .i64 0),1,8):=by kernel_rfl
theorem intsAt.below {w w' :World} {ao:Option Addr} {l:List Int} (h:intsAt w ao l) (hb:Below w.heap.size w w'):intsAt w' ao l:=
 fun i x hi=>let ⟨b,o,h1,h2⟩:=h i x hi
  have hl:=World.block_lt_of_cell? w _ h2
  ⟨b,o,h1,(hb.cell (p:=⟨b,_,none⟩) hl).trans h2⟩
theorem ownsRow_slice {w:World} {base:Nat} {e:TypeId} {size:Nat} {v:Value} {n:Nat} {xs:List Value} (h:w.ownsRow base e size v n xs):
  ∃ao cap,v= .slice ao n cap/\(ao=none->cap=0)/\ ∀j u,xs[j]? =some u-> ∃b,ao=some ⟨b,0,none⟩/\w.cell? ⟨b,j,none⟩=some u:=by
 have h0:=h
 rcases h.2 with ⟨rfl,hn⟩|⟨g,cap,cur,rfl,hbg,hh,hnc,hcm,hcs,htk⟩
 · subst hn
   have hx:xs= []:=List.eq_nil_of_length_eq_zero (by simpa using h.1)
   subst hx
   exact⟨none,0,rfl,fun _=>rfl,fun j u hu=>by simp at hu⟩
 · refine⟨some ⟨g,0,none⟩,cap,rfl,(fun h=>by cases h),fun j u hu=>⟨g,rfl,?_⟩⟩
   have hj:j<n*size:=by
    rw[<-h.1];exact(List.getElem?_eq_some_iff.1 hu).1
   rw[h0.cellAt j hj,hu]
theorem flat_get (l:List (Int×Int)) (i:Nat) (x y:Int) (h:l[i]? =some (x,y)):(flat l)[i*2]? =some (.int .i64 x)/\(flat l)[i*2+1]? =some (.int .i64 y):=by
 induction l generalizing i with
 | nil=>simp at h
 | cons p l ih=>
   cases i with
   | zero=>simp at h;subst h;simp[flat]
   | succ i=>
     have:=ih i (by simpa using h)
     have e1:(i+1)*2=i*2+1+1:=by omega
     rw[e1]
     simpa [flat] using this
theorem sortI_length (l:List Int):(sortI l).length=l.length:=by simp[sortI]
end Go.Proofs.YtpgkjnebklknjaaGreatDoor
