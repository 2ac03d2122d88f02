/-errors.As where the target is an Errno:closed facts on the model's entries for package internal/reflectlite at this program's types. errors.As where the target is an Errno:an Errno;an At of an Errno. What an error tells:api.Tell,plain.Place,the law's own 'is' and 'bare'. -/
import Derived.LaidEql
import Derived.Stop.Asserts
import Derived.RowKitTokens
import Derived.Deep.QuietTactic
import Derived.Test.YtpgkjnebklknjaaGreatDoorKitJr
namespace Go.Proofs.YtpgkjnebklknjaaGreatDoor
open Go.RowKit Go.Extern.Stop Go.Stop Go.Extern
theorem RL.valueOfP (t:Addr) (w:World):(ReflectliteValue.unpack (.iface 180 (.pointer (some t)))).run Tryz.prog w
  = .ok (.agg #[.pointer (some ⟨10,180,none⟩),.pointer (some ⟨w.heap.size,0,none⟩),.int .u64 150]) (w.alloc (.cells #[.pointer (some t)] 180)):=by kernel_rfl
theorem RL.typeP (a : Addr) (w : World) : (ReflectliteValue.methodAny (ReflectliteValue.valueError "reflectlite.Value.Type" 0) (fun t _ _ _ => ReflectliteType.toType t) #[.agg #[.pointer (some ⟨10, 180, none⟩), .pointer (some a), .int .u64 150]]).run Tryz.prog w
  = .ok (.iface 269 (.agg #[.pointer (some ⟨10,180,none⟩)])) w:=by kernel_rfl
theorem RL.methodKind (h : Value) (w : World) : (Go.method 518 269 (.agg #[h]) "Kind").run Tryz.prog w = .ok (357, h) w := by kernel_rfl
theorem RL.kindP (w:World):((ReflectliteType.abiMethod fun t=>(fun a:Nat=>Value.int IntKind.u8 (a:Int))<$>Rtype.kind t) #[.pointer (some ⟨10,180,none⟩)]).run Tryz.prog w= .ok (.int .u8 22) w:=by kernel_rfl
theorem RL.kindE (w:World):((ReflectliteType.abiMethod fun t=>(fun a:Nat=>Value.int IntKind.u8 (a:Int))<$>Rtype.kind t) #[.pointer (some ⟨10,56,none⟩)]).run Tryz.prog w= .ok (.int .u8 2) w:=by kernel_rfl
theorem RL.rlm (z:Sem Value) (f:TypeId->Addr->Nat->Nat->Sem Value) (v:Value):
  ReflectliteValue.method z f #[v]=(do match←ReflectliteValue.parts v with|none=>z|some (t,a,fl)=>f t a fl (fl % 32)):=rfl
theorem RL.partsP (a:Addr) (w:World):(ReflectliteValue.parts (.agg #[.pointer (some ⟨10,180,none⟩),.pointer (some a),.int .u64 150])).run Tryz.prog w= .ok (some (180,a,150)) w:=by kernel_rfl
theorem RL.isNilP (a p:Addr) (W:World) (ha:W.cell? a=some (.pointer (some p))):
  (ReflectliteValue.method (ReflectliteValue.valueError "reflectlite.Value.IsNil" 0) ReflectliteValue.isNil #[.agg #[.pointer (some ⟨10, 180, none⟩), .pointer (some a), .int .u64 150]]).run Tryz.prog W = .ok (.bool false) W := by
 rw[RL.rlm]
 simp only[Sem.run_bind,RL.partsP,Result.andThen]
 simp[ReflectliteValue.isNil,loadVar,isAgg,underlying,Tryz.underlying180,ha,Result.andThen]
theorem RL.methodElem (h : Value) (w : World) : (Go.method 518 269 (.agg #[h]) "Elem").run Tryz.prog w = .ok (372, .agg #[h]) w := by kernel_rfl
theorem RL.methodImplements (h : Value) (w : World) : (Go.method 518 269 (.agg #[h]) "Implements").run Tryz.prog w = .ok (373, .agg #[h]) w := by kernel_rfl
theorem RL.methodAssignableTo (h : Value) (w : World) : (Go.method 518 269 (.agg #[h]) "AssignableTo").run Tryz.prog w = .ok (370, .agg #[h]) w := by kernel_rfl
theorem RL.elemP (w:World):(ReflectliteType.method ReflectliteType.elem #[.agg #[.pointer (some ⟨10,180,none⟩)]]).run Tryz.prog w= .ok (.iface 269 (.agg #[.pointer (some ⟨10,56,none⟩)])) w:=by kernel_rfl
theorem RL.implementsE (w : World) : (ReflectliteType.relation "Implements" ReflectliteType.implements_ #[.agg #[.pointer (some ⟨10, 56, none⟩)], .iface 269 (.agg #[.pointer (some ⟨10, 41, none⟩)])]).run Tryz.prog w = .ok (.bool true) w := by kernel_rfl
theorem RL.typeOfE (v:Value) (w:World):(ReflectliteType.typeOf #[.iface 56 v]).run Tryz.prog w= .ok (.iface 269 (.agg #[.pointer (some ⟨10,56,none⟩)])) w:=by kernel_rfl
theorem RL.typeOfA (v:Value) (w:World):(ReflectliteType.typeOf #[.iface 288 v]).run Tryz.prog w= .ok (.iface 269 (.agg #[.pointer (some ⟨10,288,none⟩)])) w:=by kernel_rfl
theorem RL.assignableE (w : World) : (ReflectliteType.relation "AssignableTo" ReflectliteType.assignableTo #[.agg #[.pointer (some ⟨10, 56, none⟩)], .iface 269 (.agg #[.pointer (some ⟨10, 56, none⟩)])]).run Tryz.prog w = .ok (.bool true) w := by kernel_rfl
theorem RL.assignableA (w : World) : (ReflectliteType.relation "AssignableTo" ReflectliteType.assignableTo #[.agg #[.pointer (some ⟨10, 288, none⟩)], .iface 269 (.agg #[.pointer (some ⟨10, 56, none⟩)])]).run Tryz.prog w = .ok (.bool false) w := by kernel_rfl
theorem RL.valueOfE (n:Int) (w:World):(ReflectliteValue.unpack (.iface 56 (.int .i64 n))).run Tryz.prog w
  = .ok (.agg #[.pointer (some ⟨10,56,none⟩),.pointer (some ⟨w.heap.size,0,none⟩),.int .u64 130]) (w.alloc (.cells #[.int .i64 n] 56)):=by kernel_rfl
theorem RL.elemOfP (w:World):(Rtype.elem? 180).run Tryz.prog w= .ok (some 56) w:=by kernel_rfl
theorem RL.mkE (p:Addr) (w:World):(ReflectliteValue.mk 56 p ReflectliteValue.flagAddr).run Tryz.prog w= .ok (.agg #[.pointer (some ⟨10,56,none⟩),.pointer (some p),.int .u64 386]) w:=by kernel_rfl
theorem RL.elemVP (a p:Addr) (W:World) (ha:W.cell? a=some (.pointer (some p))):
  (ReflectliteValue.method (ReflectliteValue.valueError "reflectlite.Value.Elem" 0) ReflectliteValue.elem #[.agg #[.pointer (some ⟨10, 180, none⟩), .pointer (some a), .int .u64 150]]).run Tryz.prog W
   = .ok (.agg #[.pointer (some ⟨10,56,none⟩),.pointer (some p),.int .u64 386]) W:=by
 rw[RL.rlm]
 simp only[Sem.run_bind,RL.partsP,Result.andThen]
 simp[ReflectliteValue.elem,loadVar,isAgg,underlying,Tryz.underlying180,ha,Result.andThen,RL.elemOfP,RL.mkE]
theorem RL.rls (v x:Value):ReflectliteValue.set #[v,x]=(do
  let (some (dst,a,fl),some (src,b,_)):=(←ReflectliteValue.parts v, <-ReflectliteValue.parts x)
   | unsupported (.noEntry "extern/(internal/reflectlite.Value).Set.zeroValue")
  if fl / ReflectliteValue.flagAddr % 2 == 0 then unsupported (.noEntry "extern/(internal/reflectlite.Value).Set.unaddressable")
  let val←loadVar src b
  if←Rtype.directlyAssignable dst src then storeVar dst a val
  else if←Rtype.implements dst src then
   if (←Rtype.kind src)==20 then
    match val with
    | .nilIface => unsupported (.noEntry "extern/reflectlite: a nil value of one interface type handed on as a value of another")
    | _=>storeVar dst a val
   else storeVar dst a (.iface src val)
  else panicString ("reflectlite.Set: value of type " ++ (← Rtype.spelt src) ++ " is not assignable to type " ++ (← Rtype.spelt dst))
  pure (.tuple #[])):=rfl
theorem RL.partsEa (a:Addr) (w:World):(ReflectliteValue.parts (.agg #[.pointer (some ⟨10,56,none⟩),.pointer (some a),.int .u64 386])).run Tryz.prog w= .ok (some (56,a,386)) w:=by kernel_rfl
theorem RL.partsE (a:Addr) (w:World):(ReflectliteValue.parts (.agg #[.pointer (some ⟨10,56,none⟩),.pointer (some a),.int .u64 130])).run Tryz.prog w= .ok (some (56,a,130)) w:=by kernel_rfl
theorem RL.directE (w:World):(Rtype.directlyAssignable 56 56).run Tryz.prog w= .ok true w:=by kernel_rfl
theorem RL.setE (ta b:Addr) (n:Int) (old:Value) (W:World) (hb:W.cell? b=some (.int .i64 n)) (ht:W.cell? ta=some old) (hf:W.frozen? ta=false):
  (ReflectliteValue.set #[.agg #[.pointer (some ⟨10,56,none⟩),.pointer (some ta),.int .u64 386],.agg #[.pointer (some ⟨10,56,none⟩),.pointer (some b),.int .u64 130]]).run Tryz.prog W
   = .ok (.tuple #[]) (W.setCell ta (.int .i64 n)):=by
 rw[RL.rls]
 simp only[Sem.run_bind,RL.partsEa,RL.partsE,Result.andThen]
 simp[ReflectliteValue.flagAddr,loadVar,isAgg,underlying,Tryz.underlying56,hb,Result.andThen,RL.directE,storeVar,Value.cells,storeCells,Addr.add]
 rw[run_store Tryz.prog W ta _ _ (by rfl)]
 simp[ht,hf]
theorem RL.noAsA (v:Value) (xT:TypeId) (w:World):(Instr.typeAssert (.iface 288 v) xT 297 true).run Tryz.prog w= .ok (.tuple #[.nilIface,.bool false]) w:=run_typeAssert_lacksB Tryz.underlying297 (by kernel_rfl) (by kernel_rfl) v xT w
theorem RL.unwrapA (v:Value) (xT:TypeId) (w:World):(Instr.typeAssert (.iface 288 v) xT 300 true).run Tryz.prog w= .ok (.tuple #[.iface 288 v,.bool true]) w:=run_typeAssert_hasB Tryz.underlying300 (by kernel_rfl) v xT w
theorem RL.methodUnwrap (b : Nat) (w : World) : (Go.method 518 288 (.pointer (some ⟨b, 0, none⟩)) "Unwrap").run Tryz.prog w = .ok (381, .pointer (some ⟨b, 0, none⟩)) w := by kernel_rfl
theorem cell_lt {w:World} {a:Addr} {v:Value} (h:w.cell? a=some v):a.block<w.heap.size:=by
 rcases Nat.lt_or_ge a.block w.heap.size with h1|h1
 · exact h1
 · simp[World.cell?,Array.getElem?_eq_none h1] at h
def ErrVar (w:World):Prop:=w.cell? ⟨1,0,none⟩=some (.iface 269 (.agg #[.pointer (some ⟨10,41,none⟩)]))
theorem ErrVar.pos {w:World} (h:ErrVar w):1<w.heap.size:=cell_lt h
theorem ErrVar.below {w w' :World} (h:ErrVar w) (hb:Below w.heap.size w w'):ErrVar w' :=below_cell hb h.pos h
set_option maxHeartbeats 4000000 in
theorem as_errno (n:Int) (t:Addr) (old:Value) (w:World) (hg0:ErrVar w) (ht0:w.cell? t=some old) (hf0:w.frozen? t=false):
  Calls Tryz.prog 115 #[.iface 56 (.int .i64 n),.iface 180 (.pointer (some t))] w fun ev w' =>ev= .returned (.bool true)/\w'.cell? t=some (.int .i64 n)/\Below t.block w w' :=by
 have hg:=hg0
 unfold ErrVar at hg
 have h6:= @run_callFunc_extern Tryz.prog 152 _ (fun args=>ReflectliteValue.unpack (args.getD 0 (.tuple #[]))) Tryz.func152 (by kernel_rfl) (by kernel_rfl) (by kernel_rfl) (by kernel_rfl)
 have h7 := @run_callFunc_extern Tryz.prog 165 _ (ReflectliteValue.methodAny (ReflectliteValue.valueError "reflectlite.Value.Type" 0) (fun t _ _ _ => ReflectliteType.toType t)) Tryz.func165 (by kernel_rfl) (by kernel_rfl) (by kernel_rfl) (by kernel_rfl)
 have h8 := @run_callFunc_extern Tryz.prog 166 _ (ReflectliteValue.method (ReflectliteValue.valueError "reflectlite.Value.IsNil" 0) ReflectliteValue.isNil) Tryz.func166 (by kernel_rfl) (by kernel_rfl) (by kernel_rfl) (by kernel_rfl)
 have h27:= @run_callFunc_extern Tryz.prog 357 _ (ReflectliteType.abiMethod fun t=>do pure (.int .u8 (←Rtype.kind t))) Tryz.func357 (by kernel_rfl) (by kernel_rfl) (by kernel_rfl) (by kernel_rfl)
 have h37:= @run_callFunc_extern Tryz.prog 372 _ (ReflectliteType.method ReflectliteType.elem) Tryz.func372 (by kernel_rfl) (by kernel_rfl) (by kernel_rfl) (by kernel_rfl)
 have h38 := @run_callFunc_extern Tryz.prog 373 _ (ReflectliteType.relation "Implements" ReflectliteType.implements_) Tryz.func373 (by kernel_rfl) (by kernel_rfl) (by kernel_rfl) (by kernel_rfl)
 have h10:= @run_callFunc_extern Tryz.prog 230 _ ReflectliteType.typeOf Tryz.func230 (by kernel_rfl) (by kernel_rfl) (by kernel_rfl) (by kernel_rfl)
 have h35 := @run_callFunc_extern Tryz.prog 370 _ (ReflectliteType.relation "AssignableTo" ReflectliteType.assignableTo) Tryz.func370 (by kernel_rfl) (by kernel_rfl) (by kernel_rfl) (by kernel_rfl)
 have h11 := @run_callFunc_extern Tryz.prog 231 _ (ReflectliteValue.method (ReflectliteValue.valueError "reflectlite.Value.Elem" 0) ReflectliteValue.elem) Tryz.func231 (by kernel_rfl) (by kernel_rfl) (by kernel_rfl) (by kernel_rfl)
 have h12:= @run_callFunc_extern Tryz.prog 232 _ ReflectliteValue.set Tryz.func232 (by kernel_rfl) (by kernel_rfl) (by kernel_rfl) (by kernel_rfl)
 have tO:=RL.typeOfE
 have mA:=RL.methodAssignableTo
 have aE:=RL.assignableE
 have vE:=RL.valueOfE
 have f6:=RL.valueOfP
 have f7:=RL.typeP
 have mK:=RL.methodKind
 have mE:=RL.methodElem
 have mI:=RL.methodImplements
 have kP:=RL.kindP
 have kE:=RL.kindE
 have eP:=RL.elemP
 have iE:=RL.implementsE
 have n8:=RL.isNilP ⟨w.heap.size,0,none⟩ t ((w.alloc (.cells #[.pointer (some t)] 180)).alloc (.cells #[.pointer (some ⟨10,180,none⟩),.pointer (some ⟨w.heap.size,0,none⟩),.int .u64 150] 211)) (by simp)
 have hlt:=hg0.pos
 have hg2:((w.alloc (.cells #[.pointer (some t)] 180)).alloc (.cells #[.pointer (some ⟨10,180,none⟩),.pointer (some ⟨w.heap.size,0,none⟩),.int .u64 150] 211)).cell? ⟨1,0,none⟩=some (.iface 269 (.agg #[.pointer (some ⟨10,41,none⟩)])):=by
  rw[World.cell?_alloc_lt _ _ ⟨1,0,none⟩ (by rw[World.size_alloc];exact Nat.lt_succ_of_lt hlt),World.cell?_alloc_lt _ _ ⟨1,0,none⟩ hlt];exact hg
 have htl:t.block<w.heap.size:=cell_lt ht0
 have el:=RL.elemVP ⟨w.heap.size,0,none⟩ t (((w.alloc (.cells #[.pointer (some t)] 180)).alloc (.cells #[.pointer (some ⟨10,180,none⟩),.pointer (some ⟨w.heap.size,0,none⟩),.int .u64 150] 211)).alloc (.cells #[.pointer (some ⟨10,180,none⟩),.pointer (some ⟨w.heap.size,0,none⟩),.int .u64 150] 211)) (by rw[World.cell?_alloc_lt _ _ ⟨w.heap.size,0,none⟩ (by simp;omega)];simp)
 have st:=RL.setE t ⟨w.heap.size+1+1+1,0,none⟩ n old ((((w.alloc (.cells #[.pointer (some t)] 180)).alloc (.cells #[.pointer (some ⟨10,180,none⟩),.pointer (some ⟨w.heap.size,0,none⟩),.int .u64 150] 211)).alloc (.cells #[.pointer (some ⟨10,180,none⟩),.pointer (some ⟨w.heap.size,0,none⟩),.int .u64 150] 211)).alloc (.cells #[.int .i64 n] 56))
  (by rw[World.cell?_alloc_at _ _ _ _ (by simp)];rfl)
  (by rw[World.cell?_alloc_lt _ _ t (by simp;omega),World.cell?_alloc_lt _ _ t (by simp;omega),World.cell?_alloc_lt _ _ t (by simp;omega),World.cell?_alloc_lt _ _ t htl];exact ht0)
  (by rw[World.frozen?_alloc_old _ _ t (by simp;omega),World.frozen?_alloc_old _ _ t (by simp;omega),World.frozen?_alloc_old _ _ t (by simp;omega),World.frozen?_alloc_old _ _ t (Nat.ne_of_lt htl)];exact hf0)
 go_enter Tryz.func115,Tryz.ntmps115
 go_wp2
 refine wp_loop_rounds 1 ?_
 rw[rounds_succ]
 go_wp2
 go_ret
 refine⟨rfl,?_,?_⟩
 · rw [World.cell?_setCell_same (u:=old)]
   rw[World.cell?_alloc_lt _ _ t (by simp;omega),World.cell?_alloc_lt _ _ t (by simp;omega),World.cell?_alloc_lt _ _ t (by simp;omega),World.cell?_alloc_lt _ _ t htl];exact ht0
 · refine Below.setCell ?_ (Nat.le_refl _) _
   refine(((((Below.refl _ _).alloc (by omega) _).alloc (by simp;omega) _).alloc (by simp;omega) _).alloc (by simp;omega) _)
set_option maxRecDepth 20000 in
set_option maxHeartbeats 4000000 in
theorem as_at (n:Int) (b:Nat) (t:Addr) (old:Value) (w:World) (hg0:ErrVar w) (ht0:w.cell? t=some old) (hf0:w.frozen? t=false) (hp:w.cell? ⟨b,0,none⟩=some (.int .i64 n)):
  Calls Tryz.prog 115 #[.iface 288 (.pointer (some ⟨b,0,none⟩)),.iface 180 (.pointer (some t))] w fun ev w' =>ev= .returned (.bool true)/\w'.cell? t=some (.int .i64 n)/\Below t.block w w' :=by
 have hg:=hg0
 unfold ErrVar at hg
 have h6:= @run_callFunc_extern Tryz.prog 152 _ (fun args=>ReflectliteValue.unpack (args.getD 0 (.tuple #[]))) Tryz.func152 (by kernel_rfl) (by kernel_rfl) (by kernel_rfl) (by kernel_rfl)
 have h7 := @run_callFunc_extern Tryz.prog 165 _ (ReflectliteValue.methodAny (ReflectliteValue.valueError "reflectlite.Value.Type" 0) (fun t _ _ _ => ReflectliteType.toType t)) Tryz.func165 (by kernel_rfl) (by kernel_rfl) (by kernel_rfl) (by kernel_rfl)
 have h8 := @run_callFunc_extern Tryz.prog 166 _ (ReflectliteValue.method (ReflectliteValue.valueError "reflectlite.Value.IsNil" 0) ReflectliteValue.isNil) Tryz.func166 (by kernel_rfl) (by kernel_rfl) (by kernel_rfl) (by kernel_rfl)
 have h27:= @run_callFunc_extern Tryz.prog 357 _ (ReflectliteType.abiMethod fun t=>do pure (.int .u8 (←Rtype.kind t))) Tryz.func357 (by kernel_rfl) (by kernel_rfl) (by kernel_rfl) (by kernel_rfl)
 have h37:= @run_callFunc_extern Tryz.prog 372 _ (ReflectliteType.method ReflectliteType.elem) Tryz.func372 (by kernel_rfl) (by kernel_rfl) (by kernel_rfl) (by kernel_rfl)
 have h38 := @run_callFunc_extern Tryz.prog 373 _ (ReflectliteType.relation "Implements" ReflectliteType.implements_) Tryz.func373 (by kernel_rfl) (by kernel_rfl) (by kernel_rfl) (by kernel_rfl)
 have h10:= @run_callFunc_extern Tryz.prog 230 _ ReflectliteType.typeOf Tryz.func230 (by kernel_rfl) (by kernel_rfl) (by kernel_rfl) (by kernel_rfl)
 have h35 := @run_callFunc_extern Tryz.prog 370 _ (ReflectliteType.relation "AssignableTo" ReflectliteType.assignableTo) Tryz.func370 (by kernel_rfl) (by kernel_rfl) (by kernel_rfl) (by kernel_rfl)
 have h11 := @run_callFunc_extern Tryz.prog 231 _ (ReflectliteValue.method (ReflectliteValue.valueError "reflectlite.Value.Elem" 0) ReflectliteValue.elem) Tryz.func231 (by kernel_rfl) (by kernel_rfl) (by kernel_rfl) (by kernel_rfl)
 have h12:= @run_callFunc_extern Tryz.prog 232 _ ReflectliteValue.set Tryz.func232 (by kernel_rfl) (by kernel_rfl) (by kernel_rfl) (by kernel_rfl)
 have tO:=RL.typeOfE
 have mA:=RL.methodAssignableTo
 have aE:=RL.assignableE
 have vE:=RL.valueOfE
 have f6:=RL.valueOfP
 have f7:=RL.typeP
 have mK:=RL.methodKind
 have mE:=RL.methodElem
 have mI:=RL.methodImplements
 have kP:=RL.kindP
 have kE:=RL.kindE
 have eP:=RL.elemP
 have iE:=RL.implementsE
 have n8:=RL.isNilP ⟨w.heap.size,0,none⟩ t ((w.alloc (.cells #[.pointer (some t)] 180)).alloc (.cells #[.pointer (some ⟨10,180,none⟩),.pointer (some ⟨w.heap.size,0,none⟩),.int .u64 150] 211)) (by simp)
 have hlt:=hg0.pos
 have hg2:((w.alloc (.cells #[.pointer (some t)] 180)).alloc (.cells #[.pointer (some ⟨10,180,none⟩),.pointer (some ⟨w.heap.size,0,none⟩),.int .u64 150] 211)).cell? ⟨1,0,none⟩=some (.iface 269 (.agg #[.pointer (some ⟨10,41,none⟩)])):=by
  rw[World.cell?_alloc_lt _ _ ⟨1,0,none⟩ (by rw[World.size_alloc];exact Nat.lt_succ_of_lt hlt),World.cell?_alloc_lt _ _ ⟨1,0,none⟩ hlt];exact hg
 have tA:=RL.typeOfA
 have aA:=RL.assignableA
 have nA:=RL.noAsA
 have uA:=RL.unwrapA
 have mU:=RL.methodUnwrap
 have hbl:b<w.heap.size:=cell_lt hp
 have hp3:(((w.alloc (.cells #[.pointer (some t)] 180)).alloc (.cells #[.pointer (some ⟨10,180,none⟩),.pointer (some ⟨w.heap.size,0,none⟩),.int .u64 150] 211)).alloc (.cells #[.pointer (some ⟨10,180,none⟩),.pointer (some ⟨w.heap.size,0,none⟩),.int .u64 150] 211)).cell? ⟨b,0,none⟩=some (.int .i64 n):=by
  rw[World.cell?_alloc_lt _ _ ⟨b,0,none⟩ (by simp;omega),World.cell?_alloc_lt _ _ ⟨b,0,none⟩ (by simp;omega),World.cell?_alloc_lt _ _ ⟨b,0,none⟩ hbl];exact hp
 have htl:t.block<w.heap.size:=cell_lt ht0
 have el:=RL.elemVP ⟨w.heap.size,0,none⟩ t (((w.alloc (.cells #[.pointer (some t)] 180)).alloc (.cells #[.pointer (some ⟨10,180,none⟩),.pointer (some ⟨w.heap.size,0,none⟩),.int .u64 150] 211)).alloc (.cells #[.pointer (some ⟨10,180,none⟩),.pointer (some ⟨w.heap.size,0,none⟩),.int .u64 150] 211)) (by rw[World.cell?_alloc_lt _ _ ⟨w.heap.size,0,none⟩ (by simp;omega)];simp)
 have st:=RL.setE t ⟨w.heap.size+1+1+1,0,none⟩ n old ((((w.alloc (.cells #[.pointer (some t)] 180)).alloc (.cells #[.pointer (some ⟨10,180,none⟩),.pointer (some ⟨w.heap.size,0,none⟩),.int .u64 150] 211)).alloc (.cells #[.pointer (some ⟨10,180,none⟩),.pointer (some ⟨w.heap.size,0,none⟩),.int .u64 150] 211)).alloc (.cells #[.int .i64 n] 56))
  (by rw[World.cell?_alloc_at _ _ _ _ (by simp)];rfl)
  (by rw[World.cell?_alloc_lt _ _ t (by simp;omega),World.cell?_alloc_lt _ _ t (by simp;omega),World.cell?_alloc_lt _ _ t (by simp;omega),World.cell?_alloc_lt _ _ t htl];exact ht0)
  (by rw[World.frozen?_alloc_old _ _ t (by simp;omega),World.frozen?_alloc_old _ _ t (by simp;omega),World.frozen?_alloc_old _ _ t (by simp;omega),World.frozen?_alloc_old _ _ t (Nat.ne_of_lt htl)];exact hf0)
 go_enter Tryz.func115,Tryz.ntmps115
 go_wp2
 refine wp_loop_rounds 2 ?_
 rw[rounds_succ]
 go_wp2
 rw[rounds_succ]
 go_wp2
 go_ret
 refine⟨rfl,?_,?_⟩
 · rw [World.cell?_setCell_same (u:=old)]
   rw[World.cell?_alloc_lt _ _ t (by simp;omega),World.cell?_alloc_lt _ _ t (by simp;omega),World.cell?_alloc_lt _ _ t (by simp;omega),World.cell?_alloc_lt _ _ t htl];exact ht0
 · refine Below.setCell ?_ (Nat.le_refl _) _
   refine(((((Below.refl _ _).alloc (by omega) _).alloc (by simp;omega) _).alloc (by simp;omega) _).alloc (by simp;omega) _)
def ErrIs (w:World) (v:Value) (n p:Int):Prop:=
 (v= .nilIface/\n=0/\p= -1)\/(v= .iface 56 (.int .i64 n)/\p= -1)∨
 ∃b,v= .iface 288 (.pointer (some ⟨b,0,none⟩))/\w.cell? ⟨b,0,none⟩=some (.int .i64 n)/\w.cell? ⟨b,1,none⟩=some (.int .i64 p)
theorem tell_any (v:Value) (n p:Int) (w:World) (hg:ErrVar w) (h:ErrIs w v n p):
  Calls Tryz.prog 54 #[v] w fun e w' =>e= .returned (.int .i64 n)/\Below w.heap.size w w' :=by
 have b1:Below w.heap.size w (w.alloc (.cells #[.int .i64 0] 56)):=(Below.refl _ w).alloc (Nat.le_refl _) _
 have hg1:=Lib.hid (hg.below b1)
 have ht:(w.alloc (.cells #[.int .i64 0] 56)).cell? ⟨w.heap.size,0,none⟩=some (.int .i64 0):=by simp
 have hf:(w.alloc (.cells #[.int .i64 0] 56)).frozen? ⟨w.heap.size,0,none⟩=false:=by simp
 rcases h with ⟨rfl,rfl,rfl⟩|⟨rfl,rfl⟩|⟨b,rfl,h0,h1⟩
 · go_enter Tryz.func54,Tryz.ntmps54
   go_wp2_with fail
   go_ret
   exact⟨rfl,Below.refl _ _⟩
 · go_enter Tryz.func54,Tryz.ntmps54
   go_wp2_with (go_at_call 115;refine(as_errno n ⟨w.heap.size,0,none⟩ (.int .i64 0) _ hg1.out ht hf).mono ?_;rintro e w' ⟨rfl,hc,hb⟩)
   go_ret
   exact⟨rfl,b1.trans hb⟩
 · have h2:=(Below.cell b1 (p:=⟨b,0,none⟩) (cell_lt h0)).trans h0
   go_enter Tryz.func54,Tryz.ntmps54
   go_wp2_with (go_at_call 115;refine(as_at n b ⟨w.heap.size,0,none⟩ (.int .i64 0) _ hg1.out ht hf h2).mono ?_;rintro e w' ⟨rfl,hc,hb⟩)
   go_ret
   exact⟨rfl,b1.trans hb⟩
end Go.Proofs.YtpgkjnebklknjaaGreatDoor
