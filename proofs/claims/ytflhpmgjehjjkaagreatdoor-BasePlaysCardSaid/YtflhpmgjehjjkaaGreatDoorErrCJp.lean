/- errors.As where the target is an Errno: closed facts on the model's entries for package internal/reflectlite at this program's types. errors.As where the target is an Errno: an Errno; an At of an Errno. What an error tells: api.Tell, plain.Place, the law's own 'is' and 'bare'. -/
import Derived.LaidEql
import Derived.Stop.Asserts
import Derived.RowKitTokens
import Derived.Deep.QuietTactic
import Derived.Test.YtflhpmgjehjjkaaGreatDoorKitJp
namespace Go.Proofs.YtflhpmgjehjjkaaGreatDoor
open Go.RowKit Go.Extern.Stop Go.Stop Go.Extern
theorem RL.valueOfP (t : Addr) (w : World) : (ReflectliteValue.unpack (.iface 135 (.pointer (some t)))).run Tryz.prog w
  = .ok (.agg #[.pointer (some ⟨9, 135, none⟩), .pointer (some ⟨w.heap.size, 0, none⟩), .int .u64 150]) (w.alloc (.cells #[.pointer (some t)] 135)) := by kernel_rfl
theorem RL.typeP (a : Addr) (w : World) : (ReflectliteValue.methodAny (ReflectliteValue.valueError "reflectlite.Value.Type" 0) (fun t _ _ _ => ReflectliteType.toType t) #[.agg #[.pointer (some ⟨9, 135, none⟩), .pointer (some a), .int .u64 150]]).run Tryz.prog w
  = .ok (.iface 262 (.agg #[.pointer (some ⟨9, 135, none⟩)])) w := by kernel_rfl
theorem RL.methodKind (h : Value) (w : World) : (Go.method 518 262 (.agg #[h]) "Kind").run Tryz.prog w = .ok (326, h) w := by kernel_rfl
theorem RL.kindP (w : World) : ((ReflectliteType.abiMethod fun t => (fun a : Nat => Value.int IntKind.u8 (a : Int)) <$> Rtype.kind t) #[.pointer (some ⟨9, 135, none⟩)]).run Tryz.prog w = .ok (.int .u8 22) w := by kernel_rfl
theorem RL.kindE (w : World) : ((ReflectliteType.abiMethod fun t => (fun a : Nat => Value.int IntKind.u8 (a : Int)) <$> Rtype.kind t) #[.pointer (some ⟨9, 52, none⟩)]).run Tryz.prog w = .ok (.int .u8 2) w := by kernel_rfl
theorem RL.rlm (z : Sem Value) (f : TypeId -> Addr -> Nat -> Nat -> Sem Value) (v : Value) :
  ReflectliteValue.method z f #[v] = (do match ← ReflectliteValue.parts v with | none => z | some (t, a, fl) => f t a fl (fl % 32)) := rfl
theorem RL.partsP (a : Addr) (w : World) : (ReflectliteValue.parts (.agg #[.pointer (some ⟨9, 135, none⟩), .pointer (some a), .int .u64 150])).run Tryz.prog w = .ok (some (135, a, 150)) w := by kernel_rfl
theorem RL.isNilP (a p : Addr) (W : World) (ha : W.cell? a = some (.pointer (some p))) :
  (ReflectliteValue.method (ReflectliteValue.valueError "reflectlite.Value.IsNil" 0) ReflectliteValue.isNil #[.agg #[.pointer (some ⟨9, 135, none⟩), .pointer (some a), .int .u64 150]]).run Tryz.prog W = .ok (.bool false) W := by
 rw [RL.rlm]
 simp only [Sem.run_bind, RL.partsP, Result.andThen]
 simp [ReflectliteValue.isNil, loadVar, isAgg, underlying, Tryz.underlying135, ha, Result.andThen]
theorem RL.methodElem (h : Value) (w : World) : (Go.method 518 262 (.agg #[h]) "Elem").run Tryz.prog w = .ok (340, .agg #[h]) w := by kernel_rfl
theorem RL.methodImplements (h : Value) (w : World) : (Go.method 518 262 (.agg #[h]) "Implements").run Tryz.prog w = .ok (341, .agg #[h]) w := by kernel_rfl
theorem RL.methodAssignableTo (h : Value) (w : World) : (Go.method 518 262 (.agg #[h]) "AssignableTo").run Tryz.prog w = .ok (338, .agg #[h]) w := by kernel_rfl
theorem RL.elemP (w : World) : (ReflectliteType.method ReflectliteType.elem #[.agg #[.pointer (some ⟨9, 135, none⟩)]]).run Tryz.prog w = .ok (.iface 262 (.agg #[.pointer (some ⟨9, 52, none⟩)])) w := by kernel_rfl
theorem RL.implementsE (w : World) : (ReflectliteType.relation "Implements" ReflectliteType.implements_ #[.agg #[.pointer (some ⟨9, 52, none⟩)], .iface 262 (.agg #[.pointer (some ⟨9, 31, none⟩)])]).run Tryz.prog w = .ok (.bool true) w := by kernel_rfl
theorem RL.typeOfE (v : Value) (w : World) : (ReflectliteType.typeOf #[.iface 52 v]).run Tryz.prog w = .ok (.iface 262 (.agg #[.pointer (some ⟨9, 52, none⟩)])) w := by kernel_rfl
theorem RL.typeOfA (v : Value) (w : World) : (ReflectliteType.typeOf #[.iface 172 v]).run Tryz.prog w = .ok (.iface 262 (.agg #[.pointer (some ⟨9, 172, none⟩)])) w := by kernel_rfl
theorem RL.assignableE (w : World) : (ReflectliteType.relation "AssignableTo" ReflectliteType.assignableTo #[.agg #[.pointer (some ⟨9, 52, none⟩)], .iface 262 (.agg #[.pointer (some ⟨9, 52, none⟩)])]).run Tryz.prog w = .ok (.bool true) w := by kernel_rfl
theorem RL.assignableA (w : World) : (ReflectliteType.relation "AssignableTo" ReflectliteType.assignableTo #[.agg #[.pointer (some ⟨9, 172, none⟩)], .iface 262 (.agg #[.pointer (some ⟨9, 52, none⟩)])]).run Tryz.prog w = .ok (.bool false) w := by kernel_rfl
theorem RL.valueOfE (n : Int) (w : World) : (ReflectliteValue.unpack (.iface 52 (.int .i64 n))).run Tryz.prog w
  = .ok (.agg #[.pointer (some ⟨9, 52, none⟩), .pointer (some ⟨w.heap.size, 0, none⟩), .int .u64 130]) (w.alloc (.cells #[.int .i64 n] 52)) := by kernel_rfl
theorem RL.elemOfP (w : World) : (Rtype.elem? 135).run Tryz.prog w = .ok (some 52) w := by kernel_rfl
theorem RL.mkE (p : Addr) (w : World) : (ReflectliteValue.mk 52 p ReflectliteValue.flagAddr).run Tryz.prog w = .ok (.agg #[.pointer (some ⟨9, 52, none⟩), .pointer (some p), .int .u64 386]) w := by kernel_rfl
theorem RL.elemVP (a p : Addr) (W : World) (ha : W.cell? a = some (.pointer (some p))) :
  (ReflectliteValue.method (ReflectliteValue.valueError "reflectlite.Value.Elem" 0) ReflectliteValue.elem #[.agg #[.pointer (some ⟨9, 135, none⟩), .pointer (some a), .int .u64 150]]).run Tryz.prog W
   = .ok (.agg #[.pointer (some ⟨9, 52, none⟩), .pointer (some p), .int .u64 386]) W := by
 rw [RL.rlm]
 simp only [Sem.run_bind, RL.partsP, Result.andThen]
 simp [ReflectliteValue.elem, loadVar, isAgg, underlying, Tryz.underlying135, ha, Result.andThen, RL.elemOfP, RL.mkE]
theorem RL.rls (v x : Value) : ReflectliteValue.set #[v, x] = (do
  let (some (dst, a, fl), some (src, b, _)) := (← ReflectliteValue.parts v, <- ReflectliteValue.parts x)
   | unsupported (.noEntry "extern/(internal/reflectlite.Value).Set.zeroValue")
  if fl / ReflectliteValue.flagAddr % 2 == 0 then unsupported (.noEntry "extern/(internal/reflectlite.Value).Set.unaddressable")
  let val ← loadVar src b
  if ← Rtype.directlyAssignable dst src then storeVar dst a val
  else if ← Rtype.implements dst src then
   if (← Rtype.kind src) == 20 then
    match val with
    | .nilIface => unsupported (.noEntry "extern/reflectlite: a nil value of one interface type handed on as a value of another")
    | _ => storeVar dst a val
   else storeVar dst a (.iface src val)
  else panicString ("reflectlite.Set: value of type " ++ (← Rtype.spelt src) ++ " is not assignable to type " ++ (← Rtype.spelt dst))
  pure (.tuple #[])) := rfl
theorem RL.partsEa (a : Addr) (w : World) : (ReflectliteValue.parts (.agg #[.pointer (some ⟨9, 52, none⟩), .pointer (some a), .int .u64 386])).run Tryz.prog w = .ok (some (52, a, 386)) w := by kernel_rfl
theorem RL.partsE (a : Addr) (w : World) : (ReflectliteValue.parts (.agg #[.pointer (some ⟨9, 52, none⟩), .pointer (some a), .int .u64 130])).run Tryz.prog w = .ok (some (52, a, 130)) w := by kernel_rfl
theorem RL.directE (w : World) : (Rtype.directlyAssignable 52 52).run Tryz.prog w = .ok true w := by kernel_rfl
theorem RL.setE (ta b : Addr) (n : Int) (old : Value) (W : World) (hb : W.cell? b = some (.int .i64 n)) (ht : W.cell? ta = some old) (hf : W.frozen? ta = false) :
  (ReflectliteValue.set #[.agg #[.pointer (some ⟨9, 52, none⟩), .pointer (some ta), .int .u64 386], .agg #[.pointer (some ⟨9, 52, none⟩), .pointer (some b), .int .u64 130]]).run Tryz.prog W
   = .ok (.tuple #[]) (W.setCell ta (.int .i64 n)) := by
 rw [RL.rls]
 simp only [Sem.run_bind, RL.partsEa, RL.partsE, Result.andThen]
 simp [ReflectliteValue.flagAddr, loadVar, isAgg, underlying, Tryz.underlying52, hb, Result.andThen, RL.directE, storeVar, Value.cells, storeCells, Addr.add]
 rw [run_store Tryz.prog W ta _ _ (by rfl)]
 simp [ht, hf]
theorem RL.noAsA (v : Value) (xT : TypeId) (w : World) : (Instr.typeAssert (.iface 172 v) xT 267 true).run Tryz.prog w = .ok (.tuple #[.nilIface, .bool false]) w := run_typeAssert_lacksB Tryz.underlying267 (by kernel_rfl) (by kernel_rfl) v xT w
theorem RL.unwrapA (v : Value) (xT : TypeId) (w : World) : (Instr.typeAssert (.iface 172 v) xT 204 true).run Tryz.prog w = .ok (.tuple #[.iface 172 v, .bool true]) w := run_typeAssert_hasB Tryz.underlying204 (by kernel_rfl) v xT w
theorem RL.noUnwrapE (v : Value) (xT : TypeId) (w : World) : (Instr.typeAssert (.iface 52 v) xT 204 true).run Tryz.prog w = .ok (.tuple #[.nilIface, .bool false]) w := run_typeAssert_lacksB Tryz.underlying204 (by kernel_rfl) (by kernel_rfl) v xT w
theorem RL.methodUnwrap (b : Nat) (w : World) : (Go.method 518 172 (.pointer (some ⟨b, 0, none⟩)) "Unwrap").run Tryz.prog w = .ok (331, .pointer (some ⟨b, 0, none⟩)) w := by kernel_rfl
theorem cell_lt {w : World} {a : Addr} {v : Value} (h : w.cell? a = some v) : a.block < w.heap.size := by
 rcases Nat.lt_or_ge a.block w.heap.size with h1 | h1
 · exact h1
 · simp [World.cell?, Array.getElem?_eq_none h1] at h
def ErrVar (w : World) : Prop := w.cell? ⟨0, 0, none⟩ = some (.iface 262 (.agg #[.pointer (some ⟨9, 31, none⟩)]))
theorem ErrVar.pos {w : World} (h : ErrVar w) : 0 < w.heap.size := cell_lt h
theorem ErrVar.below {w w' : World} (h : ErrVar w) (hb : Below w.heap.size w w') : ErrVar w' := below_cell hb h.pos h
set_option maxHeartbeats 4000000 in
theorem as_errno (n : Int) (t : Addr) (old : Value) (w : World) (hg0 : ErrVar w) (ht0 : w.cell? t = some old) (hf0 : w.frozen? t = false) :
  Calls Tryz.prog 57 #[.iface 52 (.int .i64 n), .iface 135 (.pointer (some t))] w fun ev w' => ev = .returned (.bool true) /\ w'.cell? t = some (.int .i64 n) /\ Below t.block w w' := by
 have hg := hg0
 unfold ErrVar at hg
 have h6 := @run_callFunc_extern Tryz.prog 106 _ (fun args => ReflectliteValue.unpack (args.getD 0 (.tuple #[]))) Tryz.func106 (by kernel_rfl) (by kernel_rfl) (by kernel_rfl) (by kernel_rfl)
 have h7 := @run_callFunc_extern Tryz.prog 107 _ (ReflectliteValue.methodAny (ReflectliteValue.valueError "reflectlite.Value.Type" 0) (fun t _ _ _ => ReflectliteType.toType t)) Tryz.func107 (by kernel_rfl) (by kernel_rfl) (by kernel_rfl) (by kernel_rfl)
 have h8 := @run_callFunc_extern Tryz.prog 108 _ (ReflectliteValue.method (ReflectliteValue.valueError "reflectlite.Value.IsNil" 0) ReflectliteValue.isNil) Tryz.func108 (by kernel_rfl) (by kernel_rfl) (by kernel_rfl) (by kernel_rfl)
 have h27 := @run_callFunc_extern Tryz.prog 326 _ (ReflectliteType.abiMethod fun t => do pure (.int .u8 (← Rtype.kind t))) Tryz.func326 (by kernel_rfl) (by kernel_rfl) (by kernel_rfl) (by kernel_rfl)
 have h37 := @run_callFunc_extern Tryz.prog 340 _ (ReflectliteType.method ReflectliteType.elem) Tryz.func340 (by kernel_rfl) (by kernel_rfl) (by kernel_rfl) (by kernel_rfl)
 have h38 := @run_callFunc_extern Tryz.prog 341 _ (ReflectliteType.relation "Implements" ReflectliteType.implements_) Tryz.func341 (by kernel_rfl) (by kernel_rfl) (by kernel_rfl) (by kernel_rfl)
 have h10 := @run_callFunc_extern Tryz.prog 158 _ ReflectliteType.typeOf Tryz.func158 (by kernel_rfl) (by kernel_rfl) (by kernel_rfl) (by kernel_rfl)
 have h35 := @run_callFunc_extern Tryz.prog 338 _ (ReflectliteType.relation "AssignableTo" ReflectliteType.assignableTo) Tryz.func338 (by kernel_rfl) (by kernel_rfl) (by kernel_rfl) (by kernel_rfl)
 have h11 := @run_callFunc_extern Tryz.prog 159 _ (ReflectliteValue.method (ReflectliteValue.valueError "reflectlite.Value.Elem" 0) ReflectliteValue.elem) Tryz.func159 (by kernel_rfl) (by kernel_rfl) (by kernel_rfl) (by kernel_rfl)
 have h12 := @run_callFunc_extern Tryz.prog 160 _ ReflectliteValue.set Tryz.func160 (by kernel_rfl) (by kernel_rfl) (by kernel_rfl) (by kernel_rfl)
 have tO := RL.typeOfE
 have mA := RL.methodAssignableTo
 have aE := RL.assignableE
 have vE := RL.valueOfE
 have f6 := RL.valueOfP
 have f7 := RL.typeP
 have mK := RL.methodKind
 have mE := RL.methodElem
 have mI := RL.methodImplements
 have kP := RL.kindP
 have kE := RL.kindE
 have eP := RL.elemP
 have iE := RL.implementsE
 have n8 := RL.isNilP ⟨w.heap.size, 0, none⟩ t ((w.alloc (.cells #[.pointer (some t)] 135)).alloc (.cells #[.pointer (some ⟨9, 135, none⟩), .pointer (some ⟨w.heap.size, 0, none⟩), .int .u64 150] 194)) (by simp)
 have hlt := hg0.pos
 have hg2 : ((w.alloc (.cells #[.pointer (some t)] 135)).alloc (.cells #[.pointer (some ⟨9, 135, none⟩), .pointer (some ⟨w.heap.size, 0, none⟩), .int .u64 150] 194)).cell? ⟨0, 0, none⟩ = some (.iface 262 (.agg #[.pointer (some ⟨9, 31, none⟩)])) := by
  rw [World.cell?_alloc_lt _ _ ⟨0, 0, none⟩ (by rw [World.size_alloc]; exact Nat.lt_succ_of_lt hlt), World.cell?_alloc_lt _ _ ⟨0, 0, none⟩ hlt]; exact hg
 have htl : t.block < w.heap.size := cell_lt ht0
 have el := RL.elemVP ⟨w.heap.size, 0, none⟩ t (((w.alloc (.cells #[.pointer (some t)] 135)).alloc (.cells #[.pointer (some ⟨9, 135, none⟩), .pointer (some ⟨w.heap.size, 0, none⟩), .int .u64 150] 194)).alloc (.cells #[.pointer (some ⟨9, 135, none⟩), .pointer (some ⟨w.heap.size, 0, none⟩), .int .u64 150] 194)) (by rw [World.cell?_alloc_lt _ _ ⟨w.heap.size, 0, none⟩ (by simp; omega)]; simp)
 have st := RL.setE t ⟨w.heap.size + 1 + 1 + 1, 0, none⟩ n old ((((w.alloc (.cells #[.pointer (some t)] 135)).alloc (.cells #[.pointer (some ⟨9, 135, none⟩), .pointer (some ⟨w.heap.size, 0, none⟩), .int .u64 150] 194)).alloc (.cells #[.pointer (some ⟨9, 135, none⟩), .pointer (some ⟨w.heap.size, 0, none⟩), .int .u64 150] 194)).alloc (.cells #[.int .i64 n] 52))
  (by rw [World.cell?_alloc_at _ _ _ _ (by simp)]; rfl)
  (by rw [World.cell?_alloc_lt _ _ t (by simp; omega), World.cell?_alloc_lt _ _ t (by simp; omega), World.cell?_alloc_lt _ _ t (by simp; omega), World.cell?_alloc_lt _ _ t htl]; exact ht0)
  (by rw [World.frozen?_alloc_old _ _ t (by simp; omega), World.frozen?_alloc_old _ _ t (by simp; omega), World.frozen?_alloc_old _ _ t (by simp; omega), World.frozen?_alloc_old _ _ t (Nat.ne_of_lt htl)]; exact hf0)
 go_enter Tryz.func57, Tryz.ntmps57
 go_wp2
 refine wp_loop_rounds 1 ?_
 rw [rounds_succ]
 go_wp2
 go_ret
 refine ⟨rfl, ?_, ?_⟩
 · rw [World.cell?_setCell_same (u := old)]
   rw [World.cell?_alloc_lt _ _ t (by simp; omega), World.cell?_alloc_lt _ _ t (by simp; omega), World.cell?_alloc_lt _ _ t (by simp; omega), World.cell?_alloc_lt _ _ t htl]; exact ht0
 · refine Below.setCell ?_ (Nat.le_refl _) _
   refine (((((Below.refl _ _).alloc (by omega) _).alloc (by simp; omega) _).alloc (by simp; omega) _).alloc (by simp; omega) _)
set_option maxRecDepth 20000 in
set_option maxHeartbeats 4000000 in
theorem as_at (n : Int) (b : Nat) (t : Addr) (old : Value) (w : World) (hg0 : ErrVar w) (ht0 : w.cell? t = some old) (hf0 : w.frozen? t = false) (hp : w.cell? ⟨b, 0, none⟩ = some (.int .i64 n)) :
  Calls Tryz.prog 57 #[.iface 172 (.pointer (some ⟨b, 0, none⟩)), .iface 135 (.pointer (some t))] w fun ev w' => ev = .returned (.bool true) /\ w'.cell? t = some (.int .i64 n) /\ Below t.block w w' := by
 have hg := hg0
 unfold ErrVar at hg
 have h6 := @run_callFunc_extern Tryz.prog 106 _ (fun args => ReflectliteValue.unpack (args.getD 0 (.tuple #[]))) Tryz.func106 (by kernel_rfl) (by kernel_rfl) (by kernel_rfl) (by kernel_rfl)
 have h7 := @run_callFunc_extern Tryz.prog 107 _ (ReflectliteValue.methodAny (ReflectliteValue.valueError "reflectlite.Value.Type" 0) (fun t _ _ _ => ReflectliteType.toType t)) Tryz.func107 (by kernel_rfl) (by kernel_rfl) (by kernel_rfl) (by kernel_rfl)
 have h8 := @run_callFunc_extern Tryz.prog 108 _ (ReflectliteValue.method (ReflectliteValue.valueError "reflectlite.Value.IsNil" 0) ReflectliteValue.isNil) Tryz.func108 (by kernel_rfl) (by kernel_rfl) (by kernel_rfl) (by kernel_rfl)
 have h27 := @run_callFunc_extern Tryz.prog 326 _ (ReflectliteType.abiMethod fun t => do pure (.int .u8 (← Rtype.kind t))) Tryz.func326 (by kernel_rfl) (by kernel_rfl) (by kernel_rfl) (by kernel_rfl)
 have h37 := @run_callFunc_extern Tryz.prog 340 _ (ReflectliteType.method ReflectliteType.elem) Tryz.func340 (by kernel_rfl) (by kernel_rfl) (by kernel_rfl) (by kernel_rfl)
 have h38 := @run_callFunc_extern Tryz.prog 341 _ (ReflectliteType.relation "Implements" ReflectliteType.implements_) Tryz.func341 (by kernel_rfl) (by kernel_rfl) (by kernel_rfl) (by kernel_rfl)
 have h10 := @run_callFunc_extern Tryz.prog 158 _ ReflectliteType.typeOf Tryz.func158 (by kernel_rfl) (by kernel_rfl) (by kernel_rfl) (by kernel_rfl)
 have h35 := @run_callFunc_extern Tryz.prog 338 _ (ReflectliteType.relation "AssignableTo" ReflectliteType.assignableTo) Tryz.func338 (by kernel_rfl) (by kernel_rfl) (by kernel_rfl) (by kernel_rfl)
 have h11 := @run_callFunc_extern Tryz.prog 159 _ (ReflectliteValue.method (ReflectliteValue.valueError "reflectlite.Value.Elem" 0) ReflectliteValue.elem) Tryz.func159 (by kernel_rfl) (by kernel_rfl) (by kernel_rfl) (by kernel_rfl)
 have h12 := @run_callFunc_extern Tryz.prog 160 _ ReflectliteValue.set Tryz.func160 (by kernel_rfl) (by kernel_rfl) (by kernel_rfl) (by kernel_rfl)
 have tO := RL.typeOfE
 have mA := RL.methodAssignableTo
 have aE := RL.assignableE
 have vE := RL.valueOfE
 have f6 := RL.valueOfP
 have f7 := RL.typeP
 have mK := RL.methodKind
 have mE := RL.methodElem
 have mI := RL.methodImplements
 have kP := RL.kindP
 have kE := RL.kindE
 have eP := RL.elemP
 have iE := RL.implementsE
 have n8 := RL.isNilP ⟨w.heap.size, 0, none⟩ t ((w.alloc (.cells #[.pointer (some t)] 135)).alloc (.cells #[.pointer (some ⟨9, 135, none⟩), .pointer (some ⟨w.heap.size, 0, none⟩), .int .u64 150] 194)) (by simp)
 have hlt := hg0.pos
 have hg2 : ((w.alloc (.cells #[.pointer (some t)] 135)).alloc (.cells #[.pointer (some ⟨9, 135, none⟩), .pointer (some ⟨w.heap.size, 0, none⟩), .int .u64 150] 194)).cell? ⟨0, 0, none⟩ = some (.iface 262 (.agg #[.pointer (some ⟨9, 31, none⟩)])) := by
  rw [World.cell?_alloc_lt _ _ ⟨0, 0, none⟩ (by rw [World.size_alloc]; exact Nat.lt_succ_of_lt hlt), World.cell?_alloc_lt _ _ ⟨0, 0, none⟩ hlt]; exact hg
 have tA := RL.typeOfA
 have aA := RL.assignableA
 have nA := RL.noAsA
 have uA := RL.unwrapA
 have mU := RL.methodUnwrap
 have hbl : b < w.heap.size := cell_lt hp
 have hp3 : (((w.alloc (.cells #[.pointer (some t)] 135)).alloc (.cells #[.pointer (some ⟨9, 135, none⟩), .pointer (some ⟨w.heap.size, 0, none⟩), .int .u64 150] 194)).alloc (.cells #[.pointer (some ⟨9, 135, none⟩), .pointer (some ⟨w.heap.size, 0, none⟩), .int .u64 150] 194)).cell? ⟨b, 0, none⟩ = some (.int .i64 n) := by
  rw [World.cell?_alloc_lt _ _ ⟨b, 0, none⟩ (by simp; omega), World.cell?_alloc_lt _ _ ⟨b, 0, none⟩ (by simp; omega), World.cell?_alloc_lt _ _ ⟨b, 0, none⟩ hbl]; exact hp
 have htl : t.block < w.heap.size := cell_lt ht0
 have el := RL.elemVP ⟨w.heap.size, 0, none⟩ t (((w.alloc (.cells #[.pointer (some t)] 135)).alloc (.cells #[.pointer (some ⟨9, 135, none⟩), .pointer (some ⟨w.heap.size, 0, none⟩), .int .u64 150] 194)).alloc (.cells #[.pointer (some ⟨9, 135, none⟩), .pointer (some ⟨w.heap.size, 0, none⟩), .int .u64 150] 194)) (by rw [World.cell?_alloc_lt _ _ ⟨w.heap.size, 0, none⟩ (by simp; omega)]; simp)
 have st := RL.setE t ⟨w.heap.size + 1 + 1 + 1, 0, none⟩ n old ((((w.alloc (.cells #[.pointer (some t)] 135)).alloc (.cells #[.pointer (some ⟨9, 135, none⟩), .pointer (some ⟨w.heap.size, 0, none⟩), .int .u64 150] 194)).alloc (.cells #[.pointer (some ⟨9, 135, none⟩), .pointer (some ⟨w.heap.size, 0, none⟩), .int .u64 150] 194)).alloc (.cells #[.int .i64 n] 52))
  (by rw [World.cell?_alloc_at _ _ _ _ (by simp)]; rfl)
  (by rw [World.cell?_alloc_lt _ _ t (by simp; omega), World.cell?_alloc_lt _ _ t (by simp; omega), World.cell?_alloc_lt _ _ t (by simp; omega), World.cell?_alloc_lt _ _ t htl]; exact ht0)
  (by rw [World.frozen?_alloc_old _ _ t (by simp; omega), World.frozen?_alloc_old _ _ t (by simp; omega), World.frozen?_alloc_old _ _ t (by simp; omega), World.frozen?_alloc_old _ _ t (Nat.ne_of_lt htl)]; exact hf0)
 go_enter Tryz.func57, Tryz.ntmps57
 go_wp2
 refine wp_loop_rounds 2 ?_
 rw [rounds_succ]
 go_wp2
 rw [rounds_succ]
 go_wp2
 go_ret
 refine ⟨rfl, ?_, ?_⟩
 · rw [World.cell?_setCell_same (u := old)]
   rw [World.cell?_alloc_lt _ _ t (by simp; omega), World.cell?_alloc_lt _ _ t (by simp; omega), World.cell?_alloc_lt _ _ t (by simp; omega), World.cell?_alloc_lt _ _ t htl]; exact ht0
 · refine Below.setCell ?_ (Nat.le_refl _) _
   refine (((((Below.refl _ _).alloc (by omega) _).alloc (by simp; omega) _).alloc (by simp; omega) _).alloc (by simp; omega) _)
def ErrIs (w : World) (v : Value) (n p : Int) : Prop :=
 (v = .nilIface /\ n = 0 /\ p = -1) \/ (v = .iface 52 (.int .i64 n) /\ p = -1) ∨
 ∃ b, v = .iface 172 (.pointer (some ⟨b, 0, none⟩)) /\ w.cell? ⟨b, 0, none⟩ = some (.int .i64 n) /\ w.cell? ⟨b, 1, none⟩ = some (.int .i64 p)
theorem ErrIs.below {w w' : World} {v : Value} {n p : Int} (h : ErrIs w v n p) (hb : Below w.heap.size w w') : ErrIs w' v n p := by
 rcases h with h | h | ⟨b, h1, h2, h3⟩
 · exact Or.inl h
 · exact Or.inr (Or.inl h)
 · exact Or.inr (Or.inr ⟨b, h1, below_cell hb (cell_lt h2) h2, below_cell hb (cell_lt h3) h3⟩)
theorem tell_any (v : Value) (n p : Int) (w : World) (hg : ErrVar w) (h : ErrIs w v n p) :
  Calls Tryz.prog 18 #[v] w fun e w' => e = .returned (.int .i64 n) /\ Below w.heap.size w w' := by
 have b1 : Below w.heap.size w (w.alloc (.cells #[.int .i64 0] 52)) := (Below.refl _ w).alloc (Nat.le_refl _) _
 have hg1 := Lib.hid (hg.below b1)
 have ht : (w.alloc (.cells #[.int .i64 0] 52)).cell? ⟨w.heap.size, 0, none⟩ = some (.int .i64 0) := by simp
 have hf : (w.alloc (.cells #[.int .i64 0] 52)).frozen? ⟨w.heap.size, 0, none⟩ = false := by simp
 rcases h with ⟨rfl, rfl, rfl⟩ | ⟨rfl, rfl⟩ | ⟨b, rfl, h0, h1⟩
 · go_enter Tryz.func18, Tryz.ntmps18
   go_wp2_with fail
   go_ret
   exact ⟨rfl, Below.refl _ _⟩
 · go_enter Tryz.func18, Tryz.ntmps18
   go_wp2_with (go_at_call 57; refine (as_errno n ⟨w.heap.size, 0, none⟩ (.int .i64 0) _ hg1.out ht hf).mono ?_; rintro e w' ⟨rfl, hc, hb⟩)
   go_ret
   exact ⟨rfl, b1.trans hb⟩
 · have h2 := (Below.cell b1 (p := ⟨b, 0, none⟩) (cell_lt h0)).trans h0
   go_enter Tryz.func18, Tryz.ntmps18
   go_wp2_with (go_at_call 57; refine (as_at n b ⟨w.heap.size, 0, none⟩ (.int .i64 0) _ hg1.out ht hf h2).mono ?_; rintro e w' ⟨rfl, hc, hb⟩)
   go_ret
   exact ⟨rfl, b1.trans hb⟩
theorem RL.isAtE (v : Value) (xT : TypeId) (w : World) : (Instr.typeAssert (.iface 52 v) xT 172 true).run Tryz.prog w = .ok (.tuple #[.pointer none, .bool false]) w := by kernel_rfl
theorem RL.isAtA (v : Value) (xT : TypeId) (w : World) : (Instr.typeAssert (.iface 172 v) xT 172 true).run Tryz.prog w = .ok (.tuple #[v, .bool true]) w := by kernel_rfl
set_option maxRecDepth 20000 in
theorem place_any (v : Value) (n p : Int) (w : World) (hg : ErrVar w) (h : ErrIs w v n p) :
  Calls Tryz.prog 58 #[v] w fun e w' => e = .returned (.tuple #[.int .i64 n, .int .i64 p]) /\ Below w.heap.size w w' := by
 have hT := tell_any v n p w hg h
 have nE := RL.noUnwrapE
 have nF := RL.isAtE
 have nG := RL.isAtA
 rcases h with ⟨rfl, rfl, rfl⟩ | ⟨rfl, rfl⟩ | ⟨b, rfl, h0, h1⟩
 · go_enter Tryz.func58, Tryz.ntmps58
   go_wp2_with (go_at_call 18; refine hT.mono ?_; rintro e w1 ⟨rfl, hb⟩)
   refine wp_loop_rounds 1 ?_
   rw [rounds_succ]
   go_wp2_with fail
   go_ret2
   exact ⟨rfl, hb⟩
 · go_enter Tryz.func58, Tryz.ntmps58
   go_wp2_with (go_at_call 18; refine hT.mono ?_; rintro e w1 ⟨rfl, hb⟩)
   refine wp_loop_rounds 1 ?_
   rw [rounds_succ]
   go_wp2_with fail
   go_ret2
   exact ⟨rfl, hb⟩
 · go_enter Tryz.func58, Tryz.ntmps58
   go_wp2_with (go_at_call 18; refine hT.mono ?_; rintro e w1 ⟨rfl, hb⟩)
   have c1 := below_cell hb (cell_lt h1) h1
   have hB := Lib.hid hb
   clear hb
   refine wp_loop_rounds 1 ?_
   rw [rounds_succ]
   go_wp2_with fail
   go_quiet (fail)
   go_wp2_with fail
   go_ret2
   exact ⟨rfl, ⟨hB.out.os, hB.out.tape, hB.out.output, hB.out.size, hB.out.block⟩⟩
set_option maxRecDepth 20000 in
theorem is_any (v : Value) (n p n' p' : Int) (w : World) (hg : ErrVar w) (h : ErrIs w v n p) :
  Calls Tryz.prog 20 #[v, .agg #[.int .i64 n', .int .i64 p']] w fun e w' => e = .returned (.bool (n == n' && p == p')) /\ Below w.heap.size w w' := by
 have b1 : Below w.heap.size w (w.alloc (.cells #[.int .i64 n', .int .i64 p'] 61)) := (Below.refl _ w).alloc (Nat.le_refl _) _
 have hP := place_any v n p _ (hg.below b1) (h.below b1)
 have c0 : (w.alloc (.cells #[.int .i64 n', .int .i64 p'] 61)).cell? ⟨w.heap.size, 0, none⟩ = some (.int .i64 n') := by simp
 have c1 : (w.alloc (.cells #[.int .i64 n', .int .i64 p'] 61)).cell? ⟨w.heap.size, 1, none⟩ = some (.int .i64 p') := by simp
 by_cases e1 : n = n'
 · subst e1
   by_cases e2 : p = p'
   · subst e2
     go_enter Tryz.func20, Tryz.ntmps20
     go_wp2_with (go_at_call 58; refine hP.mono ?_; rintro e w1 ⟨rfl, hb⟩; have d0 := below_cell hb (by simp) c0; have d1 := below_cell hb (by simp) c1)
     go_ret
     exact ⟨by simp, b1.trans (hb.mono (by simp))⟩
   · have e3 : (p == p') = false := by simpa using e2
     go_enter Tryz.func20, Tryz.ntmps20
     go_wp2_with (go_at_call 58; refine hP.mono ?_; rintro e w1 ⟨rfl, hb⟩; have d0 := below_cell hb (by simp) c0; have d1 := below_cell hb (by simp) c1)
     go_ret
     exact ⟨by simp [e2], b1.trans (hb.mono (by simp))⟩
 · go_enter Tryz.func20, Tryz.ntmps20
   go_wp2_with (go_at_call 58; refine hP.mono ?_; rintro e w1 ⟨rfl, hb⟩; have d0 := below_cell hb (by simp) c0; have d1 := below_cell hb (by simp) c1)
   go_ret
   exact ⟨by simp [e1], b1.trans (hb.mono (by simp))⟩
theorem bareF_any (n' : Int) (w : World) : Calls Tryz.prog 61 #[.int .i64 n'] w fun e w' => e = .returned (.agg #[.int .i64 n', .int .i64 (-1)]) /\ Below w.heap.size w w' := by
 go_enter Tryz.func61, Tryz.ntmps61
 go_wp2_with fail
 exact bodyPost_ret (v := .agg #[.int .i64 n', .int .i64 (-1)]) (by simp [results, Tryz.results61, go_sem]) rfl ⟨rfl, (Below.refl _ w).alloc (Nat.le_refl _) _⟩
theorem bare_any (v : Value) (n p n' : Int) (w : World) (hg : ErrVar w) (h : ErrIs w v n p) :
  Calls Tryz.prog 23 #[v, .int .i64 n'] w fun e w' => e = .returned (.bool (n == n' && p == -1)) /\ Below w.heap.size w w' := by
 go_enter Tryz.func23, Tryz.ntmps23
 go_wp2_with (first | (go_at_call 61; refine (bareF_any n' _).mono ?_; rintro e w1 ⟨rfl, b1⟩) | (go_at_call 20; refine (is_any v n p n' (-1) _ (hg.below b1) (h.below b1)).mono ?_; rintro e w2 ⟨rfl, b2⟩))
 go_ret
 exact ⟨rfl, below_step b1 b2⟩
end Go.Proofs.YtflhpmgjehjjkaaGreatDoor
