/- Maps from numbers, as lists of pairs: what is looked up, what is put. -/
import Derived.Test.YtflhpmgjehjjkaaGreatDoorMapGJn
import Derived.Test.YtflhpmgjehjjkaaGreatDoorMapSJn
import Derived.Test.YtflhpmgjehjjkaaGreatDoorPwNJn
namespace Go.Proofs.YtflhpmgjehjjkaaGreatDoor
open Go.RowKit Go.Deep Go.Shelf Go.Sort Go.Maps

/-- How the elements read. -/
structure VT {β : Type} (R : Value → Option (DataW Unit × List MemPlace)) (dv : β → DataW Unit) (vv : β → Value) : Prop where
  put : ∀ b, R (vv b) = some (dv b, [])
  inv : ∀ v z, R v = some z → ∃ b, v = vv b ∧ z = (dv b, [])
  inj : ∀ a b, dv a = dv b → a = b
def strR : Value → Option (DataW Unit × List MemPlace)
  | .string s => some (.lit (.string s.data.toList), [])
  | _ => none
def strD (s : ByteArray) : DataW Unit := .lit (.string s.data.toList)
theorem strVT : VT strR strD Value.string := by
  refine ⟨fun b => rfl, fun v z h => ?_, fun a b h => bytes_ext (by simpa [strD] using h)⟩
  unfold strR at h
  split at h
  · rename_i s; cases h; exact ⟨s, rfl, rfl⟩
  · cases h
def intR : Value → Option (DataW Unit × List MemPlace)
  | .int .i64 n => some (.lit (.int .i64 n), [])
  | _ => none
def intD (n : Int) : DataW Unit := .lit (.int .i64 n)
theorem intVT : VT intR intD (Value.int .i64) := by
  refine ⟨fun b => rfl, fun v z h => ?_, fun a b h => by simpa [intD] using h⟩
  unfold intR at h
  split at h
  · rename_i n; cases h; exact ⟨n, rfl, rfl⟩
  · cases h
def booR : Value → Option (DataW Unit × List MemPlace)
  | .bool b => some (.lit (.bool b), [])
  | _ => none
def booD (b : Bool) : DataW Unit := .lit (.bool b)
theorem booVT : VT booR booD Value.bool := by
  refine ⟨fun b => rfl, fun v z h => ?_, fun a b h => by simpa [booD] using h⟩
  unfold booR at h
  split at h
  · rename_i n; cases h; exact ⟨n, rfl, rfl⟩
  · cases h

theorem lookup_mem {α β : Type} [BEq α] [LawfulBEq α] {x : α} {v : β} : ∀ {L : List (α × β)}, L.lookup x = some v → (x, v) ∈ L
  | [], h => by cases h
  | (a, b) :: L, h => by
    rw [List.lookup_cons] at h
    split at h
    · rename_i e; cases h; rw [eq_of_beq e]; simp
    · exact List.mem_cons_of_mem _ (lookup_mem h)
theorem lookup_no {α β : Type} [BEq α] [LawfulBEq α] {x : α} : ∀ {L : List (α × β)}, L.lookup x = none → ∀ p ∈ L, p.1 ≠ x
  | [], _, p, hp => by cases hp
  | (a, b) :: L, h, p, hp => by
    rw [List.lookup_cons] at h
    split at h
    · cases h
    · rename_i e
      rcases List.mem_cons.1 hp with rfl | hp
      · intro e'; subst e'; simp at e
      · exact lookup_no h p hp
theorem lookup_snoc {α β : Type} [BEq α] [LawfulBEq α] {x y : α} {v : β} : ∀ {L : List (α × β)}, (L ++ [(y, v)]).lookup x = match L.lookup x with | some u => some u | none => if x == y then some v else none
  | [] => by simp [List.lookup_cons]; split <;> simp_all
  | (a, b) :: L => by
    rw [List.cons_append, List.lookup_cons, List.lookup_cons]
    split
    · rfl
    · exact lookup_snoc

section
variable {β : Type} {R : Value → Option (DataW Unit × List MemPlace)} {dv : β → DataW Unit} {vv : β → Value}
/-- A map from numbers holds just these. -/
structure IM (R : Value → Option (DataW Unit × List MemPlace)) (dv : β → DataW Unit) (w : World) (b n : Nat) (L : List (Int × β)) : Prop where
  rng : ∀ p ∈ L, i64 p.1
  own : ∃ D, w.ownsMap Tryz.prog 3 R b n D ∧ MapOf (fun p : Int × β => kI p.1) (fun p => dv p.2) D L
theorem IM.frame {F : Nat → Prop} {w w' : World} {b n : Nat} {L : List (Int × β)} (h : IM R dv w b n L) (hf : Fr F w w') (hn : ¬ F b) : IM R dv w' b n L := by
  obtain ⟨D, h1, h2⟩ := h.own
  exact ⟨h.rng, D, owns_frame h1 hf hn, h2⟩
theorem IM.below {w w' : World} {b n : Nat} {L : List (Int × β)} (h : IM R dv w b n L) (hb : Below w.heap.size w w') : IM R dv w' b n L := h.frame (F := fun _ => False) (Fr.new hb) (fun e => e)
theorem IM.lt {w : World} {b n : Nat} {L : List (Int × β)} (h : IM R dv w b n L) : b < w.heap.size := by obtain ⟨D, h1, _⟩ := h.own; exact h1.lt
theorem at_lookup {D : DataW Unit} {L : List (Int × β)} (h : MapOf (fun p : Int × β => kI p.1) (fun p => dv p.2) D L) (x : Int) (z0 : β) : D.atKey (kI x) (dv z0) = dv ((L.lookup x).getD z0) ∧ Maps.has D (kI x) = (L.lookup x).isSome := by
  cases hx : L.lookup x with
  | some v =>
    have hm := lookup_mem hx
    exact ⟨h.at' (x, v) hm _, by rw [(h.has (kI x) kI_key).2 ⟨(x, v), hm, rfl⟩]; rfl⟩
  | none =>
    have hn := lookup_no hx
    have h0 : Maps.has D (kI x) = false := h.none kI_key fun y hy e => hn y hy (by simp [kI] at e; exact e)
    exact ⟨atKey_of_not_has h0 _, by rw [h0]; rfl⟩
theorem IM.look {w : World} {b n : Nat} {L : List (Int × β)} (h : IM R dv w b n L) (hV : VT R dv vv) {t e : TypeId} (ht : Tryz.prog.underlying t = some (.map 3 e)) (z0 : β) (hz : (zeroValue e).run Tryz.prog w = .ok (vv z0) w) {x : Int} (hx : i64 x) :
    (Instr.lookup t (.map (some b)) (.int .i64 x) false).run Tryz.prog w = .ok (vv ((L.lookup x).getD z0)) w := by
  obtain ⟨D, hown, hD⟩ := h.own
  obtain ⟨u, ps, hr, hu⟩ := hown.lookup intLaw ht hz (hV.put z0) (keyOf_int_mk Tryz.underlying3 (wfI hx))
  obtain ⟨b', rfl, e1⟩ := hV.inv _ _ hu
  have e2 := (at_lookup hD x z0).1
  simp only [Prod.mk.injEq] at e1
  have e3 : b' = (L.lookup x).getD z0 := hV.inj _ _ (e1.1.symm.trans e2)
  rw [e3] at hr
  exact hr
theorem IM.look_ok {w : World} {b n : Nat} {L : List (Int × β)} (h : IM R dv w b n L) (hV : VT R dv vv) {t e : TypeId} (ht : Tryz.prog.underlying t = some (.map 3 e)) (z0 : β) (hz : (zeroValue e).run Tryz.prog w = .ok (vv z0) w) {x : Int} (hx : i64 x) :
    (Instr.lookup t (.map (some b)) (.int .i64 x) true).run Tryz.prog w = .ok (.tuple #[vv ((L.lookup x).getD z0), .bool (L.lookup x).isSome]) w := by
  obtain ⟨D, hown, hD⟩ := h.own
  obtain ⟨u, ps, hr, hu⟩ := hown.look_ok intLaw ht hz (hV.put z0) (keyOf_int_mk Tryz.underlying3 (wfI hx))
  obtain ⟨b', rfl, e1⟩ := hV.inv _ _ hu
  obtain ⟨e2, e4⟩ := at_lookup hD x z0
  simp only [Prod.mk.injEq] at e1
  have e3 : b' = (L.lookup x).getD z0 := hV.inj _ _ (e1.1.symm.trans e2)
  have e5 : Maps.has D (.int .i64 x) = (L.lookup x).isSome := e4
  rw [e3, e5] at hr
  exact hr
/-- One more, that was not there. -/
theorem IM.put {w' : World} {b n : Nat} {L : List (Int × β)} (hr : ∀ p ∈ L, i64 p.1) {D : DataW Unit} (hD : MapOf (fun p : Int × β => kI p.1) (fun p => dv p.2) D L) {x : Int} {v : β} (hx : i64 x) (hn : L.lookup x = none) (hown : w'.ownsMap Tryz.prog 3 R b (n + 1) (D.put (kI x) (dv v))) : IM R dv w' b (n + 1) (L ++ [(x, v)]) := by
  refine ⟨fun p hp => ?_, _, hown, ?_⟩
  · rcases List.mem_append.1 hp with h | h
    · exact hr p h
    · simp at h; subst h; exact hx
  · have := hD.put (x, v) kI_key (fun y hy e => lookup_no hn y hy (by simpa [kI] using e))
    exact this.perm (List.perm_append_comm (l₁ := [(x, v)]) (l₂ := L))
end
end Go.Proofs.YtflhpmgjehjjkaaGreatDoor
