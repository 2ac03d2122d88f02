/- So many hops from a node (Hops). -/
import Derived.Deep.DeepCutAuto
import Derived.Test.YtflhpmgjehjjkaaGreatDoorMapGJo
import Derived.Test.YtflhpmgjehjjkaaGreatDoorPwNJo
import Derived.Test.YtflhpmgjehjjkaaGreatDoorWkNJo
import Derived.Test.YtflhpmgjehjjkaaGreatDoorPsCJo
import Derived.Test.YtflhpmgjehjjkaaGreatDoorRpIJo
import Derived.Test.YtflhpmgjehjjkaaGreatDoorTreeRJo
import Derived.Test.YtflhpmgjehjjkaaGreatDoorRowJo
import Derived.Test.YtflhpmgjehjjkaaGreatDoorPwMJo
namespace Go.Proofs.YtflhpmgjehjjkaaGreatDoor
open Go.RowKit Go.Deep Go.Shelf Go.Sort Go.Maps

/-- How the elements read. -/
structure VT {β : Type} (R : Value → Option (DataW Unit × List MemPlace)) (dv : β → DataW Unit) (vv : β → Value) : Prop where
  put : ∀ b, R (vv b) = some (dv b, [])
  inv : ∀ v z, R v = some z → ∃ b, v = vv b ∧ z = (dv b, [])
  inj : ∀ a b, dv a = dv b → a = b
def strR : Value → Option (DataW Unit × List MemPlace)
  | .string s => some (.lit (.string s.data.toList), [])
  | _ => none
def strD (s : ByteArray) : DataW Unit := .lit (.string s.data.toList)
theorem strVT : VT strR strD Value.string := by
  refine ⟨fun b => rfl, fun v z h => ?_, fun a b h => bytes_ext (by simpa [strD] using h)⟩
  unfold strR at h
  split at h
  · rename_i s; cases h; exact ⟨s, rfl, rfl⟩
  · cases h
def intR : Value → Option (DataW Unit × List MemPlace)
  | .int .i64 n => some (.lit (.int .i64 n), [])
  | _ => none
def intD (n : Int) : DataW Unit := .lit (.int .i64 n)
theorem intVT : VT intR intD (Value.int .i64) := by
  refine ⟨fun b => rfl, fun v z h => ?_, fun a b h => by simpa [intD] using h⟩
  unfold intR at h
  split at h
  · rename_i n; cases h; exact ⟨n, rfl, rfl⟩
  · cases h
def booR : Value → Option (DataW Unit × List MemPlace)
  | .bool b => some (.lit (.bool b), [])
  | _ => none
def booD (b : Bool) : DataW Unit := .lit (.bool b)
theorem booVT : VT booR booD Value.bool := by
  refine ⟨fun b => rfl, fun v z h => ?_, fun a b h => by simpa [booD] using h⟩
  unfold booR at h
  split at h
  · rename_i n; cases h; exact ⟨n, rfl, rfl⟩
  · cases h

theorem lookup_mem {α β : Type} [BEq α] [LawfulBEq α] {x : α} {v : β} : ∀ {L : List (α × β)}, L.lookup x = some v → (x, v) ∈ L
  | [], h => by cases h
  | (a, b) :: L, h => by
    rw [List.lookup_cons] at h
    split at h
    · rename_i e; cases h; rw [eq_of_beq e]; simp
    · exact List.mem_cons_of_mem _ (lookup_mem h)
theorem lookup_no {α β : Type} [BEq α] [LawfulBEq α] {x : α} : ∀ {L : List (α × β)}, L.lookup x = none → ∀ p ∈ L, p.1 ≠ x
  | [], _, p, hp => by cases hp
  | (a, b) :: L, h, p, hp => by
    rw [List.lookup_cons] at h
    split at h
    · cases h
    · rename_i e
      rcases List.mem_cons.1 hp with rfl | hp
      · intro e'; subst e'; simp at e
      · exact lookup_no h p hp
theorem lookup_snoc {α β : Type} [BEq α] [LawfulBEq α] {x y : α} {v : β} : ∀ {L : List (α × β)}, (L ++ [(y, v)]).lookup x = match L.lookup x with | some u => some u | none => if x == y then some v else none
  | [] => by simp [List.lookup_cons]; split <;> simp_all
  | (a, b) :: L => by
    rw [List.cons_append, List.lookup_cons, List.lookup_cons]
    split
    · rfl
    · exact lookup_snoc

section
variable {β : Type} {R : Value → Option (DataW Unit × List MemPlace)} {dv : β → DataW Unit} {vv : β → Value}
/-- A map from numbers holds just these. -/
structure IM (R : Value → Option (DataW Unit × List MemPlace)) (dv : β → DataW Unit) (w : World) (b n : Nat) (L : List (Int × β)) : Prop where
  rng : ∀ p ∈ L, i64 p.1
  own : ∃ D, w.ownsMap Tryz.prog 3 R b n D ∧ MapOf (fun p : Int × β => kI p.1) (fun p => dv p.2) D L
theorem IM.frame {F : Nat → Prop} {w w' : World} {b n : Nat} {L : List (Int × β)} (h : IM R dv w b n L) (hf : Fr F w w') (hn : ¬ F b) : IM R dv w' b n L := by
  obtain ⟨D, h1, h2⟩ := h.own
  exact ⟨h.rng, D, owns_frame h1 hf hn, h2⟩
theorem IM.below {w w' : World} {b n : Nat} {L : List (Int × β)} (h : IM R dv w b n L) (hb : Below w.heap.size w w') : IM R dv w' b n L := h.frame (F := fun _ => False) (Fr.new hb) (fun e => e)
theorem IM.lt {w : World} {b n : Nat} {L : List (Int × β)} (h : IM R dv w b n L) : b < w.heap.size := by obtain ⟨D, h1, _⟩ := h.own; exact h1.lt
theorem at_lookup {D : DataW Unit} {L : List (Int × β)} (h : MapOf (fun p : Int × β => kI p.1) (fun p => dv p.2) D L) (x : Int) (z0 : β) : D.atKey (kI x) (dv z0) = dv ((L.lookup x).getD z0) ∧ Maps.has D (kI x) = (L.lookup x).isSome := by
  cases hx : L.lookup x with
  | some v =>
    have hm := lookup_mem hx
    exact ⟨h.at' (x, v) hm _, by rw [(h.has (kI x) kI_key).2 ⟨(x, v), hm, rfl⟩]; rfl⟩
  | none =>
    have hn := lookup_no hx
    have h0 : Maps.has D (kI x) = false := h.none kI_key fun y hy e => hn y hy (by simp [kI] at e; exact e)
    exact ⟨atKey_of_not_has h0 _, by rw [h0]; rfl⟩
theorem IM.look {w : World} {b n : Nat} {L : List (Int × β)} (h : IM R dv w b n L) (hV : VT R dv vv) {t e : TypeId} (ht : Tryz.prog.underlying t = some (.map 3 e)) (z0 : β) (hz : (zeroValue e).run Tryz.prog w = .ok (vv z0) w) {x : Int} (hx : i64 x) :
    (Instr.lookup t (.map (some b)) (.int .i64 x) false).run Tryz.prog w = .ok (vv ((L.lookup x).getD z0)) w := by
  obtain ⟨D, hown, hD⟩ := h.own
  obtain ⟨u, ps, hr, hu⟩ := hown.lookup intLaw ht hz (hV.put z0) (keyOf_int_mk Tryz.underlying3 (wfI hx))
  obtain ⟨b', rfl, e1⟩ := hV.inv _ _ hu
  have e2 := (at_lookup hD x z0).1
  simp only [Prod.mk.injEq] at e1
  have e3 : b' = (L.lookup x).getD z0 := hV.inj _ _ (e1.1.symm.trans e2)
  rw [e3] at hr
  exact hr
theorem IM.look_ok {w : World} {b n : Nat} {L : List (Int × β)} (h : IM R dv w b n L) (hV : VT R dv vv) {t e : TypeId} (ht : Tryz.prog.underlying t = some (.map 3 e)) (z0 : β) (hz : (zeroValue e).run Tryz.prog w = .ok (vv z0) w) {x : Int} (hx : i64 x) :
    (Instr.lookup t (.map (some b)) (.int .i64 x) true).run Tryz.prog w = .ok (.tuple #[vv ((L.lookup x).getD z0), .bool (L.lookup x).isSome]) w := by
  obtain ⟨D, hown, hD⟩ := h.own
  obtain ⟨u, ps, hr, hu⟩ := hown.look_ok intLaw ht hz (hV.put z0) (keyOf_int_mk Tryz.underlying3 (wfI hx))
  obtain ⟨b', rfl, e1⟩ := hV.inv _ _ hu
  obtain ⟨e2, e4⟩ := at_lookup hD x z0
  simp only [Prod.mk.injEq] at e1
  have e3 : b' = (L.lookup x).getD z0 := hV.inj _ _ (e1.1.symm.trans e2)
  have e5 : Maps.has D (.int .i64 x) = (L.lookup x).isSome := e4
  rw [e3, e5] at hr
  exact hr
/-- One more, that was not there. -/
theorem IM.put {w' : World} {b n : Nat} {L : List (Int × β)} (hr : ∀ p ∈ L, i64 p.1) {D : DataW Unit} (hD : MapOf (fun p : Int × β => kI p.1) (fun p => dv p.2) D L) {x : Int} {v : β} (hx : i64 x) (hn : L.lookup x = none) (hown : w'.ownsMap Tryz.prog 3 R b (n + 1) (D.put (kI x) (dv v))) : IM R dv w' b (n + 1) (L ++ [(x, v)]) := by
  refine ⟨fun p hp => ?_, _, hown, ?_⟩
  · rcases List.mem_append.1 hp with h | h
    · exact hr p h
    · simp at h; subst h; exact hx
  · have := hD.put (x, v) kI_key (fun y hy e => lookup_no hn y hy (by simpa [kI] using e))
    exact this.perm (List.perm_append_comm (l₁ := [(x, v)]) (l₂ := L))
end
end Go.Proofs.YtflhpmgjehjjkaaGreatDoor

namespace Go.Proofs.YtflhpmgjehjjkaaGreatDoor
open Go.RowKit Go.Deep Go.Shelf Go.Sort Go.Maps

theorem appInt {W : World} {ops : Array Oper} {rest : List Oper} {o : Oper} {a : Act} {Q : Exit → Act → World → Prop} (hgd : o.guard = none) (s x : Operand)
    (ho : o.op = .call { callee := .builtin .append, args := #[s, x], argTypes := #[46, 46] }) (base : Nat) (v : Value) (l : List Int) (hs : a.eval s = v) (hown : W.ownsRow base 3 1 v l.length (l.map (Value.int .i64)))
    (b : Nat) (t : Int) (hx : a.eval x = .slice (some ⟨b, 0, none⟩) 1 1) (hc1 : W.cell? ⟨b, 0, none⟩ = some (.int .i64 t))
    (hbytes : (l.length + 1) * 8 ≤ 140737488355328) (hbase : base ≤ W.heap.size) (w0 : World) (hB : Below base w0 W)
    (h : ∀ v' w', w'.ownsRow base 3 1 v' (l ++ [t]).length ((l ++ [t]).map (Value.int .i64)) → Below base w0 w' → W.heap.size ≤ w'.heap.size → W.grownBy w' v.ownBlock → wpList Tryz.prog ops Q rest (a.put o.dst v') w') : wpList Tryz.prog ops Q (o :: rest) a W := by
  refine app1 hgd s x _ ho base 3 Tryz.underlying46 infoInt rfl (by decide) (by decide) v l.length (l.map (Value.int .i64)) hs hown b [.int .i64 t] hx rfl (fun u hu => ?_) (fun j u hu => ?_) hbytes hbase w0 hB fun v' w' h2 h3 h4 h5 h6 => h v' w' ?_ h3 h4 h6
  · simp at hu; subst hu; rfl
  · match j, hu with
    | 0, hu => simp at hu; subst hu; exact hc1
  · rw [List.map_append, List.length_append]; exact h2
theorem keysIn_get {w : World} {ao : Option Addr} {l : List KeyP} (h : KeysIn w ao l) {i : Nat} (hi : i < l.length) : ∃ b k, ao = some ⟨b, 0, none⟩ ∧ Hid (l[i]? = some k) ∧ b < w.heap.size ∧ w.cell? ⟨b, i * 4, none⟩ = some (.int .i64 k.kind) ∧ w.cell? ⟨b, i * 4 + 1, none⟩ = some (.int .i64 k.a) ∧ w.cell? ⟨b, i * 4 + 2, none⟩ = some (.string k.word) ∧ w.cell? ⟨b, i * 4 + 3, none⟩ = some (.int .i64 k.b) := by
  obtain ⟨k, hk⟩ : ∃ k, l[i]? = some k := ⟨_, List.getElem?_eq_getElem hi⟩
  obtain ⟨b, e, c0, c1, c2, c3⟩ := h i k hk
  exact ⟨b, k, e, Lib.hid hk, World.block_lt_of_cell? w _ c0, c0, c1, c2, c3⟩
/-- A graph in memory. -/
structure GAt (w : World) (gb nb : Nat) (eo : Option Addr) (N : List (Int × ByteArray)) (E : List KeyP) : Prop where
  blk : ∃ ec pb, w.heap[gb]? = some (.cells #[.map (some nb), .slice eo E.length ec, .map pb] 122 (0, 0))
  nod : ∃ n, IM strR strD w nb n N
  edg : KeysIn w eo E
  elen : E.length ≤ 4000
  eok : ∀ k ∈ E, i64 k.a ∧ i64 k.b
  enil : eo = none → E = []
  eblk : ∀ p, eo = some p → ∃ b, p = ⟨b, 0, none⟩
  nnd : (N.map (·.1)).Nodup
  nlen : N.length ≤ 4000
theorem GAt.below {w w' : World} {gb nb : Nat} {eo : Option Addr} {N : List (Int × ByteArray)} {E : List KeyP} (h : GAt w gb nb eo N E) (hb : Below w.heap.size w w') : GAt w' gb nb eo N E := by
  obtain ⟨ec, pb, h1⟩ := h.blk
  obtain ⟨n, h2⟩ := h.nod
  exact ⟨⟨ec, pb, (hb.block _ (lt_of_block h1)).trans h1⟩, ⟨n, h2.below hb⟩, h.edg.below hb, h.elen, h.eok, h.enil, h.eblk, h.nnd, h.nlen⟩
theorem GAt.cells {w : World} {gb nb : Nat} {eo : Option Addr} {N : List (Int × ByteArray)} {E : List KeyP} (h : GAt w gb nb eo N E) : ∃ ec, w.cell? ⟨gb, 0, none⟩ = some (.map (some nb)) ∧ w.cell? ⟨gb, 1, none⟩ = some (.slice eo E.length ec) ∧ gb < w.heap.size := by
  obtain ⟨ec, pb, h1⟩ := h.blk
  exact ⟨ec, block_cell h1 0, block_cell h1 1, lt_of_block h1⟩
theorem nextP_snoc (l : List KeyP) (k : KeyP) (x : Int) (word : ByteArray) : nextP (l ++ [k]) x word = nextP l x word ++ (if k.a = x ∧ wordIs word k = true then [k.b] else []) := by
  unfold nextP
  rw [List.filterMap_append]
  congr 1
  by_cases h : k.a = x ∧ wordIs word k = true
  · simp [h]
  · simp [h]
theorem nextP_len (l : List KeyP) (x : Int) (word : ByteArray) : (nextP l x word).length ≤ l.length := List.length_filterMap_le _ _
set_option maxRecDepth 100000 in
set_option maxHeartbeats 4000000 in
theorem next_any {gb nb : Nat} {eo : Option Addr} {N : List (Int × ByteArray)} {E : List KeyP} (x : Int) (word : ByteArray) (w : World) (h : GAt w gb nb eo N E) :
    Calls Tryz.prog 56 #[.pointer (some ⟨gb, 0, none⟩), .int .i64 x, .string word] w fun e w' => ∃ v, e = .returned v ∧ w'.ownsRow w.heap.size 3 1 v (nextP E x word).length ((nextP E x word).map (Value.int .i64)) ∧ Below w.heap.size w w' := by
  obtain ⟨ec, c0, c1, hgl⟩ := h.cells
  have HE := Lib.hid h.edg
  have hlen := h.elen
  clear h c0
  go_enter Tryz.func56, Tryz.ntmps56
  go_wp2_with fail
  go_loopw [7, 15] (fun v vi X => ∃ i : Nat, i ≤ E.length ∧ vi = .int .i64 i ∧ X.ownsRow w.heap.size 3 1 v (nextP (E.take i) x word).length ((nextP (E.take i) x word).map (Value.int .i64)) ∧ Below w.heap.size w X) (fun _ vi _ => E.length - (intOf vi).toNat)
  case atStart => exact ⟨0, Nat.zero_le _, rfl, World.ownsRow_nil _ _ _ _, Below.refl _ _⟩
  case round =>
    obtain ⟨i, hi, rfl, hown, hb⟩ := hrel
    have HB := Lib.hid hb
    have hsz := hb.size
    by_cases hlt : i < E.length
    · obtain ⟨eb, k, rfl, hk, hebl, d0, d1, d2, d3⟩ := keysIn_get (HE.out.below hb) hlt
      obtain ⟨kk, ka, kw, kb⟩ := k
      simp only [] at d0 d1 d2 d3
      have i0 : (0 : Int) ≤ (i : Int) := by omega
      have i1 : (i : Int) < (E.length : Int) := by omega
      have hst : E.take (i + 1) = E.take i ++ [⟨kk, ka, kw, kb⟩] := by rw [List.take_add_one, hk.out]; rfl
      have hnx : nextP (E.take (i + 1)) x word = nextP (E.take i) x word ++ (if ka = x ∧ wordIs word ⟨kk, ka, kw, kb⟩ = true then [kb] else []) := by rw [hst]; exact nextP_snoc _ _ _ _
      have hnl : (nextP (E.take i) x word).length ≤ 4000 := by have := nextP_len (E.take i) x word; rw [List.length_take] at this; omega
      have HNX := Lib.hid hnx
      have HO := Lib.hid hown
      obtain ⟨l, hl⟩ : ∃ l, l = nextP (E.take i) x word := ⟨_, rfl⟩
      rw [← hl] at HNX HO hnl
      clear hb hown hst hnx hk hl
      have no : wordIs word ⟨kk, ka, kw, kb⟩ = false ∨ ka ≠ x → nextP (E.take (i + 1)) x word = l := fun hh => by
        rw [HNX.out, if_neg (fun e => hh.elim (fun h => by rw [h] at e; exact absurd e.2 (by decide)) (fun h => h e.1)), List.append_nil]
      have yes : wordIs word ⟨kk, ka, kw, kb⟩ = true → ka = x → nextP (E.take (i + 1)) x word = l ++ [kb] := fun h1 h2 => by
        rw [HNX.out, if_pos ⟨h2, h1⟩]
      have NO := Lib.hid no
      have YES := Lib.hid yes
      clear no yes
      by_cases ha : ka = x
      · have haz : (ka == x) = true := by simpa using ha
        have HA := Lib.hid ha
        clear ha
        by_cases h0 : word.size = 0
        · have hw0 := empty_true h0
          have HN := Lib.hid (YES.out (by unfold wordIs; simp [h0]) HA.out)
          clear h0
          go_wp2_with (at_builtin; refine appInt rfl _ _ rfl w.heap.size _ l rfl ((HO.out.alloc _).alloc _) (wr.heap.size + 1) kb rfl (by simp) (by omega) (by simp; omega) wr (((Below.refl _ _).alloc hsz _).alloc (by simp; omega) _) ?_; intro v' w6 hown6 hB6 hs6 hg6)
          exact ⟨⟨i + 1, by omega, by go_num, by rw [HN.out]; exact hown6, HB.out.trans hB6⟩, by simp [intOf]; omega⟩
        · have hw0 := empty_false h0
          by_cases hkw : kw = word
          · have hw1 : (kw.toList == word.toList) = true := by rw [hkw]; simp
            have HN := Lib.hid (YES.out (by unfold wordIs; simp [hkw]) HA.out)
            clear h0 hkw
            go_wp2_with (at_builtin; refine appInt rfl _ _ rfl w.heap.size _ l rfl ((HO.out.alloc _).alloc _) (wr.heap.size + 1) kb rfl (by simp) (by omega) (by simp; omega) wr (((Below.refl _ _).alloc hsz _).alloc (by simp; omega) _) ?_; intro v' w6 hown6 hB6 hs6 hg6)
            exact ⟨⟨i + 1, by omega, by go_num, by rw [HN.out]; exact hown6, HB.out.trans hB6⟩, by simp [intOf]; omega⟩
          · have hw1 : (kw.toList == word.toList) = false := by
              have : ¬ kw.toList = word.toList := fun e => hkw (bytes_ext (by rw [← ByteArray.toList_eq, ← ByteArray.toList_eq]; exact e))
              simpa using this
            have HN := Lib.hid (NO.out (.inl (by unfold wordIs; simp [h0, hkw])))
            clear h0 hkw
            go_wp2_with fail
            exact ⟨⟨i + 1, by omega, by go_num, by rw [HN.out]; exact HO.out.alloc _, HB.out.alloc hsz _⟩, by simp [intOf]; omega⟩
      · have haz : (ka == x) = false := by simpa using ha
        have HN := Lib.hid (NO.out (.inr ha))
        clear ha
        go_wp2_with fail
        exact ⟨⟨i + 1, by omega, by go_num, by rw [HN.out]; exact HO.out.alloc _, HB.out.alloc hsz _⟩, by simp [intOf]; omega⟩
    · obtain rfl : i = E.length := by omega
      have HO := Lib.hid hown
      clear hown hb
      go_wp2_with fail
      go_ret
      exact ⟨_, rfl, by have := HO.out; rw [List.take_of_length_le (Nat.le_refl _)] at this; exact this, HB.out⟩
end Go.Proofs.YtflhpmgjehjjkaaGreatDoor

namespace Go.Proofs.YtflhpmgjehjjkaaGreatDoor
open Go.RowKit Go.Deep Go.Shelf Go.Sort Go.Maps

/-! ### In plain words -/
theorem nodup_le {α : Type} [DecidableEq α] : ∀ {l m : List α}, l.Nodup → (∀ x ∈ l, x ∈ m) → l.length ≤ m.length
  | [], _, _, _ => Nat.zero_le _
  | x :: l, m, hn, hs => by
    obtain ⟨h1, h2⟩ := List.nodup_cons.1 hn
    have hx := hs x (by simp)
    have := nodup_le (m := m.erase x) h2 fun y hy => by
      have hne : y ≠ x := fun e => h1 (by rw [← e]; exact hy)
      exact (List.mem_erase_of_ne hne).2 (hs y (List.mem_cons_of_mem _ hy))
    rw [List.length_erase_of_mem hx] at this
    have h0 : 0 < m.length := List.length_pos_of_mem hx
    simp only [List.length_cons]; omega
structure HI (E : List KeyP) (x : Int) (c : List Int × List Int) : Prop where
  nod : c.1.Nodup
  sub : ∀ y ∈ c.1, y = x ∨ y ∈ E.map (·.b)
  len : c.2.length ≤ c.1.length
  mor : ∀ y ∈ c.2, y ∈ c.1
theorem HI.start (E : List KeyP) (x : Int) : HI E x ([x], [x]) := ⟨by simp, fun y hy => .inl (by simpa using hy), Nat.le_refl _, fun y hy => hy⟩
theorem HI.in' {E : List KeyP} {x : Int} {c : List Int × List Int} (h : HI E x c) {y : Int} (hy : y ∈ E.map (·.b)) : HI E x (hopIn c y) := by
  unfold hopIn
  split
  · exact h
  · rename_i hn
    refine ⟨List.nodup_append.2 ⟨h.nod, by simp, fun a ha b hb e => ?_⟩, fun z hz => ?_, by simp; exact h.len, fun z hz => ?_⟩
    · simp at hb; subst hb; subst e; exact hn ha
    · rcases List.mem_append.1 hz with hz | hz
      · exact h.sub z hz
      · simp at hz; subst hz; exact .inr hy
    · rcases List.mem_append.1 hz with hz | hz
      · exact List.mem_append_left _ (h.mor z hz)
      · exact List.mem_append_right _ hz
theorem HI.fold {E : List KeyP} {x : Int} : ∀ {l : List Int} {c : List Int × List Int}, HI E x c → (∀ y ∈ l, y ∈ E.map (·.b)) → HI E x (l.foldl hopIn c)
  | [], _, h, _ => h
  | y :: l, c, h, hl => HI.fold (l := l) (h.in' (hl y (by simp))) fun z hz => hl z (List.mem_cons_of_mem _ hz)
theorem next_sub {E : List KeyP} {x : Int} {word : ByteArray} : ∀ y ∈ nextP E x word, y ∈ E.map (·.b) := fun y hy => by
  unfold nextP at hy
  obtain ⟨k, hk, e⟩ := List.mem_filterMap.1 hy
  split at e
  · cases e; exact List.mem_map.2 ⟨k, hk, rfl⟩
  · cases e
theorem HI.line {E : List KeyP} {x : Int} {word : ByteArray} : ∀ {l : List Int} {c : List Int × List Int}, HI E x c → HI E x (l.foldl (hopTo E word) c)
  | [], _, h => h
  | _y :: l, _c, h => HI.line (l := l) (HI.fold h next_sub)
theorem HI.fresh {E : List KeyP} {x : Int} {c : List Int × List Int} (h : HI E x c) : HI E x (c.1, []) := ⟨h.nod, h.sub, Nat.zero_le _, fun y hy => by cases hy⟩
theorem hopS_ok (E : List KeyP) (word : ByteArray) (x : Int) : ∀ n, HI E x (hopS E word x n)
  | 0 => HI.start E x
  | n + 1 => by
    rw [hopS]
    split
    · exact hopS_ok E word x n
    · exact HI.line (hopS_ok E word x n).fresh
theorem HI.size {E : List KeyP} {x : Int} {c : List Int × List Int} (h : HI E x c) : c.1.length ≤ E.length + 1 := by
  have := nodup_le (m := x :: E.map (·.b)) h.nod fun y hy => by
    rcases h.sub y hy with e | e
    · rw [e]; simp
    · exact List.mem_cons_of_mem _ e
  simpa using this
theorem foldl_take {α β : Type} {f : β → α → β} {l : List α} {s : β} {q : Nat} {y : α} (h : l[q]? = some y) : (l.take (q + 1)).foldl f s = f ((l.take q).foldl f s) y := by
  rw [List.take_add_one, h]; simp
theorem hop_lookup (H : List Int) (y : Int) : ((H.map fun z => (z, true)).lookup y).getD false = decide (y ∈ H) ∧ ((H.map fun z => (z, true)).lookup y = none ↔ y ∉ H) := by
  induction H with
  | nil => simp
  | cons a H ih =>
    rw [List.map_cons, List.lookup_cons]
    by_cases e : y = a
    · subst e; simp
    · have : (y == a) = false := by simpa using e
      rw [this]
      simp only [List.mem_cons, e, false_or]
      exact ih
end Go.Proofs.YtflhpmgjehjjkaaGreatDoor
