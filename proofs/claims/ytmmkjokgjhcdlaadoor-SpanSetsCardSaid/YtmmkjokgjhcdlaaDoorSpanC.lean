/- Contracts of the small functions on spans: span.Right, span.Has, span.Meet and the references' in, Right, Has: what each returns; nothing that was there before the call changes. There are no conditions. Slices of spans and of ints as lists; sameSpans. The reference's Where: as few spans as there can be of the times that a function says yes of. The function may be any that returns a bool and changes nothing. -/
import Derived.Test.YtmmkjokgjhcdlaaDoorKit
import Derived.Deep.QuietTactic
import Derived.BigQuiet
import Derived.Shelf.Abstract
import Derived.Shelf.RegionOpen
namespace Go.Proofs.YtmmkjokgjhcdlaaDoor
open Go.RowKit

def rightB (f t : Int) : Bool := decide (-1099511627776 ≤ f ∧ t ≤ 1099511627776 ∧ f < t)
def inB (n low high : Int) : Bool := decide (low ≤ n ∧ n ≤ high)
theorem ret_bool {a b : Bool} (h : a = b) : Ending.returned (.bool a) = .returned (.bool b) := by rw [h]

theorem right_any (f t : Int) (w : World) :
    Calls Tryd.prog 24 #[.agg #[.int .i64 f, .int .i64 t]] w fun e w' => e = .returned (.bool (rightB f t)) ∧ Below w.heap.size w w' := by
  by_cases h1 : -1099511627776 ≤ f
  · by_cases h2 : t ≤ 1099511627776
    · by_cases h3 : f < t
      · go_enter Tryd.func24, Tryd.ntmps24
        go_wp2
        go_ret
        exact ⟨ret_bool (decide_eq_true (by omega)).symm, (Below.refl _ _).alloc (Nat.le_refl _) _⟩
      · go_enter Tryd.func24, Tryd.ntmps24
        go_wp2
        go_ret
        exact ⟨ret_bool (decide_eq_false (by omega)).symm, (Below.refl _ _).alloc (Nat.le_refl _) _⟩
    · go_enter Tryd.func24, Tryd.ntmps24
      go_wp2
      go_ret
      exact ⟨ret_bool (decide_eq_false (by omega)).symm, (Below.refl _ _).alloc (Nat.le_refl _) _⟩
  · go_enter Tryd.func24, Tryd.ntmps24
    go_wp2
    go_ret
    exact ⟨ret_bool (decide_eq_false (by omega)).symm, (Below.refl _ _).alloc (Nat.le_refl _) _⟩

theorem has_any (f t x : Int) (w : World) :
    Calls Tryd.prog 33 #[.agg #[.int .i64 f, .int .i64 t], .int .i64 x] w fun e w' => e = .returned (.bool (hasB f t x)) ∧ Below w.heap.size w w' := by
  by_cases h1 : f ≤ x
  · by_cases h2 : x < t
    · go_enter Tryd.func33, Tryd.ntmps33
      go_wp2
      go_ret
      exact ⟨ret_bool (decide_eq_true (by omega)).symm, (Below.refl _ _).alloc (Nat.le_refl _) _⟩
    · go_enter Tryd.func33, Tryd.ntmps33
      go_wp2
      go_ret
      exact ⟨ret_bool (decide_eq_false (by omega)).symm, (Below.refl _ _).alloc (Nat.le_refl _) _⟩
  · go_enter Tryd.func33, Tryd.ntmps33
    go_wp2
    go_ret
    exact ⟨ret_bool (decide_eq_false (by omega)).symm, (Below.refl _ _).alloc (Nat.le_refl _) _⟩

theorem rhas_any (f t x : Int) (w : World) :
    Calls Tryd.prog 23 #[.agg #[.int .i64 f, .int .i64 t], .int .i64 x] w fun e w' => e = .returned (.bool (hasB f t x)) ∧ Below w.heap.size w w' := by
  by_cases h1 : f ≤ x
  · by_cases h2 : x < t
    · go_enter Tryd.func23, Tryd.ntmps23
      go_wp2
      go_ret
      exact ⟨ret_bool (decide_eq_true (by omega)).symm, (Below.refl _ _).alloc (Nat.le_refl _) _⟩
    · go_enter Tryd.func23, Tryd.ntmps23
      go_wp2
      go_ret
      exact ⟨ret_bool (decide_eq_false (by omega)).symm, (Below.refl _ _).alloc (Nat.le_refl _) _⟩
  · go_enter Tryd.func23, Tryd.ntmps23
    go_wp2
    go_ret
    exact ⟨ret_bool (decide_eq_false (by omega)).symm, (Below.refl _ _).alloc (Nat.le_refl _) _⟩

theorem in_any (n low high : Int) (w : World) :
    Calls Tryd.prog 20 #[.int .i64 n, .int .i64 low, .int .i64 high] w fun e w' => e = .returned (.bool (inB n low high)) ∧ w = w' := by
  by_cases h1 : low ≤ n
  · by_cases h2 : n ≤ high
    · go_enter Tryd.func20, Tryd.ntmps20
      go_wp2
      go_ret
      exact ⟨ret_bool (decide_eq_true (by omega)).symm, rfl⟩
    · go_enter Tryd.func20, Tryd.ntmps20
      go_wp2
      go_ret
      exact ⟨ret_bool (decide_eq_false (by omega)).symm, rfl⟩
  · go_enter Tryd.func20, Tryd.ntmps20
    go_wp2
    go_ret
    exact ⟨ret_bool (decide_eq_false (by omega)).symm, rfl⟩

theorem in_yes (n low high : Int) (w : World) (h : low ≤ n ∧ n ≤ high) :
    Calls Tryd.prog 20 #[.int .i64 n, .int .i64 low, .int .i64 high] w fun e w' => e = .returned (.bool true) ∧ w = w' :=
  (in_any n low high w).mono fun _ _ ⟨he, hw⟩ => ⟨he.trans (ret_bool (decide_eq_true h)), hw⟩
theorem in_no (n low high : Int) (w : World) (h : ¬ (low ≤ n ∧ n ≤ high)) :
    Calls Tryd.prog 20 #[.int .i64 n, .int .i64 low, .int .i64 high] w fun e w' => e = .returned (.bool false) ∧ w = w' :=
  (in_any n low high w).mono fun _ _ ⟨he, hw⟩ => ⟨he.trans (ret_bool (decide_eq_false h)), hw⟩

theorem rright_any (f t : Int) (w : World) :
    Calls Tryd.prog 5 #[.agg #[.int .i64 f, .int .i64 t]] w fun e w' => e = .returned (.bool (rightB f t)) ∧ Below w.heap.size w w' := by
  by_cases h1 : -1099511627776 ≤ f ∧ f ≤ 1099511627776
  · have e1 : inB f (-1099511627776) 1099511627776 = true := decide_eq_true h1
    by_cases h2 : -1099511627776 ≤ t ∧ t ≤ 1099511627776
    · have e2 : inB t (-1099511627776) 1099511627776 = true := decide_eq_true h2
      by_cases h3 : f < t
      · have e3 : rightB f t = true := decide_eq_true (by omega)
        clear h1 h2
        go_enter Tryd.func5, Tryd.ntmps5
        go_wp2_with (go_at_call 20; refine (in_any _ _ _ _).mono ?_; rintro e w' ⟨rfl, rfl⟩)
        go_ret
        exact ⟨ret_bool e3.symm, (Below.refl _ _).alloc (Nat.le_refl _) _⟩
      · have e3 : rightB f t = false := decide_eq_false (by omega)
        clear h1 h2
        go_enter Tryd.func5, Tryd.ntmps5
        go_wp2_with (go_at_call 20; refine (in_any _ _ _ _).mono ?_; rintro e w' ⟨rfl, rfl⟩)
        go_ret
        exact ⟨ret_bool (by rw [e3]; exact decide_eq_false (by omega)), (Below.refl _ _).alloc (Nat.le_refl _) _⟩
    · have e2 : inB t (-1099511627776) 1099511627776 = false := decide_eq_false h2
      have e3 : rightB f t = false := decide_eq_false (by omega)
      clear h1 h2
      go_enter Tryd.func5, Tryd.ntmps5
      go_wp2_with (go_at_call 20; refine (in_any _ _ _ _).mono ?_; rintro e w' ⟨rfl, rfl⟩)
      go_ret
      exact ⟨ret_bool e3.symm, (Below.refl _ _).alloc (Nat.le_refl _) _⟩
  · have e1 : inB f (-1099511627776) 1099511627776 = false := decide_eq_false h1
    have e3 : rightB f t = false := decide_eq_false (by omega)
    clear h1
    go_enter Tryd.func5, Tryd.ntmps5
    go_wp2_with (go_at_call 20; refine (in_any _ _ _ _).mono ?_; rintro e w' ⟨rfl, rfl⟩)
    go_ret
    exact ⟨ret_bool e3.symm, (Below.refl _ _).alloc (Nat.le_refl _) _⟩

theorem ret_span {a b c d : Int} {o : Bool} (h : a = c) (h' : b = d) : Ending.returned (.tuple #[.agg #[.int .i64 a, .int .i64 b], .bool o]) = .returned (.tuple #[.agg #[.int .i64 c, .int .i64 d], .bool o]) := by rw [h, h']
/-- Meet: what two have in common. -/
theorem meet_yes (a b c d : Int) (w : World) (h : imax a c < imin b d) :
    Calls Tryd.prog 35 #[.agg #[.int .i64 a, .int .i64 b], .agg #[.int .i64 c, .int .i64 d]] w fun e w' =>
      e = .returned (.tuple #[.agg #[.int .i64 (imax a c), .int .i64 (imin b d)], .bool true]) ∧ Below w.heap.size w w' := by
  have HB : ∀ o1 o2 o3 o4, Below w.heap.size w ((((w.alloc o1).alloc o2).alloc o3).alloc o4) := fun o1 o2 o3 o4 =>
    ((((Below.refl _ _).alloc (Nat.le_refl _) _).alloc (by simp) _).alloc (by simp; omega) _).alloc (by simp; omega) _
  go_enter Tryd.func35, Tryd.ntmps35
  go_wp2
  exact bodyPost_ret (v := .tuple #[.agg #[.int .i64 (imax a c), .int .i64 (imin b d)], .bool true]) (by simp [results, Tryd.results35, go_sem]) rfl ⟨rfl, HB _ _ _ _⟩
theorem meet_no (a b c d : Int) (w : World) (h : imin b d ≤ imax a c) :
    Calls Tryd.prog 35 #[.agg #[.int .i64 a, .int .i64 b], .agg #[.int .i64 c, .int .i64 d]] w fun e w' =>
      e = .returned (.tuple #[.agg #[.int .i64 0, .int .i64 0], .bool false]) ∧ Below w.heap.size w w' := by
  have HB : ∀ o1 o2 o3 o4, Below w.heap.size w ((((w.alloc o1).alloc o2).alloc o3).alloc o4) := fun o1 o2 o3 o4 =>
    ((((Below.refl _ _).alloc (Nat.le_refl _) _).alloc (by simp) _).alloc (by simp; omega) _).alloc (by simp; omega) _
  go_enter Tryd.func35, Tryd.ntmps35
  go_wp2
  exact bodyPost_ret (v := .tuple #[.agg #[.int .i64 0, .int .i64 0], .bool false]) (by simp [results, Tryd.results35, go_sem]) rfl ⟨rfl, HB _ _ _ _⟩
end Go.Proofs.YtmmkjokgjhcdlaaDoor
namespace Go.Proofs.YtmmkjokgjhcdlaaDoor
open Go.RowKit

/-- The slice that begins at an address holds these spans. -/
def spansAt (w : World) (ao : Option Addr) (l : List (Int × Int)) : Prop :=
  ∀ i x y, l[i]? = some (x, y) → ∃ b o, ao = some ⟨b, o, none⟩ ∧ w.cell? ⟨b, o + i * 2, none⟩ = some (.int .i64 x) ∧ w.cell? ⟨b, o + i * 2 + 1, none⟩ = some (.int .i64 y)
theorem spansAt_get {w : World} {ao : Option Addr} {l : List (Int × Int)} (h : spansAt w ao l) {k : Nat} (hk : k < l.length) :
    ∃ b o x y, Hid (l[k]? = some (x, y)) ∧ ao = some ⟨b, o, none⟩ ∧ w.cell? ⟨b, o + k * 2, none⟩ = some (.int .i64 x) ∧ w.cell? ⟨b, o + k * 2 + 1, none⟩ = some (.int .i64 y) := by
  obtain ⟨b, o, h1, h2, h3⟩ := h k l[k].1 l[k].2 (by simp [hk])
  exact ⟨b, o, l[k].1, l[k].2, (by show l[k]? = _; simp [hk]), h1, h2, h3⟩
theorem take_eq_snoc {α : Type} {l m : List α} {k : Nat} {x y : α} (h : l.take k = m.take k) (hx : l[k]? = some x) (hy : m[k]? = some y) : (l.take (k + 1) = m.take (k + 1)) ↔ x = y := by
  rw [List.take_add_one, List.take_add_one, h, hx, hy]
  simp
theorem eq_of_take {α : Type} {l m : List α} {k : Nat} (h : l.take k = m.take k) (hl : l.length ≤ k) (hm : m.length ≤ k) : l = m := by
  rwa [List.take_of_length_le hl, List.take_of_length_le hm] at h

section
variable (w : World) (a b c d : Int)
theorem span_fields : Tryd.prog.underlying 29 = some (.struct (Tryd.prog.fieldsOf 29)) := by kernel_rfl
theorem eqIn_span : (Op.equalIn 10000 29 (.agg #[.int .i64 a, .int .i64 b]) (.agg #[.int .i64 c, .int .i64 d])).run Tryd.prog w = .ok (a == c && b == d) w := by
  rw [run_equalIn_struct w 9999 _ _ _ span_fields (by kernel_rfl)]
  by_cases h1 : a = c <;> by_cases h2 : b = d <;> simp [go_sem, h1, h2]
@[go_sem high] theorem neq_span : (binOp .neq 29 (.agg #[.int .i64 a, .int .i64 b]) (.agg #[.int .i64 c, .int .i64 d])).run Tryd.prog w = .ok (.bool (!(a == c && b == d))) w := by
  rw [run_neq_struct, eqIn_span]; rfl
@[go_sem high] theorem eql_span : (binOp .eql 29 (.agg #[.int .i64 a, .int .i64 b]) (.agg #[.int .i64 c, .int .i64 d])).run Tryd.prog w = .ok (.bool (a == c && b == d)) w := by
  rw [run_eql_struct, eqIn_span]; rfl
end

theorem sameSpans_any (a b : Option Addr) (ca cb : Nat) (l m : List (Int × Int)) (w : World) (ha : spansAt w a l) (hb : spansAt w b m) (hl : l.length ≤ maxLen) (_hm : m.length ≤ maxLen) :
    Calls Tryd.prog 9 #[.slice a l.length ca, .slice b m.length cb] w fun e w' => e = .returned (.bool (decide (l = m))) ∧ ∃ n, w' = w.drewN n := by
  unfold maxLen at hl _hm
  by_cases hlen : l.length = m.length
  · go_enter Tryd.func9, Tryd.ntmps9
    have h1 : ((l.length : Int) != (m.length : Int)) = false := by simp [hlen]
    go_wp2
    go_loopw [5] (fun i wr => ∃ k : Nat, k ≤ l.length ∧ i = .int .i64 k ∧ l.take k = m.take k ∧ ∃ n, wr = w.drewN n) (fun i _ => l.length - (intOf i).toNat)
    case atStart => exact ⟨0, by omega, rfl, by simp, 0, rfl⟩
    case round =>
      obtain ⟨k, hk, rfl, htk, n, rfl⟩ := hrel
      by_cases hlt : k < l.length
      · obtain ⟨b1, o1, x1, y1, g1, rfl, c1, c2⟩ := spansAt_get ha hlt
        obtain ⟨b2, o2, x2, y2, g2, rfl, c3, c4⟩ := spansAt_get hb (k := k) (by omega)
        have hlt2 : k < m.length := by omega
        have HT := Lib.hid htk
        have HL := Lib.hid hlen
        clear htk hlen
        by_cases hx : x1 = x2 ∧ y1 = y2
        · obtain ⟨rfl, rfl⟩ := hx
          go_wp2
          go_quiet (fail)
          go_wp2
          go_roundw
          case rel => exact ⟨k + 1, by omega, by go_num, (take_eq_snoc HT.out g1.out g2.out).2 rfl, _, rfl⟩
          case measure => simp [intOf]; omega
        · have hne : (x1 == x2 && y1 == y2) = false := by simpa using hx
          go_wp2
          go_quiet (fail)
          go_wp2
          go_ret
          exact ⟨ret_bool (decide_eq_false (fun e => by
            have e1 := g1.out; have e2 := g2.out
            rw [e, e2] at e1; simp at e1; exact hx ⟨e1.1.symm, e1.2.symm⟩)).symm, _, World.drewN_drewN ..⟩
      · have HT := Lib.hid htk
        have hge : m.length ≤ k := by omega
        clear htk
        go_wp2
        go_ret
        exact ⟨ret_bool (decide_eq_true (eq_of_take HT.out (by omega) (by omega))).symm, _, rfl⟩
  · go_enter Tryd.func9, Tryd.ntmps9
    have h1 : ((l.length : Int) != (m.length : Int)) = true := by simp; omega
    go_wp2
    go_ret
    exact ⟨ret_bool (decide_eq_false (fun e => hlen (by rw [e]))).symm, 0, rfl⟩
end Go.Proofs.YtmmkjokgjhcdlaaDoor
namespace Go.Proofs.YtmmkjokgjhcdlaaDoor
open Go.RowKit Go.Shelf

def intsAt (w : World) (ao : Option Addr) (l : List Int) : Prop :=
  ∀ i x, l[i]? = some x → ∃ b o, ao = some ⟨b, o, none⟩ ∧ w.cell? ⟨b, o + i, none⟩ = some (.int .i64 x)
theorem intsAt_get {w : World} {ao : Option Addr} {l : List Int} (h : intsAt w ao l) {k : Nat} (hk : k < l.length) :
    ∃ b o x, Hid (l[k]? = some x) ∧ ao = some ⟨b, o, none⟩ ∧ w.cell? ⟨b, o + k, none⟩ = some (.int .i64 x) := by
  obtain ⟨b, o, h1, h2⟩ := h k l[k] (by simp [hk])
  exact ⟨b, o, l[k], (by show l[k]? = _; simp [hk]), h1, h2⟩

def flat (l : List (Int × Int)) : List Value := l.flatMap fun p => [.int .i64 p.1, .int .i64 p.2]
theorem flat_length (l : List (Int × Int)) : (flat l).length = l.length * 2 := by
  induction l with
  | nil => rfl
  | cons a l ih => simp only [flat, List.flatMap_cons, List.length_append, List.length_cons, List.length_nil] at ih ⊢; omega
theorem flat_append (l m : List (Int × Int)) : flat (l ++ m) = flat l ++ flat m := by simp [flat]

/-- A function value that says p of a number, and changes nothing that was there. -/
def PredB (P : Program) (g : Nat) (lb : Array Value) (p : Int → Bool) (w : World) : Prop :=
  ∀ (W : World) (x : Int), Below w.heap.size w W → Calls P g (#[.int .i64 x] ++ lb) W fun e w' => e = .returned (.bool (p x)) ∧ Below W.heap.size W w'

theorem whS_snoc (p : Int → Bool) (l : List Int) (k : Nat) (x : Int) (h : l[k]? = some x) : whS p (l.take (k + 1)) = whStep p (whS p (l.take k)) x := by
  rw [List.take_add_one, h]; simp [whS, List.foldl_append]
theorem snoc_of_ne {α : Type} (l : List α) (h : l ≠ []) : ∃ m a, l = m ++ [a] := ⟨l.dropLast, l.getLast h, (List.dropLast_concat_getLast h).symm⟩
theorem whS_open_len (p : Int → Bool) (l : List Int) (s : List (Int × Int) × Bool) (h : s.2 = true → s.1 ≠ []) :
    ((l.foldl (whStep p) s).2 = true → (l.foldl (whStep p) s).1 ≠ []) ∧ (l.foldl (whStep p) s).1.length ≤ s.1.length + l.length := by
  induction l generalizing s with
  | nil => exact ⟨h, by simp⟩
  | cons x l ih =>
    obtain ⟨out, op⟩ := s
    simp only [List.foldl_cons, List.length_cons]
    have key : ((whStep p (out, op) x).2 = true → (whStep p (out, op) x).1 ≠ []) ∧ (whStep p (out, op) x).1.length ≤ out.length + 1 := by
      cases hp : p x <;> cases op <;> simp [whStep, hp] <;> simp_all
      obtain ⟨m, a, rfl⟩ := snoc_of_ne out h
      rw [setLast_snoc]; simp
    obtain ⟨h1, h2⟩ := ih _ key.1
    exact ⟨h1, by have := key.2; simp only at *; omega⟩
theorem whS_open (p : Int → Bool) (l : List Int) : (whS p l).2 = true → (whS p l).1 ≠ [] := (whS_open_len p l ([], false) (by simp)).1
theorem whS_len (p : Int → Bool) (l : List Int) : (whS p l).1.length ≤ l.length := by have := (whS_open_len p l ([], false) (by simp)).2; simp only [List.length_nil, Nat.zero_add] at this; exact this

theorem ret_int' {a b : Int} (h : a = b) : Value.int .i64 a = .int .i64 b := by rw [h]

theorem flat_setLast (m : List (Int × Int)) (a : Int × Int) (x : Int) : (flat (m ++ [a])).set (m.length * 2 + 1) (.int .i64 x) = flat (m ++ [(a.1, x)]) := by
  rw [flat_append, flat_append, List.set_append_right _ _ (by rw [flat_length]; omega), flat_length]
  simp [flat]

theorem infoSpan : (Tryd.prog.info? 29).map (fun i => (i.zero, i.size, i.bytes)) = some (some (.agg #[.int .i64 0, .int .i64 0]), 2, 16) := by kernel_rfl

/-- One span more. -/
theorem appSpan {W : World} {ops : Array Oper} {rest : List Oper} {o : Oper} {a : Act} {Q : Exit → Act → World → Prop} (hgd : o.guard = none) (s x : Operand)
    (ho : o.op = .call { callee := .builtin .append, args := #[s, x], argTypes := #[22, 22] }) (base : Nat) (v : Value) (l : List (Int × Int)) (hs : a.eval s = v) (hown : W.ownsRow base 29 2 v l.length (flat l))
    (b : Nat) (f t : Int) (hx : a.eval x = .slice (some ⟨b, 0, none⟩) 1 1) (hc1 : W.cell? ⟨b, 0, none⟩ = some (.int .i64 f)) (hc2 : W.cell? ⟨b, 1, none⟩ = some (.int .i64 t))
    (hbytes : (l.length + 1) * 16 ≤ 140737488355328) (hbase : base ≤ W.heap.size) (w0 : World) (hB : Below base w0 W)
    (h : ∀ v' w', w'.ownsRow base 29 2 v' (l ++ [(f, t)]).length (flat (l ++ [(f, t)])) → Below base w0 w' → W.heap.size ≤ w'.heap.size → W.grownBy w' v.ownBlock → wpList Tryd.prog ops Q rest (a.put o.dst v') w') : wpList Tryd.prog ops Q (o :: rest) a W := by
  refine app1 hgd s x _ ho base 29 Tryd.underlying22 infoSpan rfl (by decide) (by decide) v l.length (flat l) hs hown b [.int .i64 f, .int .i64 t] hx rfl (fun u hu => ?_) (fun j u hu => ?_) hbytes hbase w0 hB fun v' w' h2 h3 h4 h5 h6 => h v' w' ?_ h3 h4 h6
  · simp at hu; rcases hu with rfl | rfl <;> rfl
  · match j, hu with
    | 0, hu => simp at hu; subst hu; exact hc1
    | 1, hu => simp at hu; subst hu; exact hc2
  · rw [flat_append, List.length_append]; exact h2

set_option maxRecDepth 100000 in
theorem where_any (g : Nat) (lb : Array Value) (p : Int → Bool) (es : List Int) (ao : Option Addr) (cap : Nat) (w : World) (hes : intsAt w ao es) (eg : ∀ args w, (callFunc g args).run Tryd.prog w = .ok (.enter g args) w)
    (hp : PredB Tryd.prog g lb p w) (hlen : es.length * 16 ≤ 140737488355328) :
    Calls Tryd.prog 14 #[.slice ao es.length cap, .func (.func g) #[] lb] w fun e w' =>
      ∃ v, e = .returned v ∧ w'.ownsRow w.heap.size 29 2 v (whereL p es).length (flat (whereL p es)) ∧ Below w.heap.size w w' := by
  obtain ⟨i0, hi, hz0, hz1, hz2⟩ := info_parts infoSpan
  go_enter Tryd.func14, Tryd.ntmps14
  go_wp2
  go_loopw [5, 6, 12] (fun v o i wr => ∃ k : Nat, k ≤ es.length ∧ i = .int .i64 k ∧ o = .bool (whS p (es.take k)).2 ∧
      wr.ownsRow w.heap.size 29 2 v (whS p (es.take k)).1.length (flat (whS p (es.take k)).1) ∧ Below w.heap.size w wr) (fun _ _ i _ => es.length - (intOf i).toNat)
  case atStart => exact ⟨0, by omega, rfl, rfl, World.ownsRow_nil _ _ _ _, Below.refl _ _⟩
  case round =>
    obtain ⟨k, hk, rfl, rfl, hown, hB⟩ := hrel
    by_cases hlt : k < es.length
    · obtain ⟨b, o, x, g1, rfl, c1⟩ := intsAt_get hes hlt
      have hb : b < w.heap.size := World.block_lt_of_cell? w _ c1
      have c1 := (hB.cell (p := ⟨b, o + k, none⟩) hb).trans c1
      have hsn := whS_snoc p es k x g1.out
      have hl2 := whS_len p (es.take k)
      rw [List.length_take] at hl2
      have hop := whS_open p (es.take k)
      generalize whS p (es.take k) = s at *
      obtain ⟨out, op⟩ := s
      simp only at *
      have hpx := hp wr x hB
      cases hpv : p x
      · cases op
        · simp [whStep, hpv] at hsn
          have HS := Lib.hid hsn
          clear hsn hop
          rw [hpv] at hpx
          have HPV := Lib.hid hpv
          clear hpv
          go_wp2_with (go_at_fn g; refine hpx.mono ?_; rintro e w1 ⟨rfl, hb1⟩)
          refine ⟨⟨k + 1, by omega, by go_num, by rw [HS.out], by rw [HS.out]; exact ownsRow_below hown hb1, below_trans hB hB.size hb1⟩, by simp [intOf]; omega⟩
        · obtain ⟨m, a, rfl⟩ := snoc_of_ne out (hop rfl)
          simp [whStep, hpv, setLast_snoc] at hsn
          have HS := Lib.hid hsn
          clear hsn hop
          rw [hpv] at hpx
          have HPV := Lib.hid hpv
          clear hpv
          rw [List.length_append] at hown hl2
          obtain ⟨gb, gc, rfl⟩ := ownsRow_succ hown
          simp only [List.length_cons, List.length_nil, Nat.zero_add] at hl2
          have hm0 : 0 ≤ m.length := Nat.zero_le _
          go_wp2_with (go_at_fn g; refine hpx.mono ?_; rintro e w1 ⟨rfl, hb1⟩; have hown1 := ownsRow_below hown hb1; have hfr := hown1.frozenAt (m.length * 2 + 1); have hcl : w1.cell? ⟨gb, m.length * 2 + 1, none⟩ = some (.int .i64 a.2) := by (rw [hown1.cellAt (m.length * 2 + 1) (by omega), flat_append]; rw [List.getElem?_append_right (by rw [flat_length]; omega), flat_length]; simp [flat]))
          have hst := hown1.stored (m.length * 2 + 1) (.int .i64 x)
          rw [flat_setLast] at hst
          have hgl := (hown.lt gb rfl)
          refine ⟨⟨k + 1, by omega, by go_num, by rw [HS.out], by rw [HS.out]; simp only [List.length_append, List.length_cons, List.length_nil, Nat.zero_add]; exact hst.1, (below_trans hB hB.size hb1).setCell (p := ⟨gb, m.length * 2 + 1, none⟩) hgl.1 _⟩, by simp [intOf]; omega⟩
      · cases op
        · simp [whStep, hpv] at hsn
          have HS := Lib.hid hsn
          clear hsn hop
          rw [hpv] at hpx
          have HPV := Lib.hid hpv
          clear hpv
          go_wp2_with (first
            | (go_at_fn g; refine hpx.mono ?_; rintro e w1 ⟨rfl, hb1⟩; have hown1 := ownsRow_below hown hb1; have hs1 := hb1.size; have hs0 := hB.size)
            | (at_builtin; refine appSpan rfl _ _ rfl w.heap.size _ out rfl (hown1.alloc _) w1.heap.size x 0 rfl (by simp) (by simp) (by omega) (by simp; omega) w ((below_trans hB hB.size hb1).alloc (by omega) _) ?_; intro v' w2 hown2 hB2 hs2 hg2))
          refine ⟨⟨k + 1, by omega, by go_num, by rw [HS.out], by rw [HS.out]; exact hown2, hB2⟩, by simp [intOf]; omega⟩
        · simp [whStep, hpv] at hsn
          have HS := Lib.hid hsn
          clear hsn hop
          rw [hpv] at hpx
          have HPV := Lib.hid hpv
          clear hpv
          go_wp2_with (go_at_fn g; refine hpx.mono ?_; rintro e w1 ⟨rfl, hb1⟩)
          refine ⟨⟨k + 1, by omega, by go_num, by rw [HS.out], by rw [HS.out]; exact ownsRow_below hown hb1, below_trans hB hB.size hb1⟩, by simp [intOf]; omega⟩
    · have he : es.take k = es := List.take_of_length_le (by omega)
      rw [he] at hown
      have HE := Lib.hid he
      clear he
      go_wp2
      go_ret
      exact ⟨_, rfl, hown, hB⟩
end Go.Proofs.YtmmkjokgjhcdlaaDoor
