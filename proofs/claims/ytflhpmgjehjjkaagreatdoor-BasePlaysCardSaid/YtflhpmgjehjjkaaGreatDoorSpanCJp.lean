/- Contracts of the small functions on spans: span.Right, span.Has, span.Meet and the references' in, Right, Has: what each returns; nothing that was there before the call changes. There are no conditions. Slices of spans and of ints as lists; sameSpans. The reference's Where: as few spans as there can be of the times that a function says yes of. The function may be any that returns a bool and changes nothing. -/
import Derived.Deep.QuietTactic
import Derived.BigQuiet
import Derived.Shelf.Abstract
import Derived.Shelf.RegionOpen
import Derived.Test.YtflhpmgjehjjkaaGreatDoorKitJp
namespace Go.Proofs.YtflhpmgjehjjkaaGreatDoor
open Go.RowKit
def rightB (f t : Int) : Bool := decide (-1099511627776 <= f /\ t <= 1099511627776 /\ f < t)
def inB (n low high : Int) : Bool := decide (low <= n /\ n <= high)
theorem ret_bool {a b : Bool} (h : a = b) : Ending.returned (.bool a) = .returned (.bool b) := by rw [h]
theorem right_any (f t : Int) (w : World) :
  Calls Tryz.prog 135 #[.agg #[.int .i64 f, .int .i64 t]] w fun e w' => e = .returned (.bool (rightB f t)) /\ Below w.heap.size w w' := by
 by_cases h1 : -1099511627776 <= f
 · by_cases h2 : t <= 1099511627776
   · by_cases h3 : f < t
     · go_enter Tryz.func135, Tryz.ntmps135
       go_wp2
       go_ret
       exact ⟨ret_bool (decide_eq_true (by omega)).symm, (Below.refl _ _).alloc (Nat.le_refl _) _⟩
     · go_enter Tryz.func135, Tryz.ntmps135
       go_wp2
       go_ret
       exact ⟨ret_bool (decide_eq_false (by omega)).symm, (Below.refl _ _).alloc (Nat.le_refl _) _⟩
   · go_enter Tryz.func135, Tryz.ntmps135
     go_wp2
     go_ret
     exact ⟨ret_bool (decide_eq_false (by omega)).symm, (Below.refl _ _).alloc (Nat.le_refl _) _⟩
 · go_enter Tryz.func135, Tryz.ntmps135
   go_wp2
   go_ret
   exact ⟨ret_bool (decide_eq_false (by omega)).symm, (Below.refl _ _).alloc (Nat.le_refl _) _⟩
theorem rhas_any (f t x : Int) (w : World) :
  Calls Tryz.prog 119 #[.agg #[.int .i64 f, .int .i64 t], .int .i64 x] w fun e w' => e = .returned (.bool (hasB f t x)) /\ Below w.heap.size w w' := by
 by_cases h1 : f <= x
 · by_cases h2 : x < t
   · go_enter Tryz.func119, Tryz.ntmps119
     go_wp2
     go_ret
     exact ⟨ret_bool (decide_eq_true (by omega)).symm, (Below.refl _ _).alloc (Nat.le_refl _) _⟩
   · go_enter Tryz.func119, Tryz.ntmps119
     go_wp2
     go_ret
     exact ⟨ret_bool (decide_eq_false (by omega)).symm, (Below.refl _ _).alloc (Nat.le_refl _) _⟩
 · go_enter Tryz.func119, Tryz.ntmps119
   go_wp2
   go_ret
   exact ⟨ret_bool (decide_eq_false (by omega)).symm, (Below.refl _ _).alloc (Nat.le_refl _) _⟩
theorem in_any (n low high : Int) (w : World) :
  Calls Tryz.prog 66 #[.int .i64 n, .int .i64 low, .int .i64 high] w fun e w' => e = .returned (.bool (inB n low high)) /\ w = w' := by
 by_cases h1 : low <= n
 · by_cases h2 : n <= high
   · go_enter Tryz.func66, Tryz.ntmps66
     go_wp2
     go_ret
     exact ⟨ret_bool (decide_eq_true (by omega)).symm, rfl⟩
   · go_enter Tryz.func66, Tryz.ntmps66
     go_wp2
     go_ret
     exact ⟨ret_bool (decide_eq_false (by omega)).symm, rfl⟩
 · go_enter Tryz.func66, Tryz.ntmps66
   go_wp2
   go_ret
   exact ⟨ret_bool (decide_eq_false (by omega)).symm, rfl⟩
theorem rright_any (f t : Int) (w : World) :
  Calls Tryz.prog 133 #[.agg #[.int .i64 f, .int .i64 t]] w fun e w' => e = .returned (.bool (rightB f t)) /\ Below w.heap.size w w' := by
 by_cases h1 : -1099511627776 <= f /\ f <= 1099511627776
 · have e1 : inB f (-1099511627776) 1099511627776 = true := decide_eq_true h1
   by_cases h2 : -1099511627776 <= t /\ t <= 1099511627776
   · have e2 : inB t (-1099511627776) 1099511627776 = true := decide_eq_true h2
     by_cases h3 : f < t
     · have e3 : rightB f t = true := decide_eq_true (by omega)
       clear h1 h2
       go_enter Tryz.func133, Tryz.ntmps133
       go_wp2_with (go_at_call 66; refine (in_any _ _ _ _).mono ?_; rintro e w' ⟨rfl, rfl⟩)
       go_ret
       exact ⟨ret_bool e3.symm, (Below.refl _ _).alloc (Nat.le_refl _) _⟩
     · have e3 : rightB f t = false := decide_eq_false (by omega)
       clear h1 h2
       go_enter Tryz.func133, Tryz.ntmps133
       go_wp2_with (go_at_call 66; refine (in_any _ _ _ _).mono ?_; rintro e w' ⟨rfl, rfl⟩)
       go_ret
       exact ⟨ret_bool (by rw [e3]; exact decide_eq_false (by omega)), (Below.refl _ _).alloc (Nat.le_refl _) _⟩
   · have e2 : inB t (-1099511627776) 1099511627776 = false := decide_eq_false h2
     have e3 : rightB f t = false := decide_eq_false (by omega)
     clear h1 h2
     go_enter Tryz.func133, Tryz.ntmps133
     go_wp2_with (go_at_call 66; refine (in_any _ _ _ _).mono ?_; rintro e w' ⟨rfl, rfl⟩)
     go_ret
     exact ⟨ret_bool e3.symm, (Below.refl _ _).alloc (Nat.le_refl _) _⟩
 · have e1 : inB f (-1099511627776) 1099511627776 = false := decide_eq_false h1
   have e3 : rightB f t = false := decide_eq_false (by omega)
   clear h1
   go_enter Tryz.func133, Tryz.ntmps133
   go_wp2_with (go_at_call 66; refine (in_any _ _ _ _).mono ?_; rintro e w' ⟨rfl, rfl⟩)
   go_ret
   exact ⟨ret_bool e3.symm, (Below.refl _ _).alloc (Nat.le_refl _) _⟩
theorem meet_yes (a b c d : Int) (w : World) (h : imax a c < imin b d) :
  Calls Tryz.prog 143 #[.agg #[.int .i64 a, .int .i64 b], .agg #[.int .i64 c, .int .i64 d]] w fun e w' =>
   e = .returned (.tuple #[.agg #[.int .i64 (imax a c), .int .i64 (imin b d)], .bool true]) /\ Below w.heap.size w w' := by
 have HB : ∀ o1 o2 o3 o4, Below w.heap.size w ((((w.alloc o1).alloc o2).alloc o3).alloc o4) := fun o1 o2 o3 o4 =>
  ((((Below.refl _ _).alloc (Nat.le_refl _) _).alloc (by simp) _).alloc (by simp; omega) _).alloc (by simp; omega) _
 go_enter Tryz.func143, Tryz.ntmps143
 go_wp2
 exact bodyPost_ret (v := .tuple #[.agg #[.int .i64 (imax a c), .int .i64 (imin b d)], .bool true]) (by simp [results, Tryz.results143, go_sem]) rfl ⟨rfl, HB _ _ _ _⟩
theorem meet_no (a b c d : Int) (w : World) (h : imin b d <= imax a c) :
  Calls Tryz.prog 143 #[.agg #[.int .i64 a, .int .i64 b], .agg #[.int .i64 c, .int .i64 d]] w fun e w' =>
   e = .returned (.tuple #[.agg #[.int .i64 0, .int .i64 0], .bool false]) /\ Below w.heap.size w w' := by
 have HB : ∀ o1 o2 o3 o4, Below w.heap.size w ((((w.alloc o1).alloc o2).alloc o3).alloc o4) := fun o1 o2 o3 o4 =>
  ((((Below.refl _ _).alloc (Nat.le_refl _) _).alloc (by simp) _).alloc (by simp; omega) _).alloc (by simp; omega) _
 go_enter Tryz.func143, Tryz.ntmps143
 go_wp2
 exact bodyPost_ret (v := .tuple #[.agg #[.int .i64 0, .int .i64 0], .bool false]) (by simp [results, Tryz.results143, go_sem]) rfl ⟨rfl, HB _ _ _ _⟩
def spansAt (w : World) (ao : Option Addr) (l : List (Int × Int)) : Prop :=
 ∀ i x y, l[i]? = some (x, y) -> ∃ b o, ao = some ⟨b, o, none⟩ /\ w.cell? ⟨b, o + i * 2, none⟩ = some (.int .i64 x) /\ w.cell? ⟨b, o + i * 2 + 1, none⟩ = some (.int .i64 y)
theorem spansAt_get {w : World} {ao : Option Addr} {l : List (Int × Int)} (h : spansAt w ao l) {k : Nat} (hk : k < l.length) :
  ∃ b o x y, Hid (l[k]? = some (x, y)) /\ ao = some ⟨b, o, none⟩ /\ w.cell? ⟨b, o + k * 2, none⟩ = some (.int .i64 x) /\ w.cell? ⟨b, o + k * 2 + 1, none⟩ = some (.int .i64 y) := by
 obtain ⟨b, o, h1, h2, h3⟩ := h k l[k].1 l[k].2 (by simp [hk])
 exact ⟨b, o, l[k].1, l[k].2, (by show l[k]? = _; simp [hk]), h1, h2, h3⟩
section
variable (w : World) (a b c d : Int)
theorem span_fields : Tryz.prog.underlying 68 = some (.struct (Tryz.prog.fieldsOf 68)) := by kernel_rfl
theorem eqIn_span : (Op.equalIn 10000 68 (.agg #[.int .i64 a, .int .i64 b]) (.agg #[.int .i64 c, .int .i64 d])).run Tryz.prog w = .ok (a == c && b == d) w := by
 rw [run_equalIn_struct w 9999 _ _ _ span_fields (by kernel_rfl)]
 by_cases h1 : a = c <;> by_cases h2 : b = d <;> simp [go_sem, h1, h2]
@[go_sem high] theorem neq_span : (binOp .neq 68 (.agg #[.int .i64 a, .int .i64 b]) (.agg #[.int .i64 c, .int .i64 d])).run Tryz.prog w = .ok (.bool (!(a == c && b == d))) w := by
  rw [run_neq_struct, eqIn_span]; rfl
@[go_sem high] theorem eql_span : (binOp .eql 68 (.agg #[.int .i64 a, .int .i64 b]) (.agg #[.int .i64 c, .int .i64 d])).run Tryz.prog w = .ok (.bool (a == c && b == d)) w := by
  rw [run_eql_struct, eqIn_span]; rfl
end
end Go.Proofs.YtflhpmgjehjjkaaGreatDoor
namespace Go.Proofs.YtflhpmgjehjjkaaGreatDoor
open Go.RowKit Go.Shelf
def intsAt (w : World) (ao : Option Addr) (l : List Int) : Prop :=
 ∀ i x, l[i]? = some x -> ∃ b o, ao = some ⟨b, o, none⟩ /\ w.cell? ⟨b, o + i, none⟩ = some (.int .i64 x)
theorem intsAt_get {w : World} {ao : Option Addr} {l : List Int} (h : intsAt w ao l) {k : Nat} (hk : k < l.length) :
  ∃ b o x, Hid (l[k]? = some x) /\ ao = some ⟨b, o, none⟩ /\ w.cell? ⟨b, o + k, none⟩ = some (.int .i64 x) := by
 obtain ⟨b, o, h1, h2⟩ := h k l[k] (by simp [hk])
 exact ⟨b, o, l[k], (by show l[k]? = _; simp [hk]), h1, h2⟩
def flat (l : List (Int × Int)) : List Value := l.flatMap fun p => [.int .i64 p.1, .int .i64 p.2]
theorem flat_length (l : List (Int × Int)) : (flat l).length = l.length * 2 := by
 induction l with
 | nil => rfl
 | cons a l ih => simp only [flat, List.flatMap_cons, List.length_append, List.length_cons, List.length_nil] at ih ⊢; omega
theorem flat_append (l m : List (Int × Int)) : flat (l ++ m) = flat l ++ flat m := by simp [flat]
theorem infoSpan : (Tryz.prog.info? 68).map (fun i => (i.zero, i.size, i.bytes)) = some (some (.agg #[.int .i64 0, .int .i64 0]), 2, 16) := by kernel_rfl
theorem appSpan {W : World} {ops : Array Oper} {rest : List Oper} {o : Oper} {a : Act} {Q : Exit -> Act -> World -> Prop} (hgd : o.guard = none) (s x : Operand)
  (ho : o.op = .call { callee := .builtin .append, args := #[s, x], argTypes := #[182, 182] }) (base : Nat) (v : Value) (l : List (Int × Int)) (hs : a.eval s = v) (hown : W.ownsRow base 68 2 v l.length (flat l))
  (b : Nat) (f t : Int) (hx : a.eval x = .slice (some ⟨b, 0, none⟩) 1 1) (hc1 : W.cell? ⟨b, 0, none⟩ = some (.int .i64 f)) (hc2 : W.cell? ⟨b, 1, none⟩ = some (.int .i64 t))
  (hbytes : (l.length + 1) * 16 <= 140737488355328) (hbase : base <= W.heap.size) (w0 : World) (hB : Below base w0 W)
  (h : ∀ v' w', w'.ownsRow base 68 2 v' (l ++ [(f, t)]).length (flat (l ++ [(f, t)])) -> Below base w0 w' -> W.heap.size <= w'.heap.size -> W.grownBy w' v.ownBlock -> wpList Tryz.prog ops Q rest (a.put o.dst v') w') : wpList Tryz.prog ops Q (o :: rest) a W := by
 refine app1 hgd s x _ ho base 68 Tryz.underlying182 infoSpan rfl (by decide) (by decide) v l.length (flat l) hs hown b [.int .i64 f, .int .i64 t] hx rfl (fun u hu => ?_) (fun j u hu => ?_) hbytes hbase w0 hB fun v' w' h2 h3 h4 h5 h6 => h v' w' ?_ h3 h4 h6
 · simp at hu; rcases hu with rfl | rfl <;> rfl
 · match j, hu with
   | 0, hu => simp at hu; subst hu; exact hc1
   | 1, hu => simp at hu; subst hu; exact hc2
 · rw [flat_append, List.length_append]; exact h2
end Go.Proofs.YtflhpmgjehjjkaaGreatDoor
