/- The document's tree: where a number stands. -/
import Derived.Test.YtgbbldbkkmjedaaDoorRefA
import Derived.Test.YtgbbldbkkmjedaaDoorBeside
import Derived.Deep.QuietTactic
namespace Go.Proofs.YtgbbldbkkmjedaaDoor
open Go.RowKit Go.Shelf Go.Sort

theorem sorted_le {l : List Int} (h : l.Pairwise (· < ·)) (x : Int) : ∀ a b, a ≤ b → b < l.toArray.size → decide (x ≤ l.toArray[a]!) = true → decide (x ≤ l.toArray[b]!) = true := by
  intro a b hab hb hx
  have hb' : b < l.length := by simpa using hb
  have ha' : a < l.length := by omega
  simp only [decide_eq_true_eq] at *
  rw [getElem!_pos l.toArray a (by simpa using ha')] at hx
  rw [getElem!_pos l.toArray b (by simpa using hb')]
  simp only [List.getElem_toArray] at *
  rcases Nat.lt_or_ge a b with h1 | h1
  · have := List.pairwise_iff_getElem.1 h a b ha' hb' h1
    omega
  · have : a = b := by omega
    subst this; exact hx
/-- sort.SearchInts at rising numbers. -/
theorem searchInts_any (l : List Int) (id : Int) (ao : Option Addr) (cap : Nat) (w : World) (hl : intsAt w ao l) (hs : l.Pairwise (· < ·)) (hlen : l.length < 4611686018427387904) :
    Calls Tryd.prog 91 #[.slice ao l.length cap, .int .i64 id] w fun e w' => e = .returned (.int .i64 ((l.countP (fun y => !decide (id ≤ y)) : Nat) : Int)) ∧ Below w.heap.size w w' := by
  cases l with
  | nil => exact (Any.sort_SearchInts_none Tryd.searchInts ao cap id w)
  | cons x l =>
    obtain ⟨b, o, rfl, hc⟩ := hl 0 x rfl
    have hb : b < w.heap.size := World.block_lt_of_cell? w _ hc
    have := Any.sort_SearchInts Tryd.searchInts b o cap (x :: l).toArray id w (fun i hi => by
      have hi' : i < (x :: l).length := by simpa using hi
      obtain ⟨b', o', e', hc'⟩ := hl i (x :: l)[i] (List.getElem?_eq_getElem hi')
      cases e'
      rw [getElem!_pos _ i hi]; simpa using hc') hb (by simpa using hlen) (sorted_le hs id)
    change Calls Tryd.prog 91 _ _ _ at this
    simpa using this

theorem idsR_pos {R : List It} (id : Int) : ((idsR R).countP (fun y => !decide (id ≤ y)) : Nat) = posR R id := rfl
theorem getElem?_idsR {R : List It} {k : Nat} {x : Int} : (idsR R)[k]? = some x ↔ ∃ y, R[k]? = some y ∧ y.2.1 = x := by simp [idsR]
set_option maxRecDepth 100000 in
set_option maxHeartbeats 1000000 in
theorem rfind_any (id : Int) (w : World) (base wb : Nat) (R : List It) (vi vs : Value) (h : RefAt w base wb R vi vs) (hs : SrtI R) (hlen : R.length < 1000000) :
    Calls Tryd.prog 54 #[.pointer (some ⟨wb, 0, none⟩), .int .i64 id] w fun e w' => e = .returned (.tuple #[.int .i64 (posR R id : Int), .bool (hasR R id)]) ∧ Below w.heap.size w w' := by
  obtain ⟨c0, _, _, _⟩ := rt_cells h.cells
  obtain ⟨ao, cap, rfl, hi⟩ := ownsRow_ints h.ids
  have hwl : wb < w.heap.size := Nat.lt_of_lt_of_le h.lt h.hb
  have hS := searchInts_any (idsR R) id ao cap w hi (idsR_sorted hs) (by rw [idsR_length]; omega)
  rw [idsR_pos, idsR_length] at hS
  rw [idsR_length] at c0
  have hp := posR_le R id
  have hh := hasR_pos hs id
  have HI := Lib.hid hi
  rcases hh with ⟨e1, x, e2, e3⟩ | ⟨e1, e2⟩
  · obtain ⟨b, o, rfl, hc⟩ := hi (posR R id) id (getElem?_idsR.2 ⟨x, e2, e3⟩)
    have hbl : b < w.heap.size := World.block_lt_of_cell? w _ hc
    have hk : posR R id < R.length := (List.getElem?_eq_some_iff.1 e2).1
    rw [e1]
    generalize posR R id = k at *
    have HE := Lib.hid e3
    clear h hs e1 e2 e3 hi
    go_enter Tryd.func54, Tryd.ntmps54
    go_wp2_with (go_at_call 91; refine hS.mono ?_; rintro e w1 ⟨rfl, b1⟩)
    have c0' := below_cell b1 hwl c0
    have hc' := below_cell b1 hbl hc
    have HB := Lib.hid b1
    clear b1 c0 hc hS
    go_wp2_with fail
    go_quiet (fail)
    go_wp2_with fail
    go_ret2
    exact ⟨rfl, below_drewN HB.out _⟩
  · rw [e1]
    rcases Nat.lt_or_ge (posR R id) R.length with hk | hk
    · obtain ⟨x, hx⟩ : ∃ x, R[posR R id]? = some x := ⟨_, List.getElem?_eq_getElem hk⟩
      have hne := e2 x hx
      obtain ⟨b, o, rfl, hc⟩ := hi (posR R id) x.2.1 (getElem?_idsR.2 ⟨x, hx, rfl⟩)
      have hbl : b < w.heap.size := World.block_lt_of_cell? w _ hc
      have hd : (x.2.1 == id) = false := by simpa using hne
      generalize posR R id = k at *
      generalize x.2.1 = y at *
      clear h hs e1 e2 hx hi hne
      go_enter Tryd.func54, Tryd.ntmps54
      go_wp2_with (go_at_call 91; refine hS.mono ?_; rintro e w1 ⟨rfl, b1⟩)
      have c0' := below_cell b1 hwl c0
      have hc' := below_cell b1 hbl hc
      have HB := Lib.hid b1
      clear b1 c0 hc hS
      go_wp2_with fail
      go_quiet (fail)
      go_wp2_with fail
      go_ret2
      exact ⟨rfl, below_drewN HB.out _⟩
    · have hk : posR R id = R.length := by omega
      rw [hk]
      rw [hk] at hS
      have hd : decide ((R.length : Int) < (R.length : Int)) = false := by simp
      clear h hs e1 e2 hi hp hk
      go_enter Tryd.func54, Tryd.ntmps54
      go_wp2_with (go_at_call 91; refine hS.mono ?_; rintro e w1 ⟨rfl, b1⟩)
      have c0' := below_cell b1 hwl c0
      have HB := Lib.hid b1
      clear b1 c0 hS
      go_wp2_with fail
      go_quiet (fail)
      go_wp2_with fail
      go_ret2
      exact ⟨rfl, below_drewN HB.out _⟩
end Go.Proofs.YtgbbldbkkmjedaaDoor
