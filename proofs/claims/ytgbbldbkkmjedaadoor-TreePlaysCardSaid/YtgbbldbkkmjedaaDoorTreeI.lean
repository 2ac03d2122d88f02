/- A Tree: its root, and the spans by number. Many, and Add where all is well. -/
import Derived.Test.YtgbbldbkkmjedaaDoorTreeH
import Derived.Test.YtgbbldbkkmjedaaDoorMapS
import Derived.Test.YtgbbldbkkmjedaaDoorTreeY
import Derived.Test.YtgbbldbkkmjedaaDoorCls
namespace Go.Proofs.YtgbbldbkkmjedaaDoor
open Go.RowKit Go.Deep Go.Shelf Go.Sort Go.Maps

structure TreeAt (w : World) (tb : Nat) (L : List It) (t : BT Nd) (mb : Option Nat) : Prop where
  cells : w.heap[tb]? = some (.cells #[t.ptr, .map mb] 26 (0, 0))
  tin : treeIn w t
  sep : (blocksT t).Nodup
  fit : FitT t
  bal : BalT t
  srt : SrtT (itemsT t)
  ids : ((itemsT t).map (·.2.1)).Nodup
  perm : (itemsT t).Perm L
  mp : mapAt w L mb
  nt : tb ∉ blocksT t
  nm : ∀ m, mb = some m → m ∉ blocksT t ∧ m ≠ tb
/-- All blocks of a Tree. -/
def foot (tb : Nat) (t : BT Nd) (mb : Option Nat) (k : Nat) : Prop := k = tb ∨ k ∈ blocksT t ∨ mb = some k
theorem TreeAt.lt {w : World} {tb : Nat} {L : List It} {t : BT Nd} {mb : Option Nat} (h : TreeAt w tb L t mb) : ∀ k, foot tb t mb k → k < w.heap.size := by
  intro k hk
  rcases hk with rfl | hk | rfl
  · exact lt_of_block h.cells
  · exact h.tin.lt k hk
  · obtain ⟨D, h1, _⟩ := h.mp; exact h1.lt
theorem TreeAt.frame {F : Nat → Prop} {w w' : World} {tb : Nat} {L : List It} {t : BT Nd} {mb : Option Nat} (h : TreeAt w tb L t mb) (hf : Fr F w w') (hn : ∀ k, foot tb t mb k → ¬ F k) : TreeAt w' tb L t mb :=
  ⟨hf.keeps h.cells (hn _ (Or.inl rfl)), treeIn.frame hf h.tin (fun k hk => hn k (Or.inr (Or.inl hk))), h.sep, h.fit, h.bal, h.srt, h.ids, h.perm, h.mp.frame hf (fun m e => hn m (Or.inr (Or.inr e))), h.nt, h.nm⟩
theorem TreeAt.below {w w' : World} {tb : Nat} {L : List It} {t : BT Nd} {mb : Option Nat} (h : TreeAt w tb L t mb) (hb : Below w.heap.size w w') : TreeAt w' tb L t mb :=
  h.frame (F := fun _ => False) (Fr.new hb) (fun _ _ e => e)
theorem TreeAt.any_ids {w : World} {tb : Nat} {L : List It} {t : BT Nd} {mb : Option Nat} (h : TreeAt w tb L t mb) (id : Int) : (itemsT t).any (fun x => x.2.1 == id) = L.any (fun x => x.2.1 == id) := by
  rw [Bool.eq_iff_iff]; simp only [List.any_eq_true]
  exact ⟨fun ⟨x, hx, e⟩ => ⟨x, h.perm.mem_iff.1 hx, e⟩, fun ⟨x, hx, e⟩ => ⟨x, h.perm.mem_iff.2 hx, e⟩⟩
theorem tree_cells {w : World} {tb : Nat} {x y : Value} (h : w.heap[tb]? = some (.cells #[x, y] 26 (0, 0))) : w.cell? ⟨tb, 0, none⟩ = some x ∧ w.cell? ⟨tb, 1, none⟩ = some y ∧ w.frozen? ⟨tb, 0, none⟩ = false ∧ w.frozen? ⟨tb, 1, none⟩ = false :=
  ⟨block_cell h 0, block_cell h 1, block_free h 0, block_free h 1⟩
theorem tree_set0 {w : World} {tb : Nat} {x y : Value} (h : w.heap[tb]? = some (.cells #[x, y] 26 (0, 0))) (v : Value) : (w.setCell ⟨tb, 0, none⟩ v).heap[tb]? = some (.cells #[v, y] 26 (0, 0)) := block_set h 0 v
theorem tree_set1 {w : World} {tb : Nat} {x y : Value} (h : w.heap[tb]? = some (.cells #[x, y] 26 (0, 0))) (v : Value) : (w.setCell ⟨tb, 1, none⟩ v).heap[tb]? = some (.cells #[x, v] 26 (0, 0)) := block_set h 1 v

theorem lookNil (id : Int) (hi : i64 id) (w : World) : (Instr.lookup 24 (.map none) (.int .i64 id) true).run Tryd.prog w = .ok (.tuple #[.agg #[.int .i64 0, .int .i64 0], .bool false]) w :=
  Maps.look_nil true intLaw Tryd.underlying24 (zeroSpan w) (keyOf_int_mk Tryd.underlying3 (wfI hi))
theorem lenNil (ty : TypeId) (w : World) : (Builtin.len_ #[24] ty #[.map none]).run Tryd.prog w = .ok (.int .i64 0) w := Maps.len_nil Tryd.underlying24 ty

theorem many_any (w : World) (tb : Nat) (L : List It) (t : BT Nd) (mb : Option Nat) (h : TreeAt w tb L t mb) :
    Calls Tryd.prog 19 #[.pointer (some ⟨tb, 0, none⟩)] w fun e w' => e = .returned (.int .i64 (L.length : Int)) ∧ w = w' := by
  obtain ⟨c0, c1, _, _⟩ := tree_cells h.cells
  cases mb with
  | none =>
    have hl : L = [] := h.mp
    subst hl
    have hln := fun w => lenNil 3 w
    go_enter Tryd.func19, Tryd.ntmps19
    go_wp2
    go_ret
    exact ⟨rfl, rfl⟩
  | some m =>
    obtain ⟨D, hown, hD⟩ := h.mp
    have hsz := hD.size
    have HS := Lib.hid hsz
    have HD := Lib.hid hD
    clear hsz hD h
    go_enter Tryd.func19, Tryd.ntmps19
    go_wp2_with (at_len; refine wpList_len_own _ rfl _ 24 rfl 3 34 Tryd.underlying24 _ m L.length D rfl hown ?_)
    go_ret
    exact ⟨by rw [← HS.out]; rfl, rfl⟩
end Go.Proofs.YtgbbldbkkmjedaaDoor
