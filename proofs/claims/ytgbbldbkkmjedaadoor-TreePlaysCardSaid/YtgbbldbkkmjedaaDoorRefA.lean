/- The document's tree: two slices, by rising numbers; where a number stands. -/
import Derived.Test.YtgbbldbkkmjedaaDoorRowB
import Derived.Test.YtgbbldbkkmjedaaDoorApp
import Derived.Test.YtgbbldbkkmjedaaDoorRefP
import Derived.Test.YtgbbldbkkmjedaaDoorCls
namespace Go.Proofs.YtgbbldbkkmjedaaDoor
open Go.RowKit Go.Shelf Go.Sort

structure RefAt (w : World) (base wb : Nat) (R : List It) (vi vs : Value) : Prop where
  cells : w.heap[wb]? = some (.cells #[vi, vs] 31 (0, 0))
  ids : w.ownsRow base 3 1 vi R.length ((idsR R).map (Value.int .i64))
  sps : w.ownsRow base 34 2 vs R.length (flat (spsR R))
  lt : wb < base
  hb : base ≤ w.heap.size
  nz : (vi = .slice none 0 0 ∧ vs = .slice none 0 0) ∨ (vi ≠ .slice none 0 0 ∧ vs ≠ .slice none 0 0)
def rfoot (wb : Nat) (vi vs : Value) (k : Nat) : Prop := k = wb ∨ vi.ownBlock = some k ∨ vs.ownBlock = some k
theorem ownsRow_fr {F : Nat → Prop} {w w' : World} {base : Nat} {e : TypeId} {size : Nat} {v : Value} {n : Nat} {xs : List Value} (h : w.ownsRow base e size v n xs) (hf : Fr F w w') (hn : ∀ k, v.ownBlock = some k → ¬ F k) : w'.ownsRow base e size v n xs :=
  ⟨h.1, h.2.imp id fun ⟨g, cap, cur, h1, h2, h3, h4⟩ => ⟨g, cap, cur, h1, h2, hf.keeps h3 (hn g (by rw [h1]; rfl)), h4⟩⟩
theorem RefAt.frame {F : Nat → Prop} {w w' : World} {base wb : Nat} {R : List It} {vi vs : Value} (h : RefAt w base wb R vi vs) (hf : Fr F w w') (hn : ∀ k, rfoot wb vi vs k → ¬ F k) : RefAt w' base wb R vi vs :=
  ⟨hf.keeps h.cells (hn _ (Or.inl rfl)), ownsRow_fr h.ids hf (fun k e => hn k (Or.inr (Or.inl e))), ownsRow_fr h.sps hf (fun k e => hn k (Or.inr (Or.inr e))), h.lt, Nat.le_trans h.hb hf.size, h.nz⟩
theorem RefAt.below {w w' : World} {base wb : Nat} {R : List It} {vi vs : Value} (h : RefAt w base wb R vi vs) (hb : Below w.heap.size w w') : RefAt w' base wb R vi vs :=
  h.frame (F := fun _ => False) (Fr.new hb) (fun _ _ e => e)
theorem RefAt.foot_lt {w : World} {base wb : Nat} {R : List It} {vi vs : Value} (h : RefAt w base wb R vi vs) : ∀ k, rfoot wb vi vs k → k < w.heap.size := by
  rintro k (rfl | e | e)
  · exact Nat.lt_of_lt_of_le h.lt h.hb
  · exact (h.ids.lt k e).2
  · exact (h.sps.lt k e).2
theorem rt_cells {w : World} {wb : Nat} {x y : Value} (h : w.heap[wb]? = some (.cells #[x, y] 31 (0, 0))) : w.cell? ⟨wb, 0, none⟩ = some x ∧ w.cell? ⟨wb, 1, none⟩ = some y ∧ w.frozen? ⟨wb, 0, none⟩ = false ∧ w.frozen? ⟨wb, 1, none⟩ = false :=
  ⟨block_cell h 0, block_cell h 1, block_free h 0, block_free h 1⟩

end Go.Proofs.YtgbbldbkkmjedaaDoor
