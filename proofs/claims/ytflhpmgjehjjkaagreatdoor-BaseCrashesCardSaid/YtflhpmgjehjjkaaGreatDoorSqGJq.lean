/- sort.Slice of the reference's keys, by a less that lays blocks. -/
import Derived.Shelf.SlSortFuncK.WholeK
import Derived.Deep.DeepCutAuto
import Derived.Deep.CutBlock
import Derived.Sort.WalkC4
import Derived.Sort.LotD4
import Derived.Sort.Walk11
import Derived.Sort.WalkA6
import Derived.Sort.WalkB3
import Derived.Shelf.GgSortFunc.Tiny
import Derived.Test.YtflhpmgjehjjkaaGreatDoorFrameJq
import Derived.Test.YtflhpmgjehjjkaaGreatDoorShelfJq
import Derived.Test.YtflhpmgjehjjkaaGreatDoorFcGJq
import Derived.Test.YtflhpmgjehjjkaaGreatDoorPwMJq
import Derived.Test.YtflhpmgjehjjkaaGreatDoorTreeRJq
namespace Go.Proofs.YtflhpmgjehjjkaaGreatDoor
open Go.RowKit Go.Shelf Go.Sort Go.Lib Go.Deep

/-- A block of cells stays one of as many cells. -/
def Shp (blk : Nat) (w W : World) : Prop := ∀ cur t fz, w.heap[blk]? = some (.cells cur t fz) → ∃ cur' : Array Value, W.heap[blk]? = some (.cells cur' t fz) ∧ cur'.size = cur.size
theorem Shp.refl (blk : Nat) (w : World) : Shp blk w w := fun cur _ _ h => ⟨cur, h, rfl⟩
theorem Shp.trans {blk : Nat} {a b c : World} (h : Shp blk a b) (k : Shp blk b c) : Shp blk a c := fun cur t fz h0 => by
  obtain ⟨c1, h1, e1⟩ := h cur t fz h0
  obtain ⟨c2, h2, e2⟩ := k c1 t fz h1
  exact ⟨c2, h2, e2.trans e1⟩
theorem Shp.same {blk : Nat} {w W : World} (h : W.heap[blk]? = w.heap[blk]?) : Shp blk w W := fun cur _ _ h0 => ⟨cur, h.trans h0, rfl⟩
theorem Shp.set {blk : Nat} {w W : World} (h : Shp blk w W) (i : Nat) (v : Value) : Shp blk w (W.setCell ⟨blk, i, none⟩ v) := h.trans fun cur t fz h0 => ⟨_, block_set h0 i v, by simp⟩
theorem Shp.setCells {blk : Nat} {a : World} : ∀ (vs : List Value) (o : Nat) (w : World), Shp blk a w → Shp blk a (w.setCells blk o vs)
  | [], _, _, h => h
  | v :: r, o, w, h => by rw [World.setCells]; exact Shp.setCells r (o + 1) _ (h.set o v)
/-- The row holds d; nothing else of w has turned. -/
structure At (blk : Nat) (w W : World) (d : Array KeyP) : Prop where
  row : HoldsK encK 4 W blk 0 d
  fr : Fr (· = blk) w W
  lt : blk < w.heap.size
  sh : Shp blk w W
theorem holdsK_same {W W' : World} {blk : Nat} {d : Array KeyP} (h : HoldsK encK 4 W blk 0 d) (hb : W'.heap[blk]? = W.heap[blk]?) : HoldsK encK 4 W' blk 0 d := fun j hj => by
  have := h j hj
  simp only [World.cell?, World.frozen?] at this ⊢
  rw [hb]; exact this
theorem At.start {blk : Nat} {w : World} {d : Array KeyP} (h : HoldsK encK 4 w blk 0 d) (hb : blk < w.heap.size) : At blk w w d := ⟨h, Fr.refl _ _, hb, Shp.refl _ _⟩
theorem At.lt' {blk : Nat} {w W : World} {d : Array KeyP} (h : At blk w W d) : blk < W.heap.size := Nat.lt_of_lt_of_le h.lt h.fr.size
theorem At.trans {blk : Nat} {w W X : World} {d d' : Array KeyP} (h : At blk w W d) (k : At blk W X d') : At blk w X d' := ⟨k.row, h.fr.trans k.fr, h.lt, h.sh.trans k.sh⟩
theorem At.below {blk : Nat} {w W X : World} {d : Array KeyP} (h : At blk w W d) (hb : Below W.heap.size W X) : At blk w X d :=
  ⟨holdsK_same h.row (hb.block _ h.lt'), h.fr.trans (Fr.new hb), h.lt, h.sh.trans (Shp.same (hb.block _ h.lt'))⟩
theorem At.cell {blk : Nat} {w W : World} {d : Array KeyP} (h : At blk w W d) {b o : Nat} {v : Value} (hne : b ≠ blk) (hb : b < w.heap.size) (hc : w.cell? ⟨b, o, none⟩ = some v) : W.cell? ⟨b, o, none⟩ = some v :=
  (World.cell?_of_block (a := ⟨b, o, none⟩) (h.fr.block b hb hne)).trans hc
theorem Fr.setCells {F : Nat → Prop} {a : World} {b : Nat} (hb : F b) : ∀ (vs : List Value) (o : Nat) (w : World), Fr F a w → Fr F a (w.setCells b o vs)
  | [], _, _, h => h
  | v :: r, o, w, h => by rw [World.setCells]; exact Fr.setCells hb r (o + 1) _ (h.setCell (p := ⟨b, o, none⟩) (fun _ => hb) v)
theorem At.swap {blk : Nat} {w W : World} {d : Array KeyP} (h : At blk w W d) {i j : Nat} (hi : i < d.size) (hj : j < d.size) :
    At blk w ((W.setCells blk (0 + i * 4) (encK d[j]!)).setCells blk (0 + j * 4) (encK d[i]!)) (swp d i j) := by
  refine ⟨?_, Fr.setCells (F := (· = blk)) rfl _ _ _ (Fr.setCells (F := (· = blk)) rfl _ _ _ h.fr), h.lt, Shp.setCells _ _ _ (Shp.setCells _ _ _ h.sh)⟩
  have e := putRowK_swp encK 4 (fun _ => rfl) W blk 0 d i j hi hj
  rw [putRowK_self _ _ _ _ _ _ h.row] at e
  rw [e]
  exact holdsK_putRowK encK 4 W blk 0 d _ h.row (size_swp _ _ _)
/-- What is asked of the two function values, the caller's world being w. -/
structure SX (g sf blk : Nat) (lb sb : Array Value) (n : Nat) (w : World) : Prop where
  enter : ∀ args X, (callFunc g args).run Tryz.prog X = .ok (.enter g args) X
  less : ∀ X d, At blk w X d → d.size = n → ∀ i j : Nat, i < n → j < n → Calls Tryz.prog g (#[.int .i64 i, .int .i64 j] ++ lb) X fun e X' => e = .returned (.bool (keyLess d[i]! d[j]!)) ∧ Below X.heap.size X X'
  swap : SwapSwapsK Tryz.prog sf sb encK 4 blk 0 n
  size : n < 4611686018427387904
theorem SX.on {g sf blk n : Nat} {lb sb : Array Value} {w W : World} {d : Array KeyP} (h : SX g sf blk lb sb n w) (k : At blk w W d) : SX g sf blk lb sb n W :=
  ⟨h.enter, fun X d' hX => h.less X d' (k.trans hX), h.swap, h.size⟩
/-- The box of 'data': its two cells, in whatever world of the sort. -/
structure Bx (B g sf : Nat) (lb sb : Array Value) (W : World) : Prop where
  c0 : W.cell? ⟨B, 0, none⟩ = some (.func (.func g) #[] lb)
  c1 : W.cell? ⟨B, 1, none⟩ = some (.func (.func sf) #[] sb)
  lt : B < W.heap.size
theorem Bx.new (g sf : Nat) (lb sb : Array Value) (w : World) : Bx w.heap.size g sf lb sb (w.alloc (.cells #[.func (.func g) #[] lb, .func (.func sf) #[] sb] 277)) := ⟨by simp, by simp, by simp⟩
theorem Bx.on {B g sf blk : Nat} {lb sb : Array Value} {w W : World} {d : Array KeyP} (h : Bx B g sf lb sb w) (k : At blk w W d) (hne : B ≠ blk) : Bx B g sf lb sb W := ⟨k.cell hne h.lt h.c0, k.cell hne h.lt h.c1, Nat.lt_of_lt_of_le h.lt k.fr.size⟩
theorem Bx.below {B g sf : Nat} {lb sb : Array Value} {W X : World} (h : Bx B g sf lb sb W) (b : Below W.heap.size W X) : Bx B g sf lb sb X := ⟨below_cell b h.lt h.c0, below_cell b h.lt h.c1, Nat.lt_of_lt_of_le h.lt b.size⟩
end Go.Proofs.YtflhpmgjehjjkaaGreatDoor

namespace Go.Proofs.YtflhpmgjehjjkaaGreatDoor
open Go.RowKit Go.Shelf Go.Sort Go.Lib Go.Deep


end Go.Proofs.YtflhpmgjehjjkaaGreatDoor

namespace Go.Proofs.YtflhpmgjehjjkaaGreatDoor
open Go.RowKit Go.Shelf Go.Sort Go.Lib Go.Deep

theorem At.ctr {blk c : Nat} {w X Y : World} {d : Array KeyP} (h : At blk w X d) (k : Fr (· = c) X Y) (hc : w.heap.size ≤ c) : At blk w Y d :=
  ⟨holdsK_same h.row (k.block blk h.lt' (by have := h.lt; intro e; omega)), h.fr.next k (fun i hi e => by have := h.lt; omega), h.lt, h.sh.trans (Shp.same (k.block blk h.lt' (by have := h.lt; intro e; omega)))⟩
theorem Bx.ctr {B g sf c : Nat} {lb sb : Array Value} {X Y : World} (h : Bx B g sf lb sb X) (k : Fr (· = c) X Y) (hne : B ≠ c) : Bx B g sf lb sb Y :=
  ⟨(World.cell?_of_block (a := ⟨B, 0, none⟩) (k.block B h.lt hne)).trans h.c0, (World.cell?_of_block (a := ⟨B, 1, none⟩) (k.block B h.lt hne)).trans h.c1, Nat.lt_of_lt_of_le h.lt k.size⟩
/-- The count of swaps. -/
def Ct (c s : Nat) (X : World) : Prop := X.heap[c]? = some (.cells #[.int .i64 s] 3 (0, 0))
theorem Ct.below {c s : Nat} {X Y : World} (h : Ct c s X) (b : Below X.heap.size X Y) : Ct c s Y := (b.block c (lt_of_block h)).trans h
theorem Ct.cell {c s : Nat} {X : World} (h : Ct c s X) : X.cell? ⟨c, 0, none⟩ = some (.int .i64 s) := block_cell h 0
theorem Ct.free {c s : Nat} {X : World} (h : Ct c s X) : X.frozen? ⟨c, 0, none⟩ = false := block_free h 0
theorem Ct.lt {c s : Nat} {X : World} (h : Ct c s X) : c < X.heap.size := lt_of_block h
theorem Ct.set {c s : Nat} {X : World} (h : Ct c s X) (t : Nat) : Ct c t (X.setCell ⟨c, 0, none⟩ (.int .i64 t)) := block_set h 0 _




/-- choosePivot's world. -/
structure PW (g sf blk : Nat) (lb sb : Array Value) (w : World) (d : Array KeyP) (s : Nat) (X : World) : Prop where
  at' : At blk w X d
  ct : Ct (w.heap.size + 1) s X
  bx : Bx w.heap.size g sf lb sb X
theorem PW.step {g sf blk s t : Nat} {lb sb : Array Value} {w X Y : World} {d : Array KeyP} (h : PW g sf blk lb sb w d s X) (f : Fr (· = w.heap.size + 1) X Y) (k : Ct (w.heap.size + 1) t Y) : PW g sf blk lb sb w d t Y :=
  ⟨h.at'.ctr f (by omega), k, h.bx.ctr f (by omega)⟩

end Go.Proofs.YtflhpmgjehjjkaaGreatDoor

namespace Go.Proofs.YtflhpmgjehjjkaaGreatDoor
open Go.RowKit Go.Shelf Go.Sort Go.Lib Go.Deep

end Go.Proofs.YtflhpmgjehjjkaaGreatDoor

namespace Go.Proofs.YtflhpmgjehjjkaaGreatDoor
open Go.RowKit Go.Shelf Go.Sort Go.Lib Go.Deep


end Go.Proofs.YtflhpmgjehjjkaaGreatDoor

namespace Go.Proofs.YtflhpmgjehjjkaaGreatDoor
open Go.RowKit Go.Shelf Go.Sort Go.Lib Go.Deep

theorem fr_sortWorldK {W : World} {blk n : Nat} {d : Array KeyP} (os : Array Obj) : Fr (· = blk) W (sortWorldK encK 4 W blk 0 n d os) := Fr.ofGrown (grownBy_putRow (flatK encK 4 d))
theorem shp_sortWorldK {W : World} {blk n : Nat} {d : Array KeyP} (os : Array Obj) : Shp blk W (sortWorldK encK 4 W blk 0 n d os) := fun cur t fz h0 => ⟨_, heap_putRow (flatK encK 4 d) h0, by simp [putCells]⟩
theorem At.grown {blk n : Nat} {w W W' : World} {d d' : Array KeyP} {os : Array Obj} (h : At blk w W d) (hw : W' = sortWorldK encK 4 W blk 0 n d' os) (hs : d'.size = d.size) : At blk w W' d' := by
  subst hw
  exact ⟨holdsK_sortWorldK encK 4 W blk 0 n d d' os h.lt' h.row hs, h.fr.trans (fr_sortWorldK os), h.lt, h.sh.trans (shp_sortWorldK os)⟩

end Go.Proofs.YtflhpmgjehjjkaaGreatDoor

namespace Go.Proofs.YtflhpmgjehjjkaaGreatDoor
open Go.RowKit Go.Shelf Go.Sort Go.Lib Go.Deep

/-- Behind the sort: the row as one's own. -/
theorem At.own {base g cap : Nat} {w W : World} {d d' : Array KeyP} {v : Value} (hown : w.ownsRow base 44 4 v d.size (flatKeys d.toList)) (hv : v = .slice (some ⟨g, 0, none⟩) d.size cap) (h : At g w W d') (hs : d'.size = d.size) : W.ownsRow base 44 4 v d'.size (flatKeys d'.toList) := by
  rcases hown.2 with ⟨h0, _⟩ | ⟨g0, cap0, cur, h0, hbg, hh, hnc, hcm, hcs, htk⟩
  · rw [h0] at hv; cases hv
  · rw [h0] at hv; cases hv
    obtain ⟨cur', hh', hcs'⟩ := h.sh _ _ _ hh
    refine ⟨by rw [flatKeys_length]; simp, .inr ⟨g, cap, cur', by rw [h0, hs], hbg, hh', by omega, hcm, by omega, ?_⟩⟩
    have hF : (flatK encK 4 d').toList = flatKeys d'.toList := by
      have := flatK_toList encK 4 (fun _ => rfl) (by decide) d'.toList
      simpa [flatKeys] using this
    rw [← hF]
    apply List.ext_getElem?
    intro j
    by_cases hj : j < d'.size * 4
    · have hr := (h.row j (by simpa using hj)).1
      rw [Nat.zero_add] at hr
      rw [block_cell hh'] at hr
      rw [List.getElem?_take_of_lt hj, Array.getElem?_toList, hr]
      simp [hj]
    · rw [List.getElem?_take_eq_none (by omega), List.getElem?_eq_none (by simp; omega)]
end Go.Proofs.YtflhpmgjehjjkaaGreatDoor
