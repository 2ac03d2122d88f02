/- Trees in memory: each node a block; how high one is (tree.high); a node made right (fit). -/
import Derived.Test.YtcdgochkcfogiaaFrame
import Derived.Test.YtcdgochkcfogiaaTreeN
import Derived.Deep.RegionHeld3
import Derived.Deep.QuietTactic
import Derived.BigQuiet
import Derived.StillTailTactics
namespace Go.Proofs.Ytcdgochkcfogiaa
open Go.RowKit Go.Deep

def nodeO (a : Nd) (l r : Value) : Obj := .cells #[.int .i64 a.id, .int .i64 a.f, .int .i64 a.t, .int .i64 a.last, .int .i64 a.high, l, r] 76 (0, 0)
/-- A tree's root lies there. -/
def rootInH (h : Array Obj) : BT Nd → Prop
  | .nil => True
  | .node b o a l r => o = 0 ∧ h[b]? = some (nodeO a l.ptr r.ptr)
def rootIn (w : World) (t : BT Nd) : Prop := rootInH w.heap t
/-- A tree lies there. -/
def treeInH (h : Array Obj) : BT Nd → Prop
  | .nil => True
  | .node b o a l r => (o = 0 ∧ h[b]? = some (nodeO a l.ptr r.ptr)) ∧ treeInH h l ∧ treeInH h r
def treeIn (w : World) (t : BT Nd) : Prop := treeInH w.heap t
theorem treeIn.parts {w : World} {b o : Nat} {a : Nd} {l r : BT Nd} (h : treeIn w (.node b o a l r)) : o = 0 ∧ w.heap[b]? = some (nodeO a l.ptr r.ptr) ∧ treeIn w l ∧ treeIn w r := ⟨h.1.1, h.1.2, h.2.1, h.2.2⟩
theorem treeIn.root {w : World} {t : BT Nd} (h : treeIn w t) : rootIn w t := by cases t; trivial; exact h.1
def rootB : BT Nd → List Nat
  | .nil => []
  | .node b _ _ _ _ => [b]

/-- A node's cells, and that they may be written. -/
theorem node_cells {w : World} {b : Nat} {a : Nd} {l r : Value} (h : w.heap[b]? = some (nodeO a l r)) :
    w.cell? ⟨b, 0, none⟩ = some (.int .i64 a.id) ∧ w.cell? ⟨b, 1, none⟩ = some (.int .i64 a.f) ∧ w.cell? ⟨b, 2, none⟩ = some (.int .i64 a.t) ∧ w.cell? ⟨b, 3, none⟩ = some (.int .i64 a.last) ∧
    w.cell? ⟨b, 4, none⟩ = some (.int .i64 a.high) ∧ w.cell? ⟨b, 5, none⟩ = some l ∧ w.cell? ⟨b, 6, none⟩ = some r :=
  ⟨block_cell h 0, block_cell h 1, block_cell h 2, block_cell h 3, block_cell h 4, block_cell h 5, block_cell h 6⟩
theorem node_free {w : World} {b : Nat} {a : Nd} {l r : Value} (h : w.heap[b]? = some (nodeO a l r)) (i : Nat) : w.frozen? ⟨b, i, none⟩ = false := block_free h i

set_option maxRecDepth 100000 in
theorem high_any (t : BT Nd) (w : World) (h : rootIn w t) : Calls Try.prog 56 #[t.ptr] w fun e w' => e = .returned (.int .i64 (hiT t)) ∧ w' = w := by
  cases t with
  | nil =>
    have e : (BT.nil : BT Nd).ptr = .pointer none := rfl
    rw [e]
    go_enter Try.func56, Try.ntmps56
    go_wp2
    go_ret
    exact ⟨rfl, rfl⟩
  | node b o a l r =>
    obtain ⟨rfl, hb⟩ := h
    obtain ⟨_, _, _, _, c4, _, _⟩ := node_cells hb
    have e : (BT.node b 0 a l r).ptr = .pointer (some ⟨b, 0, none⟩) := rfl
    rw [e]
    clear hb
    go_enter Try.func56, Try.ntmps56
    go_wp2
    go_ret
    exact ⟨rfl, rfl⟩
theorem ptr_some (t : BT Nd) : ∃ p, t.ptr = .pointer p := by cases t; exact ⟨_, rfl⟩; exact ⟨_, rfl⟩
theorem high_at (t : BT Nd) (p : Option Addr) (w : World) (e : t.ptr = .pointer p) (h : rootIn w t) : Calls Try.prog 56 #[.pointer p] w fun e w' => e = .returned (.int .i64 (hiT t)) ∧ w' = w := by
  rw [← e]; exact high_any t w h
end Go.Proofs.Ytcdgochkcfogiaa
