/- The document's tree: Drop in every case. -/
import Derived.Test.YtgbbldbkkmjedaaDoorRefE
namespace Go.Proofs.YtgbbldbkkmjedaaDoor
open Go.RowKit Go.Shelf Go.Sort

set_option maxRecDepth 100000 in
theorem rdrop_missing (id : Int) (w : World) (base wb : Nat) (R : List It) (vi vs : Value) (h : RefAt w base wb R vi vs) (hs : SrtI R) (hlen : R.length < 1000000) (hx : hasR R id = false) :
    Calls Tryd.prog 13 #[.pointer (some ⟨wb, 0, none⟩), .int .i64 id] w fun e w' => e = .returned (.int .i64 7) ∧ Below w.heap.size w w' := by
  have hF := rfind_any id w base wb R vi vs h hs hlen
  rw [hx] at hF
  clear hx h
  go_enter Tryd.func13, Tryd.ntmps13
  go_wp2_with fail
  refine hF.mono ?_
  rintro e w1 ⟨rfl, b1⟩
  have HB := Lib.hid b1
  clear b1 hF
  go_wp2_with fail
  go_ret
  exact ⟨rfl, HB.out⟩
theorem rdrop_has (id : Int) (w : World) (base wb : Nat) (R : List It) (vi vs : Value) (h : RefAt w base wb R vi vs) (hs : SrtI R) (hlen : R.length < 1000000) (hx : hasR R id = true) :
    Calls Tryd.prog 13 #[.pointer (some ⟨wb, 0, none⟩), .int .i64 id] w (RStep base wb (takeR R id) 0 vi vs w) :=
  (rdrop_ok id w base wb R vi vs h hs hlen hx (rfind_any id w base wb R vi vs h hs hlen)).mono fun _ _ hd => hd.step _ _
end Go.Proofs.YtgbbldbkkmjedaaDoor
