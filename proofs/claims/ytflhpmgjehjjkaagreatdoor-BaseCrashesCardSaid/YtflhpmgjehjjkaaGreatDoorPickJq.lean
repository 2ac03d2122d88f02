/- A number below another one (pick). -/
import Derived.IntWalk
import Derived.Laws.Bits64
import Derived.Test.YtflhpmgjehjjkaaGreatDoorKitJq
namespace Go.Proofs.YtflhpmgjehjjkaaGreatDoor
open Go.RowKit

def pickI (n m : Int) : Int := wrap64 ((IntKind.u64.wrap n).tmod m)
theorem pickI_lt (n m : Int) (h : 0 < m) (h2 : m < 1000) : 0 ≤ pickI n m ∧ pickI n m < m := by
  have h0 : 0 ≤ IntKind.u64.wrap n := by rw [IntKind.wrap_u64]; exact Int.emod_nonneg _ (by omega)
  have h1 : (IntKind.u64.wrap n).tmod m = IntKind.u64.wrap n % m := Int.tmod_eq_emod_of_nonneg h0
  have h3 := Int.emod_nonneg (IntKind.u64.wrap n) (b := m) (by omega)
  have h4 := Int.emod_lt_of_pos (IntKind.u64.wrap n) h
  unfold pickI
  rw [h1]
  have h5 : wrap64 (IntKind.u64.wrap n % m) = IntKind.u64.wrap n % m := by unfold wrap64; omega
  rw [h5]
  exact ⟨h3, h4⟩
theorem pick_any (n m : Int) (w : World) (_hn : -9223372036854775808 ≤ n) (_hn2 : n < 9223372036854775808) (hm : 0 < m) (hm2 : m < 1000) :
    Calls Tryz.prog 11 #[.int .i64 n, .int .i64 m] w fun e w' => e = .returned (.int .i64 (pickI n m)) ∧ w = w' := by
  go_enter Tryz.func11, Tryz.ntmps11
  go_wp2
  go_ret
  exact ⟨rfl, rfl⟩
end Go.Proofs.YtflhpmgjehjjkaaGreatDoor
