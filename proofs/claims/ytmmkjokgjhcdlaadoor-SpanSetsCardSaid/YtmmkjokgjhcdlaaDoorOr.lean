/- cmp.Or at int: the first that is not 0. -/
import Derived.Test.YtmmkjokgjhcdlaaDoorSpanD
namespace Go.Proofs.YtmmkjokgjhcdlaaDoor
open Go.RowKit Go.Shelf Go.Sort

def orI (l : List Int) : Int := (l.find? (fun x => x != 0)).getD 0
theorem or_any (l : List Int) (ao : Option Addr) (cap : Nat) (w : World) (hl : intsAt w ao l) (hm : l.length ≤ maxLen) :
    Calls Tryd.prog 28 #[.slice ao l.length cap] w fun e w' => e = .returned (.int .i64 (orI l)) ∧ w = w' := by
  unfold maxLen at hm
  go_enter Tryd.func28, Tryd.ntmps28
  go_wp2
  go_loop [8] (fun i => ∃ k : Nat, k ≤ l.length ∧ i = .int .i64 k ∧ Hid (orI l = orI (l.drop k))) (fun i => l.length - (intOf i).toNat)
  case atStart => exact ⟨0, by omega, rfl, rfl⟩
  case round =>
    obtain ⟨k, hk, rfl, ho⟩ := hrel
    by_cases hlt : k < l.length
    · obtain ⟨b, o, x, g1, rfl, c1⟩ := intsAt_get hl hlt
      have hd : l.drop k = x :: l.drop (k + 1) := by
        have := List.drop_eq_getElem_cons hlt
        rw [this]; congr 1
        have h := g1.out; rw [List.getElem?_eq_getElem hlt] at h; exact Option.some.inj h
      by_cases hx : x = 0
      · have e : orI l = orI (l.drop (k + 1)) := by rw [ho.out, hd, hx]; simp [orI]
        have E := Lib.hid e
        subst hx
        clear e hd ho
        go_wp2
        go_round
        case rel => exact ⟨k + 1, by omega, by go_num, E⟩
        case measure => simp [intOf]; omega
      · have e : orI l = x := by rw [ho.out, hd]; simp [orI, hx]
        have E := Lib.hid e
        have hx1 : (x != 0) = true := by simpa using hx
        clear e hd ho
        go_wp2
        go_ret
        exact ⟨by rw [E.out]; rfl, rfl⟩
    · have e : orI l = 0 := by rw [ho.out, List.drop_eq_nil_of_le (by omega)]; rfl
      have E := Lib.hid e
      clear e ho
      go_wp2
      go_ret
      exact ⟨by rw [E.out]; rfl, rfl⟩

theorem ints2 (W : World) (x y : Int) : intsAt (W.alloc (.cells #[.int .i64 x, .int .i64 y] 3)) (some ⟨W.heap.size, 0, none⟩) [x, y] := by
  intro i u hu
  match i, hu with
  | 0, hu => simp at hu; subst hu; exact ⟨_, 0, rfl, by simp⟩
  | 1, hu => simp at hu; subst hu; exact ⟨_, 0, rfl, by simp⟩

end Go.Proofs.YtmmkjokgjhcdlaaDoor
