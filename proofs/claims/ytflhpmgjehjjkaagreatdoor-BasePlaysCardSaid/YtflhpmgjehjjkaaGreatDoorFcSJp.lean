/- Whether changes are short; the order's three ways. -/
import Derived.Test.YtflhpmgjehjjkaaGreatDoorFcKJp
namespace Go.Proofs.YtflhpmgjehjjkaaGreatDoor
open Go.RowKit
def shortO (o : OpP) : Bool := decide (o.key.word.size <= 60 /\ o.value.size <= 60)
def shortB (l : List OpP) : Bool := decide (l.length <= 20) && l.all shortO
theorem shortB_spec {l : List OpP} (h : shortB l = true) : l.length <= 20 /\ ∀ o ∈ l, o.key.word.size <= 60 /\ o.value.size <= 60 := by
 unfold shortB at h
 simp only [Bool.and_eq_true, decide_eq_true_eq, List.all_eq_true] at h
 exact ⟨h.1, fun o ho => by have := h.2 o ho; unfold shortO at this; simpa using this⟩
set_option maxHeartbeats 1000000 in
theorem short_any (ao : Option Addr) (c : Nat) (l : List OpP) (w : World) (hl : opsAt w ao l) (hm : l.length <= maxLen) : Calls Tryz.prog 19 #[.slice ao l.length c] w fun e w' => e = .returned (.bool (shortB l)) /\ w = w' := by
 unfold maxLen at hm
 by_cases h20 : l.length <= 20
 · have HL := Lib.hid hl
   clear hl
   go_enter Tryz.func19, Tryz.ntmps19
   go_wp2
   go_loop [3] (fun i => ∃ k : Nat, k <= l.length /\ i = .int .i64 k /\ Hid ((l.take k).all shortO = true)) (fun i => l.length - (intOf i).toNat)
   case atStart => exact ⟨0, Nat.zero_le _, rfl, Lib.hid (by simp)⟩
   case round =>
    obtain ⟨k, hk, rfl, ha⟩ := hrel
    by_cases hlt : k < l.length
    · obtain ⟨b, f, n, a, s, m, x, y, u, g1, rfl, hb, c0, c1, c2, c3, c4, c5, c6⟩ := opsAt_get HL.out hlt
      have hbad : Hid (¬ (s.size <= 60 /\ u.size <= 60) -> shortB l = false) := Lib.hid fun h => by
       unfold shortB
       rw [Bool.and_eq_false_iff]; right
       rw [List.all_eq_false]
       exact ⟨_, List.mem_of_getElem? g1.out, by unfold shortO; simpa using h⟩
      by_cases h1 : s.size <= 60
      · by_cases h2 : u.size <= 60
        · go_wp2
          go_round
          case rel => exact ⟨k + 1, by omega, by go_num, Lib.hid (by rw [List.take_add_one, g1.out, List.all_append, ha.out]; simp [shortO, h1, h2])⟩
          case measure => simp [intOf]; omega
        · go_wp2
          go_ret
          exact ⟨ret_bool (hbad.out (by omega)).symm, rfl⟩
      · go_wp2
        go_ret
        exact ⟨ret_bool (hbad.out (by omega)).symm, rfl⟩
    · have he : l.take k = l := List.take_of_length_le (by omega)
      rw [he] at ha
      clear he
      go_wp2
      go_ret
      exact ⟨ret_bool (by unfold shortB; rw [ha.out]; simp [h20]), rfl⟩
 · clear hl
   go_enter Tryz.func19, Tryz.ntmps19
   go_wp2
   go_ret
   exact ⟨ret_bool (by unfold shortB; simp [h20]), rfl⟩
section
variable (k1 a1 b1 k2 a2 b2 : Int) (s1 s2 : ByteArray)
end
end Go.Proofs.YtflhpmgjehjjkaaGreatDoor
