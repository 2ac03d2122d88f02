/- Slices of spans and of ints as lists; sameSpans. -/
import Derived.Test.YtcdgochkcfogiaaSpanA
import Derived.Deep.QuietTactic
import Derived.BigQuiet
namespace Go.Proofs.Ytcdgochkcfogiaa
open Go.RowKit

/-- The slice that begins at an address holds these spans. -/
def spansAt (w : World) (ao : Option Addr) (l : List (Int × Int)) : Prop :=
  ∀ i x y, l[i]? = some (x, y) → ∃ b o, ao = some ⟨b, o, none⟩ ∧ w.cell? ⟨b, o + i * 2, none⟩ = some (.int .i64 x) ∧ w.cell? ⟨b, o + i * 2 + 1, none⟩ = some (.int .i64 y)
theorem spansAt_get {w : World} {ao : Option Addr} {l : List (Int × Int)} (h : spansAt w ao l) {k : Nat} (hk : k < l.length) :
    ∃ b o x y, Hid (l[k]? = some (x, y)) ∧ ao = some ⟨b, o, none⟩ ∧ w.cell? ⟨b, o + k * 2, none⟩ = some (.int .i64 x) ∧ w.cell? ⟨b, o + k * 2 + 1, none⟩ = some (.int .i64 y) := by
  obtain ⟨b, o, h1, h2, h3⟩ := h k l[k].1 l[k].2 (by simp [hk])
  exact ⟨b, o, l[k].1, l[k].2, (by show l[k]? = _; simp [hk]), h1, h2, h3⟩
theorem take_eq_snoc {α : Type} {l m : List α} {k : Nat} {x y : α} (h : l.take k = m.take k) (hx : l[k]? = some x) (hy : m[k]? = some y) : (l.take (k + 1) = m.take (k + 1)) ↔ x = y := by
  rw [List.take_add_one, List.take_add_one, h, hx, hy]
  simp
theorem eq_of_take {α : Type} {l m : List α} {k : Nat} (h : l.take k = m.take k) (hl : l.length ≤ k) (hm : m.length ≤ k) : l = m := by
  rwa [List.take_of_length_le hl, List.take_of_length_le hm] at h

section
variable (w : World) (a b c d : Int)
theorem span_fields : Try.prog.underlying 23 = some (.struct (Try.prog.fieldsOf 23)) := by kernel_rfl
theorem eqIn_span : (Op.equalIn 10000 23 (.agg #[.int .i64 a, .int .i64 b]) (.agg #[.int .i64 c, .int .i64 d])).run Try.prog w = .ok (a == c && b == d) w := by
  rw [run_equalIn_struct w 9999 _ _ _ span_fields (by kernel_rfl)]
  by_cases h1 : a = c <;> by_cases h2 : b = d <;> simp [go_sem, h1, h2]
@[go_sem high] theorem neq_span : (binOp .neq 23 (.agg #[.int .i64 a, .int .i64 b]) (.agg #[.int .i64 c, .int .i64 d])).run Try.prog w = .ok (.bool (!(a == c && b == d))) w := by
  rw [run_neq_struct, eqIn_span]; rfl
@[go_sem high] theorem eql_span : (binOp .eql 23 (.agg #[.int .i64 a, .int .i64 b]) (.agg #[.int .i64 c, .int .i64 d])).run Try.prog w = .ok (.bool (a == c && b == d)) w := by
  rw [run_eql_struct, eqIn_span]; rfl
end

theorem sameSpans_any (a b : Option Addr) (ca cb : Nat) (l m : List (Int × Int)) (w : World) (ha : spansAt w a l) (hb : spansAt w b m) (hl : l.length ≤ maxLen) (_hm : m.length ≤ maxLen) :
    Calls Try.prog 15 #[.slice a l.length ca, .slice b m.length cb] w fun e w' => e = .returned (.bool (decide (l = m))) ∧ ∃ n, w' = w.drewN n := by
  unfold maxLen at hl _hm
  by_cases hlen : l.length = m.length
  · go_enter Try.func15, Try.ntmps15
    have h1 : ((l.length : Int) != (m.length : Int)) = false := by simp [hlen]
    go_wp2
    go_loopw [5] (fun i wr => ∃ k : Nat, k ≤ l.length ∧ i = .int .i64 k ∧ l.take k = m.take k ∧ ∃ n, wr = w.drewN n) (fun i _ => l.length - (intOf i).toNat)
    case atStart => exact ⟨0, by omega, rfl, by simp, 0, rfl⟩
    case round =>
      obtain ⟨k, hk, rfl, htk, n, rfl⟩ := hrel
      by_cases hlt : k < l.length
      · obtain ⟨b1, o1, x1, y1, g1, rfl, c1, c2⟩ := spansAt_get ha hlt
        obtain ⟨b2, o2, x2, y2, g2, rfl, c3, c4⟩ := spansAt_get hb (k := k) (by omega)
        have hlt2 : k < m.length := by omega
        have HT := Lib.hid htk
        have HL := Lib.hid hlen
        clear htk hlen
        by_cases hx : x1 = x2 ∧ y1 = y2
        · obtain ⟨rfl, rfl⟩ := hx
          go_wp2
          go_quiet (fail)
          go_wp2
          go_roundw
          case rel => exact ⟨k + 1, by omega, by go_num, (take_eq_snoc HT.out g1.out g2.out).2 rfl, _, rfl⟩
          case measure => simp [intOf]; omega
        · have hne : (x1 == x2 && y1 == y2) = false := by simpa using hx
          go_wp2
          go_quiet (fail)
          go_wp2
          go_ret
          exact ⟨ret_bool (decide_eq_false (fun e => by
            have e1 := g1.out; have e2 := g2.out
            rw [e, e2] at e1; simp at e1; exact hx ⟨e1.1.symm, e1.2.symm⟩)).symm, _, World.drewN_drewN ..⟩
      · have HT := Lib.hid htk
        have hge : m.length ≤ k := by omega
        clear htk
        go_wp2
        go_ret
        exact ⟨ret_bool (decide_eq_true (eq_of_take HT.out (by omega) (by omega))).symm, _, rfl⟩
  · go_enter Try.func15, Try.ntmps15
    have h1 : ((l.length : Int) != (m.length : Int)) = true := by simp; omega
    go_wp2
    go_ret
    exact ⟨ret_bool (decide_eq_false (fun e => hlen (by rw [e]))).symm, 0, rfl⟩
end Go.Proofs.Ytcdgochkcfogiaa
