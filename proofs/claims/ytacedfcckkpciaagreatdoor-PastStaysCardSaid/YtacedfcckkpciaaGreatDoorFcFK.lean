/- A key's words as a text: the document's KeyText. The condition: the library's table of powers of ten is as its own text lays it. -/
import Derived.Test.YtacedfcckkpciaaGreatDoorFcEK
import Derived.Test.YtacedfcckkpciaaGreatDoorDag2K
namespace Go.Proofs.YtacedfcckkpciaaGreatDoor
open Go.RowKit

theorem ret_str {a b : ByteArray} (h : a = b) : Ending.returned (.string a) = .returned (.string b) := by rw [h]
theorem intsAt_new (V : World) (l : List Int) {cs : Array Value} {t : TypeId} (h : cs.toList = l.map (Value.int .i64)) : intsAt (V.alloc (.cells cs t)) (some ⟨V.heap.size, 0, none⟩) l := by
  intro i x hi
  refine ⟨V.heap.size, 0, rfl, ?_⟩
  rw [Nat.zero_add]
  have : cs[i]? = some (.int .i64 x) := by rw [← Array.getElem?_toList, h]; simp [hi]
  simp [this]
theorem dashL_len (s : ByteArray) : (dashL s).length ≤ s.size + 1 := by
  unfold dashL; split
  · simp
  · rw [size_toList]; omega
def ktφ (kb : Nat) (k a b : Int) (s : ByteArray) : Nat → World → Value → Prop := fun i V v => match i with
  | 0 => v = .pointer (some ⟨kb, 0, none⟩)
  | 1 => v = .int .i64 k
  | 2 => v = .pointer (some ⟨kb, 1, none⟩)
  | 3 => v = .int .i64 a
  | 4 => ∃ g, v = .slice (some ⟨g, 0, none⟩) 2 2 ∧ intsAt V (some ⟨g, 0, none⟩) [k, a]
  | 5 => v = .string ⟨(wordsT [k, a]).toArray⟩
  | 6 => v = .string (⟨(wordsT [k, a]).toArray⟩ ++ ⟨#[32]⟩)
  | 7 => v = .pointer (some ⟨kb, 2, none⟩)
  | 8 => v = .string s
  | 9 => v = .string ⟨(dashL s).toArray⟩
  | 10 => v = .string (⟨(wordsT [k, a]).toArray⟩ ++ ⟨#[32]⟩ ++ ⟨(dashL s).toArray⟩)
  | 11 => v = .string (⟨(wordsT [k, a]).toArray⟩ ++ ⟨#[32]⟩ ++ ⟨(dashL s).toArray⟩ ++ ⟨#[32]⟩)
  | 12 => v = .pointer (some ⟨kb, 3, none⟩)
  | 13 => v = .int .i64 b
  | 14 => ∃ g, v = .slice (some ⟨g, 0, none⟩) 1 1 ∧ intsAt V (some ⟨g, 0, none⟩) [b]
  | 15 => v = .string ⟨(wordsT [b]).toArray⟩
  | 16 => v = .string (⟨(wordsT [k, a]).toArray⟩ ++ ⟨#[32]⟩ ++ ⟨(dashL s).toArray⟩ ++ ⟨#[32]⟩ ++ ⟨(wordsT [b]).toArray⟩)
  | _ => True
theorem ktφ_0 (kb : Nat) (k a b : Int) (s : ByteArray) (V : World) (v : Value) (h : ktφ kb k a b s 0 V v) : v = .pointer (some ⟨kb, 0, none⟩) := h
theorem ktφ_1 (kb : Nat) (k a b : Int) (s : ByteArray) (V : World) (v : Value) (h : ktφ kb k a b s 1 V v) : v = .int .i64 k := h
theorem ktφ_2 (kb : Nat) (k a b : Int) (s : ByteArray) (V : World) (v : Value) (h : ktφ kb k a b s 2 V v) : v = .pointer (some ⟨kb, 1, none⟩) := h
theorem ktφ_3 (kb : Nat) (k a b : Int) (s : ByteArray) (V : World) (v : Value) (h : ktφ kb k a b s 3 V v) : v = .int .i64 a := h
theorem ktφ_4 (kb : Nat) (k a b : Int) (s : ByteArray) (V : World) (v : Value) (h : ktφ kb k a b s 4 V v) : ∃ g, v = .slice (some ⟨g, 0, none⟩) 2 2 ∧ intsAt V (some ⟨g, 0, none⟩) [k, a] := h
theorem ktφ_5 (kb : Nat) (k a b : Int) (s : ByteArray) (V : World) (v : Value) (h : ktφ kb k a b s 5 V v) : v = .string ⟨(wordsT [k, a]).toArray⟩ := h
theorem ktφ_6 (kb : Nat) (k a b : Int) (s : ByteArray) (V : World) (v : Value) (h : ktφ kb k a b s 6 V v) : v = .string (⟨(wordsT [k, a]).toArray⟩ ++ ⟨#[32]⟩) := h
theorem ktφ_7 (kb : Nat) (k a b : Int) (s : ByteArray) (V : World) (v : Value) (h : ktφ kb k a b s 7 V v) : v = .pointer (some ⟨kb, 2, none⟩) := h
theorem ktφ_8 (kb : Nat) (k a b : Int) (s : ByteArray) (V : World) (v : Value) (h : ktφ kb k a b s 8 V v) : v = .string s := h
theorem ktφ_9 (kb : Nat) (k a b : Int) (s : ByteArray) (V : World) (v : Value) (h : ktφ kb k a b s 9 V v) : v = .string ⟨(dashL s).toArray⟩ := h
theorem ktφ_10 (kb : Nat) (k a b : Int) (s : ByteArray) (V : World) (v : Value) (h : ktφ kb k a b s 10 V v) : v = .string (⟨(wordsT [k, a]).toArray⟩ ++ ⟨#[32]⟩ ++ ⟨(dashL s).toArray⟩) := h
theorem ktφ_11 (kb : Nat) (k a b : Int) (s : ByteArray) (V : World) (v : Value) (h : ktφ kb k a b s 11 V v) : v = .string (⟨(wordsT [k, a]).toArray⟩ ++ ⟨#[32]⟩ ++ ⟨(dashL s).toArray⟩ ++ ⟨#[32]⟩) := h
theorem ktφ_12 (kb : Nat) (k a b : Int) (s : ByteArray) (V : World) (v : Value) (h : ktφ kb k a b s 12 V v) : v = .pointer (some ⟨kb, 3, none⟩) := h
theorem ktφ_13 (kb : Nat) (k a b : Int) (s : ByteArray) (V : World) (v : Value) (h : ktφ kb k a b s 13 V v) : v = .int .i64 b := h
theorem ktφ_14 (kb : Nat) (k a b : Int) (s : ByteArray) (V : World) (v : Value) (h : ktφ kb k a b s 14 V v) : ∃ g, v = .slice (some ⟨g, 0, none⟩) 1 1 ∧ intsAt V (some ⟨g, 0, none⟩) [b] := h
theorem ktφ_15 (kb : Nat) (k a b : Int) (s : ByteArray) (V : World) (v : Value) (h : ktφ kb k a b s 15 V v) : v = .string ⟨(wordsT [b]).toArray⟩ := h
theorem ktφ_16 (kb : Nat) (k a b : Int) (s : ByteArray) (V : World) (v : Value) (h : ktφ kb k a b s 16 V v) : v = .string (⟨(wordsT [k, a]).toArray⟩ ++ ⟨#[32]⟩ ++ ⟨(dashL s).toArray⟩ ++ ⟨#[32]⟩ ++ ⟨(wordsT [b]).toArray⟩) := h
theorem ktφ_mono (kb : Nat) (k a b : Int) (s : ByteArray) (i : Nat) (V V' : World) (v : Value) (hb : Below V.heap.size V V') (h : ktφ kb k a b s i V v) : ktφ kb k a b s i V' v :=
  match i, h with
  | 0, h => h
  | 1, h => h
  | 2, h => h
  | 3, h => h
  | 4, h => let ⟨g, e, hg⟩ := h; ⟨g, e, hg.below hb⟩
  | 5, h => h
  | 6, h => h
  | 7, h => h
  | 8, h => h
  | 9, h => h
  | 10, h => h
  | 11, h => h
  | 12, h => h
  | 13, h => h
  | 14, h => let ⟨g, e, hg⟩ := h; ⟨g, e, hg.below hb⟩
  | 15, h => h
  | 16, h => h
  | _ + 17, _ => trivial
theorem ktφ_list {X : List Value} (h : X.length = 17) : ∃ x0 x1 x2 x3 x4 x5 x6 x7 x8 x9 x10 x11 x12 x13 x14 x15 x16, X = [x0, x1, x2, x3, x4, x5, x6, x7, x8, x9, x10, x11, x12, x13, x14, x15, x16] :=
  match X, h with | [x0, x1, x2, x3, x4, x5, x6, x7, x8, x9, x10, x11, x12, x13, x14, x15, x16], _ => ⟨x0, x1, x2, x3, x4, x5, x6, x7, x8, x9, x10, x11, x12, x13, x14, x15, x16, rfl⟩

set_option maxRecDepth 100000 in
theorem keyText_any (k a b : Int) (s : ByteArray) (w : World) (hk : i64B k) (ha : i64B a) (hb : i64B b) (hs : s.size ≤ 100000) (ht : PowTab w) :
    Calls Tryz.prog 83 #[.agg #[.int .i64 k, .int .i64 a, .string s, .int .i64 b]] w fun e w' => e = .returned (.string ⟨(Lib.join [Lib.itoa k, Lib.itoa a, dashL s, Lib.itoa b] [32]).toArray⟩) ∧ Below w.heap.size w w' := by
  obtain ⟨W, hW⟩ : ∃ W, W = w.alloc (.cells #[.int .i64 k, .int .i64 a, .string s, .int .i64 b] 29) := ⟨_, rfl⟩
  have bA : Below w.heap.size w W := by rw [hW]; exact (Below.refl _ w).alloc (Nat.le_refl _) _
  obtain ⟨kb, hkb⟩ : ∃ kb, kb = w.heap.size := ⟨_, rfl⟩
  have hkW : kb < W.heap.size := by rw [hkb, hW]; simp
  have c0 : W.cell? ⟨kb, 0, none⟩ = some (.int .i64 k) := by rw [hkb, hW]; simp
  have c1 : W.cell? ⟨kb, 1, none⟩ = some (.int .i64 a) := by rw [hkb, hW]; simp
  have c2 : W.cell? ⟨kb, 2, none⟩ = some (.string s) := by rw [hkb, hW]; simp
  have c3 : W.cell? ⟨kb, 3, none⟩ = some (.int .i64 b) := by rw [hkb, hW]; simp
  have tW := ht.below bA
  have HW := Lib.hid hW
  have HK := Lib.hid hkb
  clear hW hkb
  have hw1 : ∀ x ∈ [k, a], i64B x := by simp [hk, ha]
  have hw2 : ∀ x ∈ [b], i64B x := by simp [hb]
  have l1 := wordsT_len [k, a] hw1
  have l2 := wordsT_len [b] hw2
  have l3 := dashL_len s
  simp only [List.length_cons, List.length_nil] at l1 l2
  go_enter Tryz.func83, Tryz.ntmps83
  go_wp2_with fail
  rw [← HW.out, ← HK.out]
  refine wp_region_dag_at 3 17 _ (fun V => Below W.heap.size W V) (fun V V' => Below V.heap.size V V') (ktφ kb k a b s) rfl (by kernel_rfl) (by kernel_rfl) ?_ rfl (Below.refl _ _).drew ?_ ?_
  · exact fun i V V' v _ _ hb h => ktφ_mono _ _ _ _ _ i V V' v hb h
  · simp only [List.take_succ_cons, List.take_zero, DagSteps, and_true]
    refine ⟨?_, ?_, ?_, ?_, ?_, ?_, ?_, ?_, ?_, ?_, ?_, ?_, ?_, ?_, ?_, ?_, ?_⟩
    · intro A V K hC hP hd hK
      have p1 : A.tmps[1]?.getD undef = .pointer (some ⟨kb, 0, none⟩) := evalT (hP 1 (of_decide_eq_true rfl))
      clear hP hd
      unfold Oper.wp
      go_simp
      exact hK _ _ hC (Below.refl _ _) rfl
    · intro A V K hC hP hd hK
      have e0 : A.tmps[3]?.getD undef = .pointer (some ⟨kb, 0, none⟩) := evalT (ktφ_0 _ _ _ _ _ _ _ (hd 0 (by kernel_rfl)))
      have d0 := below_cell hC hkW c0
      clear hP hd
      unfold Oper.wp
      go_simp
      exact hK _ _ hC (Below.refl _ _) rfl
    · intro A V K hC hP hd hK
      have p1 : A.tmps[1]?.getD undef = .pointer (some ⟨kb, 0, none⟩) := evalT (hP 1 (of_decide_eq_true rfl))
      clear hP hd
      unfold Oper.wp
      go_simp
      exact hK _ _ hC (Below.refl _ _) rfl
    · intro A V K hC hP hd hK
      have e2 : A.tmps[5]?.getD undef = .pointer (some ⟨kb, 1, none⟩) := evalT (ktφ_2 _ _ _ _ _ _ _ (hd 2 (by kernel_rfl)))
      have d1 := below_cell hC hkW c1
      clear hP hd
      unfold Oper.wp
      go_simp
      exact hK _ _ hC (Below.refl _ _) rfl
    · intro A V K hC hP hd hK
      have e1 : A.tmps[4]?.getD undef = .int .i64 k := evalT (ktφ_1 _ _ _ _ _ _ _ (hd 1 (by kernel_rfl)))
      have e3 : A.tmps[6]?.getD undef = .int .i64 a := evalT (ktφ_3 _ _ _ _ _ _ _ (hd 3 (by kernel_rfl)))
      clear hP hd
      unfold Oper.wp
      go_simp
      exact hK _ _ (hC.alloc hC.size _) ((Below.refl _ _).alloc (Nat.le_refl _) _) ⟨_, rfl, intsAt_new _ [k, a] (by simp)⟩
    · intro A V K hC hP hd hK
      have h4 := hd 4 (by kernel_rfl)
      have h4 := ktφ_4 _ _ _ _ _ _ _ h4
      obtain ⟨g, eg, hg⟩ := h4
      have e4 := evalT (t := 7) eg
      clear hP hd
      unfold Oper.wp
      go_simp
      refine (words_any _ 2 [k, a] V hg hw1 (by simp) (tW.below hC)).mono ?_
      rintro e w1 ⟨rfl, h1⟩
      exact hK _ _ (below_trans hC hC.size h1) h1 rfl
    · intro A V K hC hP hd hK
      have e5 : A.tmps[8]?.getD undef = .string ⟨(wordsT [k, a]).toArray⟩ := evalT (ktφ_5 _ _ _ _ _ _ _ (hd 5 (by kernel_rfl)))
      clear hP hd
      unfold Oper.wp
      go_simp
      rw [if_neg (by omega)]
      exact hK _ _ hC (Below.refl _ _) rfl
    · intro A V K hC hP hd hK
      have p1 : A.tmps[1]?.getD undef = .pointer (some ⟨kb, 0, none⟩) := evalT (hP 1 (of_decide_eq_true rfl))
      clear hP hd
      unfold Oper.wp
      go_simp
      exact hK _ _ hC (Below.refl _ _) rfl
    · intro A V K hC hP hd hK
      have e7 : A.tmps[10]?.getD undef = .pointer (some ⟨kb, 2, none⟩) := evalT (ktφ_7 _ _ _ _ _ _ _ (hd 7 (by kernel_rfl)))
      have d2 := below_cell hC hkW c2
      clear hP hd
      unfold Oper.wp
      go_simp
      exact hK _ _ hC (Below.refl _ _) rfl
    · intro A V K hC hP hd hK
      have e8 : A.tmps[11]?.getD undef = .string s := evalT (ktφ_8 _ _ _ _ _ _ _ (hd 8 (by kernel_rfl)))
      clear hP hd
      unfold Oper.wp
      go_simp
      refine (dashR_any s V).mono ?_
      rintro e w1 ⟨rfl, rfl⟩
      exact hK _ _ hC (Below.refl _ _) rfl
    · intro A V K hC hP hd hK
      have e6 : A.tmps[9]?.getD undef = .string (⟨(wordsT [k, a]).toArray⟩ ++ ⟨#[32]⟩) := evalT (ktφ_6 _ _ _ _ _ _ _ (hd 6 (by kernel_rfl)))
      have e9 : A.tmps[12]?.getD undef = .string ⟨(dashL s).toArray⟩ := evalT (ktφ_9 _ _ _ _ _ _ _ (hd 9 (by kernel_rfl)))
      clear hP hd
      unfold Oper.wp
      go_simp
      rw [if_neg (by omega)]
      exact hK _ _ hC (Below.refl _ _) rfl
    · intro A V K hC hP hd hK
      have e10 : A.tmps[13]?.getD undef = .string (⟨(wordsT [k, a]).toArray⟩ ++ ⟨#[32]⟩ ++ ⟨(dashL s).toArray⟩) := evalT (ktφ_10 _ _ _ _ _ _ _ (hd 10 (by kernel_rfl)))
      clear hP hd
      unfold Oper.wp
      go_simp
      rw [if_neg (by omega)]
      exact hK _ _ hC (Below.refl _ _) rfl
    · intro A V K hC hP hd hK
      have p1 : A.tmps[1]?.getD undef = .pointer (some ⟨kb, 0, none⟩) := evalT (hP 1 (of_decide_eq_true rfl))
      clear hP hd
      unfold Oper.wp
      go_simp
      exact hK _ _ hC (Below.refl _ _) rfl
    · intro A V K hC hP hd hK
      have e12 : A.tmps[15]?.getD undef = .pointer (some ⟨kb, 3, none⟩) := evalT (ktφ_12 _ _ _ _ _ _ _ (hd 12 (by kernel_rfl)))
      have d3 := below_cell hC hkW c3
      clear hP hd
      unfold Oper.wp
      go_simp
      exact hK _ _ hC (Below.refl _ _) rfl
    · intro A V K hC hP hd hK
      have e13 : A.tmps[16]?.getD undef = .int .i64 b := evalT (ktφ_13 _ _ _ _ _ _ _ (hd 13 (by kernel_rfl)))
      clear hP hd
      unfold Oper.wp
      go_simp
      exact hK _ _ (hC.alloc hC.size _) ((Below.refl _ _).alloc (Nat.le_refl _) _) ⟨_, rfl, intsAt_new _ [b] (by simp)⟩
    · intro A V K hC hP hd hK
      have h14 := hd 14 (by kernel_rfl)
      have h14 := ktφ_14 _ _ _ _ _ _ _ h14
      obtain ⟨g, eg, hg⟩ := h14
      have e14 := evalT (t := 17) eg
      clear hP hd
      unfold Oper.wp
      go_simp
      refine (words_any _ 1 [b] V hg hw2 (by simp) (tW.below hC)).mono ?_
      rintro e w1 ⟨rfl, h1⟩
      exact hK _ _ (below_trans hC hC.size h1) h1 rfl
    · intro A V K hC hP hd hK
      have e11 : A.tmps[14]?.getD undef = .string (⟨(wordsT [k, a]).toArray⟩ ++ ⟨#[32]⟩ ++ ⟨(dashL s).toArray⟩ ++ ⟨#[32]⟩) := evalT (ktφ_11 _ _ _ _ _ _ _ (hd 11 (by kernel_rfl)))
      have e15 : A.tmps[18]?.getD undef = .string ⟨(wordsT [b]).toArray⟩ := evalT (ktφ_15 _ _ _ _ _ _ _ (hd 15 (by kernel_rfl)))
      clear hP hd
      unfold Oper.wp
      go_simp
      rw [if_neg (by omega)]
      exact hK _ _ hC (Below.refl _ _) rfl
  · intro X w1 hX hC hφ
    obtain ⟨x0, x1, x2, x3, x4, x5, x6, x7, x8, x9, x10, x11, x12, x13, x14, x15, x16, rfl⟩ := ktφ_list hX
    have e16 := ktφ_16 _ _ _ _ _ _ _ (hφ 16 (of_decide_eq_true rfl))
    have e : x16 = .string (⟨(wordsT [k, a]).toArray⟩ ++ ⟨#[32]⟩ ++ ⟨(dashL s).toArray⟩ ++ ⟨#[32]⟩ ++ ⟨(wordsT [b]).toArray⟩) := e16
    rw [e]
    clear e e16 hφ hX
    unfold Oper.wp
    go_simp
    rename_i hK
    refine hK _ _ ?_
    go_wp2
    go_ret
    exact ⟨ret_str (bytes_ext (by simp [wordsT, Lib.join, List.intercalate, List.intersperse])), below_trans bA bA.size hC⟩
end Go.Proofs.YtacedfcckkpciaaGreatDoor
