/- Two keys, and two changes, compared with == and !=. -/
import Derived.Test.YtflhpmgjehjjkaaGreatDoorFcGJp
namespace Go.Proofs.YtflhpmgjehjjkaaGreatDoor
open Go.RowKit
section
variable (w : World) (k1 a1 b1 k2 a2 b2 : Int) (s1 s2 : ByteArray)
theorem key_fields : Tryz.prog.underlying 44 = some (.struct (Tryz.prog.fieldsOf 44)) := by kernel_rfl
def keyEqB : Bool := k1 == k2 && (a1 == a2 && (s1.toList == s2.toList && b1 == b2))
theorem eqIn_key : (Op.equalIn 10000 44 (.agg #[.int .i64 k1, .int .i64 a1, .string s1, .int .i64 b1]) (.agg #[.int .i64 k2, .int .i64 a2, .string s2, .int .i64 b2])).run Tryz.prog w = .ok (keyEqB k1 a1 b1 k2 a2 b2 s1 s2) w := by
 rw [run_equalIn_struct w 9999 _ _ _ key_fields (by kernel_rfl)]
 unfold keyEqB
 by_cases h1 : k1 = k2 <;> by_cases h2 : a1 = a2 <;> by_cases h3 : s1.toList = s2.toList <;> by_cases h4 : b1 = b2 <;> simp [go_sem, h1, h2, h3, h4]
@[go_sem high] theorem neq_key : (binOp .neq 44 (.agg #[.int .i64 k1, .int .i64 a1, .string s1, .int .i64 b1]) (.agg #[.int .i64 k2, .int .i64 a2, .string s2, .int .i64 b2])).run Tryz.prog w = .ok (.bool (!keyEqB k1 a1 b1 k2 a2 b2 s1 s2)) w := by
  rw [run_neq_struct, eqIn_key]; rfl
@[go_sem high] theorem eql_key : (binOp .eql 44 (.agg #[.int .i64 k1, .int .i64 a1, .string s1, .int .i64 b1]) (.agg #[.int .i64 k2, .int .i64 a2, .string s2, .int .i64 b2])).run Tryz.prog w = .ok (.bool (keyEqB k1 a1 b1 k2 a2 b2 s1 s2)) w := by
  rw [run_eql_struct, eqIn_key]; rfl
theorem keyEqB_iff : keyEqB k1 a1 b1 k2 a2 b2 s1 s2 = decide ((⟨k1, a1, s1, b1⟩ : KeyP) = ⟨k2, a2, s2, b2⟩) := by
 unfold keyEqB
 rw [Bool.eq_iff_iff]
 simp only [Bool.and_eq_true, beq_iff_eq, decide_eq_true_eq, KeyP.mk.injEq]
 constructor
 · rintro ⟨h1, h2, h3, h4⟩
   exact ⟨h1, h2, bytes_ext (by rw [<- ByteArray.toList_eq, <- ByteArray.toList_eq]; exact h3), h4⟩
 · rintro ⟨h1, h2, h3, h4⟩
   exact ⟨h1, h2, by rw [h3], h4⟩
end
section
variable (w : World) (o p : OpP)
theorem op_fields : Tryz.prog.underlying 70 = some (.struct (Tryz.prog.fieldsOf 70)) := by kernel_rfl
def opEqB (k1 a1 b1 f1 t1 k2 a2 b2 f2 t2 : Int) (s1 v1 s2 v2 : ByteArray) : Bool := k1 == k2 && (a1 == a2 && (s1.toList == s2.toList && (b1 == b2 && (f1 == f2 && (t1 == t2 && v1.toList == v2.toList)))))
variable (k1 a1 b1 f1 t1 k2 a2 b2 f2 t2 : Int) (s1 v1 s2 v2 : ByteArray)
set_option maxHeartbeats 1000000 in
theorem eqIn_op : (Op.equalIn 10000 70 (.agg #[.int .i64 k1, .int .i64 a1, .string s1, .int .i64 b1, .int .i64 f1, .int .i64 t1, .string v1]) (.agg #[.int .i64 k2, .int .i64 a2, .string s2, .int .i64 b2, .int .i64 f2, .int .i64 t2, .string v2])).run Tryz.prog w = .ok (opEqB k1 a1 b1 f1 t1 k2 a2 b2 f2 t2 s1 v1 s2 v2) w := by
 rw [run_equalIn_struct w 9999 _ _ _ op_fields (by kernel_rfl)]
 by_cases h1 : k1 = k2
 · by_cases h2 : a1 = a2
   · by_cases h3 : s1.toList = s2.toList
     · by_cases h4 : b1 = b2
       · by_cases h5 : f1 = f2
         · by_cases h6 : t1 = t2
           · by_cases h7 : v1.toList = v2.toList
             · simp [go_sem, opEqB, h1, h2, h3, h4, h5, h6, h7]
             · simp [go_sem, opEqB, h1, h2, h3, h4, h5, h6, h7]
           · simp [go_sem, opEqB, h1, h2, h3, h4, h5, h6]
         · simp [go_sem, opEqB, h1, h2, h3, h4, h5]
       · simp [go_sem, opEqB, h1, h2, h3, h4]
     · simp [go_sem, opEqB, h1, h2, h3]
   · simp [go_sem, opEqB, h1, h2]
 · simp [go_sem, opEqB, h1]
@[go_sem high] theorem neq_op : (binOp .neq 70 (.agg #[.int .i64 k1, .int .i64 a1, .string s1, .int .i64 b1, .int .i64 f1, .int .i64 t1, .string v1]) (.agg #[.int .i64 k2, .int .i64 a2, .string s2, .int .i64 b2, .int .i64 f2, .int .i64 t2, .string v2])).run Tryz.prog w = .ok (.bool (!opEqB k1 a1 b1 f1 t1 k2 a2 b2 f2 t2 s1 v1 s2 v2)) w := by
  rw [run_neq_struct, eqIn_op]; rfl
end
end Go.Proofs.YtflhpmgjehjjkaaGreatDoor
