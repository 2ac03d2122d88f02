/- A piece compared with itself. -/
import Derived.Test.YtflhpmgjehjjkaaGreatDoorFcKJp
namespace Go.Proofs.YtflhpmgjehjjkaaGreatDoor
open Go.RowKit
section
variable (w : World) (f t : Int) (s : ByteArray)
theorem piece_fields : Tryz.prog.underlying 96 = some (.struct (Tryz.prog.fieldsOf 96)) := by kernel_rfl
theorem eqIn_piece : (Op.equalIn 10000 96 (.agg #[.int .i64 f, .int .i64 t, .string s]) (.agg #[.int .i64 f, .int .i64 t, .string s])).run Tryz.prog w = .ok true w := by
 rw [run_equalIn_struct w 9999 _ _ _ piece_fields (by kernel_rfl)]
 simp [go_sem]
@[go_sem high] theorem neq_piece : (binOp .neq 96 (.agg #[.int .i64 f, .int .i64 t, .string s]) (.agg #[.int .i64 f, .int .i64 t, .string s])).run Tryz.prog w = .ok (.bool false) w := by
  rw [run_neq_struct, eqIn_piece]; rfl
theorem neq_keyS (k a b : Int) : (binOp .neq 44 (.agg #[.int .i64 k, .int .i64 a, .string s, .int .i64 b]) (.agg #[.int .i64 k, .int .i64 a, .string s, .int .i64 b])).run Tryz.prog w = .ok (.bool false) w := by
 rw [run_neq_struct, eqIn_key]
 simp [keyEqB]
end
end Go.Proofs.YtflhpmgjehjjkaaGreatDoor
