/- Equality of facts, as the model runs it; the function that compares lists of them (printed by wip/tools/genslices.py). -/
import Derived.Test.YtologegkbcedhaaF8
namespace Go.Proofs.Ytologegkbcedhaa
open Go.RowKit Go.Shelf
set_option maxRecDepth 100000 in
set_option maxHeartbeats 2000000 in
theorem f_in (a b : Fc) (w : World) : (Op.equalIn 10000 86 (.agg #[.int .i64 a.key.kind, .int .i64 a.key.subj, .int .i64 a.key.obj, .int .i64 a.val, .int .i64 a.fr, .int .i64 a.to, .int .i64 a.known, .int .i64 a.no]) (.agg #[.int .i64 b.key.kind, .int .i64 b.key.subj, .int .i64 b.key.obj, .int .i64 b.val, .int .i64 b.fr, .int .i64 b.to, .int .i64 b.known, .int .i64 b.no])).run Try.prog w = .ok (decide (a = b)) w := by
  have hS : Try.prog.underlying 86 = some (.struct (Try.prog.fieldsOf 86)) := by kernel_rfl
  have hp : Try.prog.stoodInHeld 86 = false := by kernel_rfl
  rw [show (10000 : Nat) = 9999 + 1 from rfl, run_equalIn_agg w 9999 86 _ _ hS hp]
  simp only [Program.fieldsOf, Try.underlying86]
  have agKey := Try.isAgg45
  have szKey := Try.sizeOf45
  have agSpan := Try.isAgg60
  have szSpan := Try.sizeOf60
  have u3 := Try.underlying3
  have a3 := Try.isAgg3
  have z3 := Try.sizeOf3
  clear hS hp
  go_simp
  by_cases he : a = b
  · subst he
    simp
  · rw [decide_eq_false he]
    repeat' split
    all_goals first | rfl | (exfalso; exact he (Fc.ext' (Ky.ext' ‹_› ‹_› ‹_›) ‹_› ‹_› ‹_› ‹_› ‹_›))

theorem f_eql (a b : Fc) (w : World) : (binOp .eql 86 (.agg #[.int .i64 a.key.kind, .int .i64 a.key.subj, .int .i64 a.key.obj, .int .i64 a.val, .int .i64 a.fr, .int .i64 a.to, .int .i64 a.known, .int .i64 a.no]) (.agg #[.int .i64 b.key.kind, .int .i64 b.key.subj, .int .i64 b.key.obj, .int .i64 b.val, .int .i64 b.fr, .int .i64 b.to, .int .i64 b.known, .int .i64 b.no])).run Try.prog w = .ok (.bool (decide (a = b))) w := by
  have h : (Op.equalIn 10000 86 (.agg #[.int .i64 a.key.kind, .int .i64 a.key.subj, .int .i64 a.key.obj, .int .i64 a.val, .int .i64 a.fr, .int .i64 a.to, .int .i64 a.known, .int .i64 a.no]) (.agg #[.int .i64 b.key.kind, .int .i64 b.key.subj, .int .i64 b.key.obj, .int .i64 b.val, .int .i64 b.fr, .int .i64 b.to, .int .i64 b.known, .int .i64 b.no])).run Try.prog w = .ok (decide (a = b)) w := f_in _ _ w
  rw [run_eql_struct, h]
  rfl

theorem f_neq (a b : Fc) (w : World) : (binOp .neq 86 (.agg #[.int .i64 a.key.kind, .int .i64 a.key.subj, .int .i64 a.key.obj, .int .i64 a.val, .int .i64 a.fr, .int .i64 a.to, .int .i64 a.known, .int .i64 a.no]) (.agg #[.int .i64 b.key.kind, .int .i64 b.key.subj, .int .i64 b.key.obj, .int .i64 b.val, .int .i64 b.fr, .int .i64 b.to, .int .i64 b.known, .int .i64 b.no])).run Try.prog w = .ok (.bool (!decide (a = b))) w := by
  have h : (Op.equalIn 10000 86 (.agg #[.int .i64 a.key.kind, .int .i64 a.key.subj, .int .i64 a.key.obj, .int .i64 a.val, .int .i64 a.fr, .int .i64 a.to, .int .i64 a.known, .int .i64 a.no]) (.agg #[.int .i64 b.key.kind, .int .i64 b.key.subj, .int .i64 b.key.obj, .int .i64 b.val, .int .i64 b.fr, .int .i64 b.to, .int .i64 b.known, .int .i64 b.no])).run Try.prog w = .ok (decide (a = b)) w := f_in _ _ w
  rw [run_neq_struct, h]
  rfl

end Go.Proofs.Ytologegkbcedhaa
