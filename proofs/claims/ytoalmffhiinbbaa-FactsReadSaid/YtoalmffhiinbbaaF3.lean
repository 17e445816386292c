/- The leaves of facts, walked: validity. -/
import Derived.Test.YtoalmffhiinbbaaF1
namespace Go.Proofs.Ytoalmffhiinbbaa
open Go.RowKit Go.Sort

set_option maxRecDepth 100000 in
set_option maxHeartbeats 2000000 in
theorem rValid_any (a : Fc) (w : World) : Calls Try.prog 35 #[.agg (fEnc a).toArray] w fun e w' => e = .returned (.bool a.ok) ∧ Below w.heap.size w w' := by
  show Calls Try.prog 35 #[.agg #[.int .i64 a.key.kind, .int .i64 a.key.subj, .int .i64 a.key.obj, .int .i64 a.val, .int .i64 a.fr, .int .i64 a.to, .int .i64 a.known, .int .i64 a.no]] w _
  go_enter Try.func35, Try.ntmps35
  go_wp2_with fail
  all_goals
    go_ret
    refine ⟨ret_bool (by rw [Bool.eq_iff_iff]; simp [Fc.ok]; try omega), ?_⟩
    first | exact ((Below.refl _ _).alloc (Nat.le_refl _) _).alloc (by simp) _ | exact (Below.refl _ _).alloc (Nat.le_refl _) _
set_option maxRecDepth 100000 in
set_option maxHeartbeats 2000000 in
theorem rBefore_any (a b : Fc) (w : World) : Calls Try.prog 30 #[.agg (fEnc a).toArray, .agg (fEnc b).toArray] w fun e w' => e = .returned (.bool (a.bef b)) ∧ Below w.heap.size w w' := by
  show Calls Try.prog 30 #[.agg #[.int .i64 a.key.kind, .int .i64 a.key.subj, .int .i64 a.key.obj, .int .i64 a.val, .int .i64 a.fr, .int .i64 a.to, .int .i64 a.known, .int .i64 a.no], .agg #[.int .i64 b.key.kind, .int .i64 b.key.subj, .int .i64 b.key.obj, .int .i64 b.val, .int .i64 b.fr, .int .i64 b.to, .int .i64 b.known, .int .i64 b.no]] w _
  go_enter Try.func30, Try.ntmps30
  go_wp2_with fail
  all_goals
    go_ret
    refine ⟨ret_bool (by rw [Bool.eq_iff_iff]; simp [Fc.bef]; try omega), ((Below.refl _ _).alloc (Nat.le_refl _) _).alloc (by simp) _⟩
end Go.Proofs.Ytoalmffhiinbbaa
