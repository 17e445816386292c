/- The leaves of facts, walked: validity. -/
import Derived.Test.YtologegkbcedhaaF1
namespace Go.Proofs.Ytologegkbcedhaa
open Go.RowKit Go.Sort

set_option maxRecDepth 100000 in
set_option maxHeartbeats 2000000 in
theorem rLessKey_any (a b : Ky) (w : World) : Calls Try.prog 54 #[.agg (kEnc a).toArray, .agg (kEnc b).toArray] w fun e w' => e = .returned (.bool (a.lt b)) ∧ Below w.heap.size w w' := by
  show Calls Try.prog 54 #[.agg #[.int .i64 a.kind, .int .i64 a.subj, .int .i64 a.obj], .agg #[.int .i64 b.kind, .int .i64 b.subj, .int .i64 b.obj]] w _
  have hB : Below w.heap.size w ((w.alloc (.cells #[.int .i64 a.kind, .int .i64 a.subj, .int .i64 a.obj] 45)).alloc (.cells #[.int .i64 b.kind, .int .i64 b.subj, .int .i64 b.obj] 45)) := ((Below.refl _ _).alloc (Nat.le_refl _) _).alloc (by simp) _
  by_cases h1 : a.kind = b.kind
  · have g1 : (a.kind != b.kind) = false := by simp [h1]
    by_cases h2 : a.subj = b.subj
    · have g2 : (a.subj != b.subj) = false := by simp [h2]
      have HR : Hid (a.lt b = decide (a.obj < b.obj)) := by show _ = _; simp [Ky.lt, h1, h2]
      clear h1 h2
      go_enter Try.func54, Try.ntmps54
      go_wp2_with fail
      go_ret
      exact ⟨ret_bool HR.out.symm, hB⟩
    · have g2 : (a.subj != b.subj) = true := by simp [h2]
      have HR : Hid (a.lt b = decide (a.subj < b.subj)) := by show _ = _; simp [Ky.lt, h1, h2]
      clear h1 h2
      go_enter Try.func54, Try.ntmps54
      go_wp2_with fail
      go_ret
      exact ⟨ret_bool HR.out.symm, hB⟩
  · have g1 : (a.kind != b.kind) = true := by simp [h1]
    have HR : Hid (a.lt b = decide (a.kind < b.kind)) := by show _ = _; simp [Ky.lt, h1]
    clear h1
    go_enter Try.func54, Try.ntmps54
    go_wp2_with fail
    go_ret
    exact ⟨ret_bool HR.out.symm, hB⟩
end Go.Proofs.Ytologegkbcedhaa
