import Derived.Test.YtefjigjjanjlkaaRows
import Derived.Test.YtefjigjjanjlkaaCore
import Derived.WalkKit
import Derived.WalkSpells
import Derived.WalkLawsBesides
import Derived.Deep.QuietTactic
import Derived.BigQuiet
namespace Go.Proofs.Ytefjigjjanjlkaa
open Go.RowKit

structure Mt where
  (day fr to first last : Int)

def Mt.ok (m : Mt) : Bool := decide (0 ≤ m.day) && decide (m.day < 7) && decide (0 ≤ m.fr) && decide (m.fr < m.to) && decide (m.to ≤ 1440) && decide (0 ≤ m.first) && decide (m.first ≤ m.last) && decide (m.last < 60)
def Mt.ov (a b : Mt) : Bool := decide (a.day = b.day) && decide (a.fr < b.to) && decide (b.fr < a.to) && decide (a.first ≤ b.last) && decide (b.first ≤ a.last)

set_option maxHeartbeats 400000 in
theorem valid_any (m : Mt) (w : World) :
    Calls Try.prog 30 #[.agg #[.int .i64 m.day, .int .i64 m.fr, .int .i64 m.to, .int .i64 m.first, .int .i64 m.last]] w fun e w' => e = .returned (.bool m.ok) ∧ Below w.heap.size w w' := by
  go_enter Try.func30, Try.ntmps30
  go_wp2_with fail
  all_goals
    go_ret
    refine ⟨ret_bool (by rw [Bool.eq_iff_iff]; simp [Mt.ok]; try omega), (Below.refl _ _).alloc (Nat.le_refl _) _⟩

set_option maxHeartbeats 400000 in
theorem overlaps_any (m x : Mt) (w : World) :
    Calls Try.prog 29 #[.agg #[.int .i64 m.day, .int .i64 m.fr, .int .i64 m.to, .int .i64 m.first, .int .i64 m.last], .agg #[.int .i64 x.day, .int .i64 x.fr, .int .i64 x.to, .int .i64 x.first, .int .i64 x.last]] w fun e w' => e = .returned (.bool (decide (m.day = x.day) && decide (max m.fr x.fr < min m.to x.to) && decide (max m.first x.first ≤ min m.last x.last))) ∧ Below w.heap.size w w' := by
  go_enter Try.func29, Try.ntmps29
  go_wp2_with fail
  all_goals
    go_ret
    refine ⟨ret_bool (by rw [Bool.eq_iff_iff]; simp; try omega), ((Below.refl _ _).alloc (Nat.le_refl _) _).alloc (by simp) _⟩
set_option maxHeartbeats 400000 in
theorem rOverlap_any (m x : Mt) (w : World) :
    Calls Try.prog 33 #[.agg #[.int .i64 m.day, .int .i64 m.fr, .int .i64 m.to, .int .i64 m.first, .int .i64 m.last], .agg #[.int .i64 x.day, .int .i64 x.fr, .int .i64 x.to, .int .i64 x.first, .int .i64 x.last]] w fun e w' => e = .returned (.bool (m.ov x)) ∧ Below w.heap.size w w' := by
  go_enter Try.func33, Try.ntmps33
  go_wp2_with fail
  all_goals
    go_ret
    refine ⟨ret_bool (by rw [Bool.eq_iff_iff]; simp [Mt.ov]; try omega), ((Below.refl _ _).alloc (Nat.le_refl _) _).alloc (by simp) _⟩
set_option maxHeartbeats 400000 in
theorem rValid_any (m : Mt) (w : World) :
    Calls Try.prog 32 #[.agg #[.int .i64 m.day, .int .i64 m.fr, .int .i64 m.to, .int .i64 m.first, .int .i64 m.last]] w fun e w' => e = .returned (.bool m.ok) ∧ Below w.heap.size w w' := by
  go_enter Try.func32, Try.ntmps32
  go_wp2_with fail
  all_goals
    go_ret
    refine ⟨ret_bool (by rw [Bool.eq_iff_iff]; simp [Mt.ok]; try omega), (Below.refl _ _).alloc (Nat.le_refl _) _⟩
set_option maxHeartbeats 400000 in
theorem rCovers_any (m : Mt) (day week minute : Int) (w : World) :
    Calls Try.prog 27 #[.agg #[.int .i64 m.day, .int .i64 m.fr, .int .i64 m.to, .int .i64 m.first, .int .i64 m.last], .int .i64 day, .int .i64 week, .int .i64 minute] w fun e w' => e = .returned (.bool (decide (m.day = day) && decide (m.first ≤ week) && decide (week ≤ m.last) && decide (m.fr ≤ minute) && decide (minute < m.to))) ∧ Below w.heap.size w w' := by
  go_enter Try.func27, Try.ntmps27
  go_wp2_with fail
  all_goals
    go_ret
    refine ⟨ret_bool (by rw [Bool.eq_iff_iff]; simp; try omega), (Below.refl _ _).alloc (Nat.le_refl _) _⟩
end Go.Proofs.Ytefjigjjanjlkaa
