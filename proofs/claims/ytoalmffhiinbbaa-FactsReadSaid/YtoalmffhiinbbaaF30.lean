/- grade walked; what the chapter's examples answer, plainly. -/
import Derived.Test.YtoalmffhiinbbaaF29
import Derived.Test.YtoalmffhiinbbaaF25
import Derived.Test.YtoalmffhiinbbaaF21
import Derived.Test.YtoalmffhiinbbaaF11
namespace Go.Proofs.Ytoalmffhiinbbaa
open Go.RowKit Go.Shelf

def gr (v fr to known no : Int) : Fc := ⟨⟨5, 4, 9⟩, v, fr, to, known, no⟩
set_option maxRecDepth 100000 in
set_option maxHeartbeats 1000000 in
theorem grade_any (v fr to known no : Int) (w : World) : Calls Try.prog 31 #[.int .i64 v, .int .i64 fr, .int .i64 to, .int .i64 known, .int .i64 no] w fun e w' => e = .returned (.agg #[.int .i64 5, .int .i64 4, .int .i64 9, .int .i64 v, .int .i64 fr, .int .i64 to, .int .i64 known, .int .i64 no]) ∧ Below w.heap.size w w' := by
  go_enter Try.func31, Try.ntmps31
  go_wp2_with fail
  exact bodyPost_ret (v := .agg #[.int .i64 5, .int .i64 4, .int .i64 9, .int .i64 v, .int .i64 fr, .int .i64 to, .int .i64 known, .int .i64 no]) (by simp [results, Try.results31, go_sem]) rfl ⟨rfl, (Below.refl _ _).alloc (Nat.le_refl _) _⟩

def exL : List Fc := [gr 7 2 6 10 0, gr (-1) 3 4 20 0]
def exK : Ky := ⟨5, 4, 9⟩
theorem ex_at1 : atF exL exK 3 15 = some 7 := by decide +kernel
theorem ex_at2 : atF exL exK 3 20 = none := by decide +kernel
theorem ex_at3 : atF exL exK 2 20 = some 7 := by decide +kernel
theorem ex_at4 : atF [] exK 0 0 = none := by decide +kernel
theorem ex_add1 : addE [gr 7 2 6 10 0] (gr (-1) 3 4 20 0) = 0 := by decide +kernel
theorem ex_add2 : addL [gr 7 2 6 10 0] (gr (-1) 3 4 20 0) = exL := by decide +kernel
theorem ex_add3 : addE exL (gr 7 2 6 20 0) = 71 := by decide +kernel
theorem ex_check1 : checkF [⟨⟨0, 0, 0⟩, 0, 0, 0, 0, 0⟩] = 70 := by decide +kernel
theorem ex_check2 : checkF exL = 0 := by decide +kernel
theorem ex_points1 : pointsF exL exK 5 5 20 = [] := by decide +kernel
theorem ex_points2 : (pointsF exL exK 0 9 20).length = 3 := by decide +kernel
theorem ex_changed : changedF exL 15 20 = [(exK, [(3, 4)])] := by decide +kernel
theorem ex_alike1 : alikeF exL [] 1 2 = true := by decide +kernel
theorem ex_alike2 : alikeF exL [(exK, 0, 9)] 15 20 = false := by decide +kernel
theorem ex_upto : uptoF exL 19 = [gr 7 2 6 10 0] := by decide +kernel
end Go.Proofs.Ytoalmffhiinbbaa
