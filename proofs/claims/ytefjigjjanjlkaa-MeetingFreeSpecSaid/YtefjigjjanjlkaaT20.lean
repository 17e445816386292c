import Derived.Test.YtefjigjjanjlkaaT19
import Derived.Test.YtefjigjjanjlkaaSortRow
namespace Go.Proofs.Ytefjigjjanjlkaa
open Go.RowKit Go.Shelf Go.Sort

def cmpI (x y : Int) : Int := if x < y then -1 else if y < x then 1 else 0
instance : Inhabited Mt := ⟨⟨0, 0, 0, 0, 0⟩⟩
def cmpFr (x y : Mt) : Int := cmpI x.fr y.fr
theorem cmpI_lt (x y : Int) : (cmpI x y < 0) ↔ x < y := by
  unfold cmpI; split
  · simp [*]
  · split <;> simp [*]
theorem swoFr : SWO (ltOf cmpFr) := by
  have h : ∀ x y, ltOf cmpFr x y = decide (x.fr < y.fr) := fun x y => by simp [ltOf, cmpFr, cmpI_lt]
  refine ⟨fun x => ?_, fun x y z => ?_, fun x y z => ?_⟩ <;> simp only [h, decide_eq_true_eq, decide_eq_false_iff_not] <;> omega

set_option maxRecDepth 100000 in
set_option maxHeartbeats 1000000 in
theorem isNaN_any (x : Int) (w : World) : Calls Try.prog 37 #[.int .i64 x] w fun e w' => e = .returned (.bool false) ∧ w' = w := by
  have hx : (x != x) = false := by simp
  go_enter Try.func37, Try.ntmps37
  go_wp2
  go_ret
  exact ⟨rfl, rfl⟩
set_option maxRecDepth 100000 in
set_option maxHeartbeats 1000000 in
theorem compare_any (x y : Int) (w : World) : Calls Try.prog 26 #[.int .i64 x, .int .i64 y] w fun e w' => e = .returned (.int .i64 (cmpI x y)) ∧ w' = w := by
  go_enter Try.func26, Try.ntmps26
  rcases Int.lt_trichotomy x y with h | h | h
  · have e1 : cmpI x y = -1 := by simp [cmpI, h]
    rw [e1]
    go_wp2_with fail
    refine (isNaN_any _ _).mono ?_
    rintro e w1 ⟨rfl, rfl⟩
    go_wp2_with fail
    refine (isNaN_any _ _).mono ?_
    rintro e w2 ⟨rfl, rfl⟩
    go_wp2_with fail
    all_goals (go_ret; exact ⟨rfl, rfl⟩)
  · subst h
    have e1 : cmpI x x = 0 := by simp [cmpI]
    rw [e1]
    go_wp2_with fail
    refine (isNaN_any _ _).mono ?_
    rintro e w1 ⟨rfl, rfl⟩
    go_wp2_with fail
    refine (isNaN_any _ _).mono ?_
    rintro e w2 ⟨rfl, rfl⟩
    go_wp2_with fail
    all_goals (go_ret; exact ⟨rfl, rfl⟩)
  · have e1 : cmpI x y = 1 := by
      have : ¬ x < y := by omega
      simp [cmpI, h, this]
    have h' : ¬ x < y := by omega
    rw [e1]
    go_wp2_with fail
    refine (isNaN_any _ _).mono ?_
    rintro e w1 ⟨rfl, rfl⟩
    go_wp2_with fail
    refine (isNaN_any _ _).mono ?_
    rintro e w2 ⟨rfl, rfl⟩
    go_wp2_with fail
    all_goals (go_ret; exact ⟨rfl, rfl⟩)
set_option maxRecDepth 100000 in
set_option maxHeartbeats 1000000 in
theorem cmpFr_any (W : World) (x y : Mt) : Calls Try.prog 25 (#[.agg (mEnc x).toArray, .agg (mEnc y).toArray] ++ #[]) W fun e w' => e = .returned (.int .i64 (cmpFr x y)) ∧ ∃ q os', w' = grow (W.drewN q) os' := by
  show Calls Try.prog 25 #[.agg #[.int .i64 x.day, .int .i64 x.fr, .int .i64 x.to, .int .i64 x.first, .int .i64 x.last], .agg #[.int .i64 y.day, .int .i64 y.fr, .int .i64 y.to, .int .i64 y.first, .int .i64 y.last]] W _
  go_enter Try.func25, Try.ntmps25
  go_wp2_with fail
  refine (compare_any _ _ _).mono ?_
  rintro e w1 ⟨rfl, rfl⟩
  go_wp2_with fail
  go_ret
  exact ⟨rfl, 0, #[.cells (mEnc x).toArray 38, .cells (mEnc y).toArray 38], rfl⟩

set_option maxRecDepth 100000 in
set_option maxHeartbeats 1000000 in
theorem free1_any (bd bw : Nat) (day week : Int) (m : Mt) (W : World) (hd : W.heap[bd]? = some (.cells #[.int .i64 day] 3 (0, 0))) (hw : W.heap[bw]? = some (.cells #[.int .i64 week] 3 (0, 0))) :
    Calls Try.prog 23 #[.agg #[.int .i64 m.day, .int .i64 m.fr, .int .i64 m.to, .int .i64 m.first, .int .i64 m.last], .pointer (some ⟨bd, 0, none⟩), .pointer (some ⟨bw, 0, none⟩)] W fun e w' =>
      e = .returned (.bool (m.day != day || decide (week < m.first) || decide (m.last < week))) ∧ Below W.heap.size W w' := by
  have c1 := cell_of_heap (o := 0) hd
  have c2 := cell_of_heap (o := 0) hw
  have h1 := lt_of_heap hd
  have h2 := lt_of_heap hw
  simp only [List.getElem?_toArray, List.getElem?_cons_zero] at c1 c2
  have hB : Below W.heap.size W (W.alloc (.cells #[.int .i64 m.day, .int .i64 m.fr, .int .i64 m.to, .int .i64 m.first, .int .i64 m.last] 38)) := (Below.refl _ W).alloc (Nat.le_refl _) _
  obtain ⟨z1, hz1⟩ : ∃ z, (m.day != day) = z := ⟨_, rfl⟩
  obtain ⟨z2, hz2⟩ : ∃ z, decide (week < m.first) = z := ⟨_, rfl⟩
  obtain ⟨z3, hz3⟩ : ∃ z, decide (m.last < week) = z := ⟨_, rfl⟩
  rw [hz1, hz2, hz3]
  go_enter Try.func23, Try.ntmps23
  cases z1 <;> cases z2 <;> go_wp2_with fail
  all_goals (go_ret; exact ⟨by simp_all, hB⟩)
theorem agg38 (w : World) : (isAgg 38).run Try.prog w = .ok true w := by
  simp [isAgg, run_underlying Try.underlying38]
theorem size38 (w : World) : (Go.sizeOf 38).run Try.prog w = .ok 5 w := by
  obtain ⟨i0, hi, _, hs, _⟩ := info_parts mtInfo
  simp [Go.sizeOf, typeInfo, hi, hs]
theorem sort_any (base n cap G : Nat) (l : List Mt) (w : World) (hown : w.ownsRow base 38 5 (.slice (some ⟨G, 0, none⟩) n cap) n (l.flatMap mEnc)) (hn : n < 4611686018427387904) :
    Calls Try.prog 24 #[.slice (some ⟨G, 0, none⟩) n cap, .func (.func 25) #[] #[]] w fun e w' => e = .returned (.tuple #[]) ∧ ∃ d : List Mt, d.Perm l ∧ d.Pairwise (fun x y => x.fr ≤ y.fr) ∧
      w'.ownsRow base 38 5 (.slice (some ⟨G, 0, none⟩) n cap) n (d.flatMap mEnc) ∧ Below base w w' := by
  refine (sortFunc_own (ρ := Try.sortM_ren) Try.sortM agg38 size38 mEnc_len mEnc_one cmpFr swoFr 25 #[] (enters_of Try.func25 (by kernel_rfl) rfl) l hown (by decide) (fun W x y => cmpFr_any W x y) hn).mono ?_
  rintro e w' ⟨he, d, h1, h2, h3, h4⟩
  refine ⟨he, d, h1, h2.imp fun {x y} h => ?_, h3, h4⟩
  rw [cmpFr, cmpI_lt] at h
  omega
end Go.Proofs.Ytefjigjjanjlkaa
