/- slices.SortFunc at links; index.ordered. -/
import Derived.Test.YtologegkbcedhaaG1
import Derived.Test.YtologegkbcedhaaG4
import Derived.Test.YtologegkbcedhaaSortRow
import Derived.Test.YtologegkbcedhaaShelfL
import Derived.Test.YtologegkbcedhaaInApp
namespace Go.Proofs.Ytologegkbcedhaa
open Go.RowKit Go.Shelf Go.Sort

set_option maxRecDepth 100000 in
set_option maxHeartbeats 1000000 in
theorem lenL0 (w : World) : Calls Try.prog 68 #[.int .u64 0] w fun e w' => e = .returned (.int .i64 0) ∧ w = w' := by
  go_enter Try.func68, Try.ntmps68
  go_wp2
  go_ret
  exact ⟨ret_int (by kernel_rfl), rfl⟩
set_option maxRecDepth 100000 in
set_option maxHeartbeats 1000000 in
theorem insL_nil (p : Option Addr) (cap : Nat) (fv : Value) (w : World) : Calls Try.prog 76 #[.slice p 0 cap, .int .i64 0, .int .i64 0, fv] w fun e w' => e = .returned (.tuple #[]) ∧ w = w' := by
  go_enter Try.func76, Try.ntmps76
  go_wp2_with fail
  go_loopw [8, 9] (fun i _ wr => i = .int .i64 1 ∧ w = wr) (fun _ _ _ => 0)
  case atStart => exact ⟨rfl, rfl⟩
  case round =>
    obtain ⟨rfl, rfl⟩ := hrel
    go_wp2_with fail
    go_end0
    exact ⟨rfl, rfl⟩
set_option maxRecDepth 100000 in
set_option maxHeartbeats 1000000 in
theorem pdqL_nil (p : Option Addr) (cap : Nat) (fv : Value) (w : World) : Calls Try.prog 67 #[.slice p 0 cap, .int .i64 0, .int .i64 0, .int .i64 0, fv] w fun e w' => e = .returned (.tuple #[]) ∧ w = w' := by
  go_enter Try.func67, Try.ntmps67
  go_wp2_with fail
  refine wp_loop_rounds 1 ?_
  rw [rounds_succ]
  go_wp2_with (go_at_call 76; refine (insL_nil p cap fv _).mono ?_; rintro e w1 ⟨rfl, rfl⟩)
  refine bodyPost_ret (results_none rfl _ _ _) rfl ?_
  exact ⟨rfl, rfl⟩
set_option maxRecDepth 100000 in
set_option maxHeartbeats 1000000 in
theorem sortL_nil (p : Option Addr) (cap : Nat) (fv : Value) (w : World) : Calls Try.prog 49 #[.slice p 0 cap, fv] w fun e w' => e = .returned (.tuple #[]) ∧ w = w' := by
  go_enter Try.func49, Try.ntmps49
  go_wp2_with fail
  refine (lenL0 _).mono ?_
  rintro e w1 ⟨rfl, rfl⟩
  go_wp2_with fail
  refine (pdqL_nil _ _ _ _).mono ?_
  rintro e w1 ⟨rfl, rfl⟩
  go_wp2_with fail
  go_end0
  exact ⟨rfl, rfl⟩

theorem ltOfL (a b : Lk) : ltOf cmpL a b = ltL a b := by
  rw [Bool.eq_iff_iff, ← cmpL_lt]
  simp [ltOf]
theorem swoL : SWO (ltOf cmpL) := by
  refine ⟨fun x => by rw [ltOfL]; exact linL.irr x, fun x y z => ?_, fun x y z => ?_⟩
  · rw [ltOfL, ltOfL, ltOfL]; exact linL.tr x y z
  · rw [ltOfL, ltOfL, ltOfL]
    intro h1 h2
    rcases h : ltL x z with _ | _
    · rfl
    · rcases linL.tri x y with h3 | rfl | h3
      · rw [h3] at h1; cases h1
      · rw [h] at h2; cases h2
      · rw [linL.tr _ _ _ h3 h] at h2; cases h2
theorem aggL (w : World) : (isAgg 49).run Try.prog w = .ok true w := by
  simp [isAgg, run_underlying Try.underlying49]
theorem sizeL (w : World) : (Go.sizeOf 49).run Try.prog w = .ok 6 w := by
  obtain ⟨i0, hi, _, hs, _⟩ := info_parts lInfo
  simp [Go.sizeOf, typeInfo, hi, hs]
theorem sortL_own (base n : Nat) (v : Value) (l : List Lk) (w : World) (hown : w.ownsRow base 49 6 v n (l.flatMap lEnc)) (hn : n < 4611686018427387904) :
    Calls Try.prog 49 #[v, .func (.func 32) #[] #[]] w fun e w' => e = .returned (.tuple #[]) ∧ ∃ d : List Lk, d.Perm l ∧ d.Pairwise (fun x y => ¬ cmpL y x < 0) ∧ w'.ownsRow base 49 6 v n (d.flatMap lEnc) ∧ Kept (fun b => v.ownBlock = some b) w w' := by
  have hlen := own_len lEnc_len (by decide) hown
  rcases hown.2 with ⟨rfl, rfl⟩ | ⟨G, cap, _, rfl, _⟩
  · have hl : l = [] := List.eq_nil_of_length_eq_zero hlen.symm
    subst hl
    exact (sortL_nil _ _ _ _).mono fun e w' ⟨he, hb⟩ => by subst hb; exact ⟨he, [], List.Perm.nil, List.Pairwise.nil, World.ownsRow_nil _ _ _ _, Kept.refl _ _⟩
  · exact (sortFunc_kept (ρ := Try.sortL_ren) Try.sortL aggL sizeL lEnc_len lEnc_one cmpL swoL 32 #[] (enters_of Try.func32 (by kernel_rfl) rfl) l hown (by decide) (fun W x y => (xcmp_any x y W).mono fun e w' ⟨he, hb⟩ => ⟨he, hb.grown⟩) hn).mono fun e w' ⟨he, d, h1, h2, h3, _, h5⟩ => ⟨he, d, h1, h2, h3, h5.mono fun b _ hb => by subst hb; rfl⟩

set_option maxRecDepth 100000 in
set_option maxHeartbeats 1000000 in
theorem lCompact_nil (p : Option Addr) (cap : Nat) (w : World) : Calls Try.prog 50 #[.slice p 0 cap] w fun e w' => e = .returned (.slice p 0 cap) ∧ w = w' := by
  have h2 : ((0 : Nat) : Int) < 2 := by omega
  go_enter Try.func50, Try.ntmps50
  go_wp2_with fail
  go_ret
  exact ⟨rfl, rfl⟩
theorem lCompact_any (base n : Nat) (v : Value) (l : List Lk) (w : World) (hown : w.ownsRow base 49 6 v n (l.flatMap lEnc)) (hbase : base ≤ w.heap.size) :
    Calls Try.prog 50 #[v] w fun e w' => ∃ v' k, e = .returned v' ∧ w'.ownsRow base 49 6 v' k ((comp l).flatMap lEnc) ∧ (∀ g, v'.ownBlock = some g → v.ownBlock = some g) ∧ Kept (fun b => v.ownBlock = some b) w w' := by
  have hlen := own_len lEnc_len (by decide) hown
  rcases hown.2 with ⟨rfl, rfl⟩ | ⟨G, cap, _, rfl, _⟩
  · have hl : l = [] := List.eq_nil_of_length_eq_zero hlen.symm
    subst hl
    refine (lCompact_nil none 0 w).mono ?_
    rintro e w' ⟨rfl, rfl⟩
    exact ⟨_, 0, rfl, World.ownsRow_nil _ _ _ _, fun _ h => h, Kept.refl _ _⟩
  · exact (lCompact_own base n cap G l w hown hbase).mono fun e w' ⟨k, h1, h2, h3⟩ => ⟨_, k, h1, h2, fun _ h => h, h3.mono fun b _ hb => by subst hb; rfl⟩

/-- What ordered hands back. -/
def OrdPost (base : Nat) (l : List Lk) (w : World) (e : Ending) (w' : World) : Prop := ∃ v' k, e = .returned (.agg #[v']) ∧ w'.ownsRow base 49 6 v' k ((ordL l).flatMap lEnc) ∧ Below base w w'
set_option maxRecDepth 100000 in
set_option maxHeartbeats 1000000 in
theorem xordered_any (base n : Nat) (v : Value) (l : List Lk) (w : World) (hown : w.ownsRow base 49 6 v n (l.flatMap lEnc)) (hbase : base ≤ w.heap.size) (hn : n < 4611686018427387904) :
    Calls Try.prog 30 #[v] w (OrdPost base l w) := by
  have HO := hidp (hown.alloc (.cells #[.slice none 0 0] 28))
  have HV : Hid (∀ g, v.ownBlock = some g → base ≤ g ∧ g < w.heap.size) := fun g hg => hown.lt g hg
  have g0 := World.alloc_heap_new w (.cells #[.slice none 0 0] 28)
  have HG := hidp g0
  clear hown g0
  go_enter Try.func30, Try.ntmps30
  go_wp2_with fail
  refine (sortL_own base n v l _ HO.out hn).mono ?_
  rintro e w1 ⟨rfl, d, hp, hs, ho, hb⟩
  have HD : Hid (comp d = ordL l) := comp_ord linL hp (hs.imp fun {x y} h => by
    rcases hl : ltL y x with _ | _
    · rfl
    · exact absurd ((cmpL_lt y x).2 hl) h)
  have HO1 := hidp ho
  have HB := hidp hb
  clear hp hs ho hb
  go_wp2_with fail
  refine (lCompact_any base n v d _ HO1.out (Nat.le_trans hbase (Nat.le_trans (by simp) HB.out.size))).mono ?_
  rintro e w2 ⟨v', k, rfl, h1, hq, h2⟩
  obtain ⟨A5, c5, rfl, _⟩ := own_rows lEnc_len (by decide) h1
  have H1 := hidp h1
  have hk := HB.out.trans h2
  have hnv : ¬ v.ownBlock = some w.heap.size := fun h => by have := (HV.out _ h).2; omega
  have e2 : w2.heap[w.heap.size]? = some (.cells #[.slice none 0 0] 28 (0, 0)) := (hk.block _ (by simp) hnv).trans HG.out
  have HK := hidp hk
  have s2 := frozen_of_heap (o := 0) e2
  have l2 := lt_of_heap e2
  have d2 : w2.cell? ⟨w.heap.size, 0, none⟩ = some (.slice none 0 0) := by rw [cell_of_heap e2]; rfl
  have d3 : (w2.setCell ⟨w.heap.size, 0, none⟩ (.slice A5 k c5)).cell? ⟨w.heap.size, 0, none⟩ = some (.slice A5 k c5) := by rw [cell_of_heap (heap_set1 e2 _)]; rfl
  have E2 := hidp e2
  have HNV : Hid (¬ (Value.slice A5 k c5).ownBlock = some w.heap.size) := fun h => hnv (hq _ h)
  clear h1 h2 hk hnv e2 hq
  go_wp2_with fail
  refine bodyPost_ret (v := .agg #[.slice A5 k c5]) ?_ rfl ?_
  · simp [results, Try.f30, go_sem, d3]
  · have hs := HK.out
    refine ⟨_, k, rfl, ?_, ?_⟩
    · rw [← HD.out]
      exact own_keepB H1.out fun g hg => heap_set_ne rfl (fun e => HNV.out (hg.trans (congrArg some e))) _ _
    · exact (((Kept.refl (fun b => v.ownBlock = some b) w).alloc _).trans hs |>.setCell (.inr (Nat.le_refl _)) _).toBelow hbase (fun b hb h => by have := (HV.out _ h).1; omega)
end Go.Proofs.Ytologegkbcedhaa
