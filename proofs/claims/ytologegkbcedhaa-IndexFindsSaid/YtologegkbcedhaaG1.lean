/- index.compareKeys, index.compare walked. -/
import Derived.Test.YtologegkbcedhaaF1
import Derived.Test.YtologegkbcedhaaG0
namespace Go.Proofs.Ytologegkbcedhaa
open Go.RowKit Go.Sort RelD

set_option maxRecDepth 100000 in
set_option maxHeartbeats 4000000 in
theorem xcmpKeys_any (a b : Ky) (w : World) : Calls Try.prog 52 #[.agg (kEnc a).toArray, .agg (kEnc b).toArray] w fun e w' => e = .returned (.int .i64 (cmpK a b)) ∧ BelowD w.heap.size w w' := by
  show Calls Try.prog 52 #[.agg #[.int .i64 a.kind, .int .i64 a.subj, .int .i64 a.obj], .agg #[.int .i64 b.kind, .int .i64 b.subj, .int .i64 b.obj]] w _
  have hB : BelowD w.heap.size w ((w.alloc (.cells (kEnc a).toArray 45)).alloc (.cells (kEnc b).toArray 45)) := ((BelowD.refl _ w).alloc (Nat.le_refl _) _).alloc (by simp) _
  have h1 : ((w.alloc (.cells (kEnc a).toArray 45)).alloc (.cells (kEnc b).toArray 45)).heap[w.heap.size]? = some (.cells (kEnc a).toArray 45 (0, 0)) := (Below.heap_alloc _ _ _ (by simp)).trans (World.alloc_heap_new _ _)
  have h2 : ((w.alloc (.cells (kEnc a).toArray 45)).alloc (.cells (kEnc b).toArray 45)).heap[w.heap.size + 1]? = some (.cells (kEnc b).toArray 45 (0, 0)) := by
    have := World.alloc_heap_new (w.alloc (.cells (kEnc a).toArray 45)) (.cells (kEnc b).toArray 45)
    rwa [World.size_alloc] at this
  have hB' := hidp hB
  have h1' := hidp h1
  have h2' := hidp h2
  clear hB h1 h2
  go_enter Try.func52, Try.ntmps52
  go_wp2_with fail
  generalize hwr : (w.alloc (.cells #[.int .i64 a.kind, .int .i64 a.subj, .int .i64 a.obj] 45)).alloc (.cells #[.int .i64 b.kind, .int .i64 b.subj, .int .i64 b.obj] 45) = wr
  have hBr : BelowD w.heap.size w wr := hwr ▸ hB'.out
  have g1 : wr.heap[w.heap.size]? = some (.cells (kEnc a).toArray 45 (0, 0)) := hwr ▸ h1'.out
  have g2 : wr.heap[w.heap.size + 1]? = some (.cells (kEnc b).toArray 45 (0, 0)) := hwr ▸ h2'.out
  clear hwr hB' h1' h2'
  have hcell : ∀ w9, BelowD wr.heap.size wr w9 → w9.cell? ⟨w.heap.size, 0, none⟩ = some (.int .i64 a.kind) ∧ w9.cell? ⟨w.heap.size + 1, 0, none⟩ = some (.int .i64 b.kind) ∧ w9.cell? ⟨w.heap.size, 1, none⟩ = some (.int .i64 a.subj) ∧ w9.cell? ⟨w.heap.size + 1, 1, none⟩ = some (.int .i64 b.subj) ∧ w9.cell? ⟨w.heap.size, 2, none⟩ = some (.int .i64 a.obj) ∧ w9.cell? ⟨w.heap.size + 1, 2, none⟩ = some (.int .i64 b.obj) := by
    intro w9 h9
    have i1 := (h9.block _ (lt_of_heap g1)).trans g1
    have i2 := (h9.block _ (lt_of_heap g2)).trans g2
    exact ⟨cell_of_heap i1, cell_of_heap i2, cell_of_heap i1, cell_of_heap i2, cell_of_heap i1, cell_of_heap i2⟩
  have HC := hidp hcell
  clear hcell g1 g2
  refine RelD.wp_region_rel wr.heap.size (fun _ => false) (fun _ => true) (Nat.le_refl _) (by kernel_rfl) (by kernel_rfl) (by kernel_rfl) ?_
  iterate 4
    try dsimp only [List.nil_append, List.cons_append]
    apply RelD.rel_det
    · repeat (first | refine RelD.obl_skip (by rfl) ?_ | refine RelD.obl_det (by rfl) ?_ | refine RelD.obl_var (by rfl) fun _ => ?_)
      intro w9 hw9
      refine RelD.relAt_wanted (by rfl) ?_
      obtain ⟨c0a, c0b, c1a, c1b, c2a, c2b⟩ := HC.out w9 hw9
      go_simp
      exact ⟨BelowD.refl _ _, rfl⟩
  try dsimp only [List.nil_append, List.cons_append]
  refine RelD.rel_det (x := .int .i64 (cmpI (a.kind) (b.kind))) ?_ ?_
  · repeat (first | refine RelD.obl_skip (by rfl) ?_ | refine RelD.obl_det (by rfl) ?_ | refine RelD.obl_var (by rfl) fun _ => ?_)
    intro w9 hw9
    refine RelD.relAt_wanted (by rfl) ?_
    go_simp
    refine (cmp_any _ _ _).mono ?_
    rintro e w1 ⟨rfl, rfl⟩
    exact ⟨_, rfl, BelowD.refl _ _, rfl⟩
  iterate 4
    try dsimp only [List.nil_append, List.cons_append]
    apply RelD.rel_det
    · repeat (first | refine RelD.obl_skip (by rfl) ?_ | refine RelD.obl_det (by rfl) ?_ | refine RelD.obl_var (by rfl) fun _ => ?_)
      intro w9 hw9
      refine RelD.relAt_wanted (by rfl) ?_
      obtain ⟨c0a, c0b, c1a, c1b, c2a, c2b⟩ := HC.out w9 hw9
      go_simp
      exact ⟨BelowD.refl _ _, rfl⟩
  try dsimp only [List.nil_append, List.cons_append]
  refine RelD.rel_det (x := .int .i64 (cmpI (a.subj) (b.subj))) ?_ ?_
  · repeat (first | refine RelD.obl_skip (by rfl) ?_ | refine RelD.obl_det (by rfl) ?_ | refine RelD.obl_var (by rfl) fun _ => ?_)
    intro w9 hw9
    refine RelD.relAt_wanted (by rfl) ?_
    go_simp
    refine (cmp_any _ _ _).mono ?_
    rintro e w1 ⟨rfl, rfl⟩
    exact ⟨_, rfl, BelowD.refl _ _, rfl⟩
  iterate 4
    try dsimp only [List.nil_append, List.cons_append]
    apply RelD.rel_det
    · repeat (first | refine RelD.obl_skip (by rfl) ?_ | refine RelD.obl_det (by rfl) ?_ | refine RelD.obl_var (by rfl) fun _ => ?_)
      intro w9 hw9
      refine RelD.relAt_wanted (by rfl) ?_
      obtain ⟨c0a, c0b, c1a, c1b, c2a, c2b⟩ := HC.out w9 hw9
      go_simp
      exact ⟨BelowD.refl _ _, rfl⟩
  try dsimp only [List.nil_append, List.cons_append]
  refine RelD.rel_det (x := .int .i64 (cmpI (a.obj) (b.obj))) ?_ ?_
  · repeat (first | refine RelD.obl_skip (by rfl) ?_ | refine RelD.obl_det (by rfl) ?_ | refine RelD.obl_var (by rfl) fun _ => ?_)
    intro w9 hw9
    refine RelD.relAt_wanted (by rfl) ?_
    go_simp
    refine (cmp_any _ _ _).mono ?_
    rintro e w1 ⟨rfl, rfl⟩
    exact ⟨_, rfl, BelowD.refl _ _, rfl⟩
  try dsimp only [List.nil_append, List.cons_append]
  refine RelD.rel_any (fun v w => ∃ A c, v = .slice A 3 c ∧ ISl w w.heap.size A 3 c [cmpI (a.kind) (b.kind), cmpI (a.subj) (b.subj), cmpI (a.obj) (b.obj)]) rfl (rows_stableD iStable _ _) ?_ ?_
  · repeat (first | refine RelD.obl_skip (by rfl) ?_ | refine RelD.obl_det (by rfl) ?_ | refine RelD.obl_var (by rfl) fun _ => ?_)
    intro w9 hw9
    refine RelD.relAt_cps (by rfl) fun T' hT' => ?_
    go_simp
    exact ⟨(BelowD.refl _ w9).alloc (Nat.le_refl _) _, hT' _ _ ⟨_, _, rfl, rows_of_heap (l := [_, _, _]) iEnc_len (World.alloc_heap_new w9 _) (Nat.le_refl _) (by decide) rfl⟩⟩
  try dsimp only [List.nil_append, List.cons_append]
  refine RelD.rel_det (x := .int .i64 (cmpK a b)) ?_ ?_
  · repeat (first | refine RelD.obl_skip (by rfl) ?_ | refine RelD.obl_det (by rfl) ?_ | refine RelD.obl_var (by rfl) fun _ => ?_)
    rintro w9 ⟨hw9, A, c, rfl, hr⟩
    refine RelD.relAt_wanted (by rfl) ?_
    go_simp
    refine (or_any _ _ _ _ _ hr).mono ?_
    rintro e w1 ⟨rfl, rfl⟩
    exact ⟨_, rfl, BelowD.refl _ _, rfl⟩
  try dsimp only [List.nil_append, List.cons_append]
  apply RelD.rel_det
  · repeat (first | refine RelD.obl_skip (by rfl) ?_ | refine RelD.obl_det (by rfl) ?_ | refine RelD.obl_var (by rfl) fun _ => ?_)
    intro w9 hw9
    refine RelD.relAt_wanted (by rfl) ?_
    go_simp
    exact ⟨BelowD.refl _ _, rfl⟩
  try dsimp only [List.nil_append, List.cons_append]
  iterate 17 refine RelD.fin_dead fun _ => ?_
  refine RelD.fin_det rfl ?_
  rintro w4 hb4
  go_frame
  go_wp2_with fail
  go_ret
  exact ⟨rfl, hBr.trans (hb4.mono hBr.size)⟩
set_option maxRecDepth 100000 in
set_option maxHeartbeats 4000000 in
theorem xcmp_any (a b : Lk) (w : World) : Calls Try.prog 32 #[.agg (lEnc a).toArray, .agg (lEnc b).toArray] w fun e w' => e = .returned (.int .i64 (cmpL a b)) ∧ BelowD w.heap.size w w' := by
  show Calls Try.prog 32 #[.agg #[.int .i64 a.1.1.kind, .int .i64 a.1.1.subj, .int .i64 a.1.1.obj, .int .i64 a.1.2.1, .int .i64 a.1.2.2, .int .i64 a.2], .agg #[.int .i64 b.1.1.kind, .int .i64 b.1.1.subj, .int .i64 b.1.1.obj, .int .i64 b.1.2.1, .int .i64 b.1.2.2, .int .i64 b.2]] w _
  have hB : BelowD w.heap.size w ((w.alloc (.cells (lEnc a).toArray 49)).alloc (.cells (lEnc b).toArray 49)) := ((BelowD.refl _ w).alloc (Nat.le_refl _) _).alloc (by simp) _
  have h1 : ((w.alloc (.cells (lEnc a).toArray 49)).alloc (.cells (lEnc b).toArray 49)).heap[w.heap.size]? = some (.cells (lEnc a).toArray 49 (0, 0)) := (Below.heap_alloc _ _ _ (by simp)).trans (World.alloc_heap_new _ _)
  have h2 : ((w.alloc (.cells (lEnc a).toArray 49)).alloc (.cells (lEnc b).toArray 49)).heap[w.heap.size + 1]? = some (.cells (lEnc b).toArray 49 (0, 0)) := by
    have := World.alloc_heap_new (w.alloc (.cells (lEnc a).toArray 49)) (.cells (lEnc b).toArray 49)
    rwa [World.size_alloc] at this
  have hB' := hidp hB
  have h1' := hidp h1
  have h2' := hidp h2
  clear hB h1 h2
  go_enter Try.func32, Try.ntmps32
  go_wp2_with fail
  generalize hwr : (w.alloc (.cells #[.int .i64 a.1.1.kind, .int .i64 a.1.1.subj, .int .i64 a.1.1.obj, .int .i64 a.1.2.1, .int .i64 a.1.2.2, .int .i64 a.2] 49)).alloc (.cells #[.int .i64 b.1.1.kind, .int .i64 b.1.1.subj, .int .i64 b.1.1.obj, .int .i64 b.1.2.1, .int .i64 b.1.2.2, .int .i64 b.2] 49) = wr
  have hBr : BelowD w.heap.size w wr := hwr ▸ hB'.out
  have g1 : wr.heap[w.heap.size]? = some (.cells (lEnc a).toArray 49 (0, 0)) := hwr ▸ h1'.out
  have g2 : wr.heap[w.heap.size + 1]? = some (.cells (lEnc b).toArray 49 (0, 0)) := hwr ▸ h2'.out
  clear hwr hB' h1' h2'
  have hcell : ∀ w9, BelowD wr.heap.size wr w9 → w9.cell? ⟨w.heap.size, 0, none⟩ = some (.int .i64 a.1.1.kind) ∧ w9.cell? ⟨w.heap.size + 1, 0, none⟩ = some (.int .i64 b.1.1.kind) ∧ w9.cell? ⟨w.heap.size, 1, none⟩ = some (.int .i64 a.1.1.subj) ∧ w9.cell? ⟨w.heap.size + 1, 1, none⟩ = some (.int .i64 b.1.1.subj) ∧ w9.cell? ⟨w.heap.size, 2, none⟩ = some (.int .i64 a.1.1.obj) ∧ w9.cell? ⟨w.heap.size + 1, 2, none⟩ = some (.int .i64 b.1.1.obj) ∧ w9.cell? ⟨w.heap.size, 3, none⟩ = some (.int .i64 a.1.2.1) ∧ w9.cell? ⟨w.heap.size + 1, 3, none⟩ = some (.int .i64 b.1.2.1) ∧ w9.cell? ⟨w.heap.size, 4, none⟩ = some (.int .i64 a.1.2.2) ∧ w9.cell? ⟨w.heap.size + 1, 4, none⟩ = some (.int .i64 b.1.2.2) ∧ w9.cell? ⟨w.heap.size, 5, none⟩ = some (.int .i64 a.2) ∧ w9.cell? ⟨w.heap.size + 1, 5, none⟩ = some (.int .i64 b.2) := by
    intro w9 h9
    have i1 := (h9.block _ (lt_of_heap g1)).trans g1
    have i2 := (h9.block _ (lt_of_heap g2)).trans g2
    exact ⟨cell_of_heap i1, cell_of_heap i2, cell_of_heap i1, cell_of_heap i2, cell_of_heap i1, cell_of_heap i2, cell_of_heap i1, cell_of_heap i2, cell_of_heap i1, cell_of_heap i2, cell_of_heap i1, cell_of_heap i2⟩
  have HC := hidp hcell
  clear hcell g1 g2
  refine RelD.wp_region_rel wr.heap.size (fun _ => false) (fun _ => true) (Nat.le_refl _) (by kernel_rfl) (by kernel_rfl) (by kernel_rfl) ?_
  iterate 6
    try dsimp only [List.nil_append, List.cons_append]
    apply RelD.rel_det
    · repeat (first | refine RelD.obl_skip (by rfl) ?_ | refine RelD.obl_det (by rfl) ?_ | refine RelD.obl_var (by rfl) fun _ => ?_)
      intro w9 hw9
      refine RelD.relAt_wanted (by rfl) ?_
      obtain ⟨c0a, c0b, c1a, c1b, c2a, c2b, c3a, c3b, c4a, c4b, c5a, c5b⟩ := HC.out w9 hw9
      go_simp
      exact ⟨BelowD.refl _ _, rfl⟩
  try dsimp only [List.nil_append, List.cons_append]
  refine RelD.rel_det (x := .int .i64 (cmpK (a.1.1) (b.1.1))) ?_ ?_
  · repeat (first | refine RelD.obl_skip (by rfl) ?_ | refine RelD.obl_det (by rfl) ?_ | refine RelD.obl_var (by rfl) fun _ => ?_)
    intro w9 hw9
    refine RelD.relAt_wanted (by rfl) ?_
    go_simp
    refine (xcmpKeys_any _ _ _).mono ?_
    rintro e w1 ⟨rfl, hq⟩
    exact ⟨_, rfl, hq, rfl⟩
  iterate 6
    try dsimp only [List.nil_append, List.cons_append]
    apply RelD.rel_det
    · repeat (first | refine RelD.obl_skip (by rfl) ?_ | refine RelD.obl_det (by rfl) ?_ | refine RelD.obl_var (by rfl) fun _ => ?_)
      intro w9 hw9
      refine RelD.relAt_wanted (by rfl) ?_
      obtain ⟨c0a, c0b, c1a, c1b, c2a, c2b, c3a, c3b, c4a, c4b, c5a, c5b⟩ := HC.out w9 hw9
      go_simp
      exact ⟨BelowD.refl _ _, rfl⟩
  try dsimp only [List.nil_append, List.cons_append]
  refine RelD.rel_det (x := .int .i64 (cmpI (a.1.2.1) (b.1.2.1))) ?_ ?_
  · repeat (first | refine RelD.obl_skip (by rfl) ?_ | refine RelD.obl_det (by rfl) ?_ | refine RelD.obl_var (by rfl) fun _ => ?_)
    intro w9 hw9
    refine RelD.relAt_wanted (by rfl) ?_
    go_simp
    refine (cmp_any _ _ _).mono ?_
    rintro e w1 ⟨rfl, rfl⟩
    exact ⟨_, rfl, BelowD.refl _ _, rfl⟩
  iterate 6
    try dsimp only [List.nil_append, List.cons_append]
    apply RelD.rel_det
    · repeat (first | refine RelD.obl_skip (by rfl) ?_ | refine RelD.obl_det (by rfl) ?_ | refine RelD.obl_var (by rfl) fun _ => ?_)
      intro w9 hw9
      refine RelD.relAt_wanted (by rfl) ?_
      obtain ⟨c0a, c0b, c1a, c1b, c2a, c2b, c3a, c3b, c4a, c4b, c5a, c5b⟩ := HC.out w9 hw9
      go_simp
      exact ⟨BelowD.refl _ _, rfl⟩
  try dsimp only [List.nil_append, List.cons_append]
  refine RelD.rel_det (x := .int .i64 (cmpI (a.1.2.2) (b.1.2.2))) ?_ ?_
  · repeat (first | refine RelD.obl_skip (by rfl) ?_ | refine RelD.obl_det (by rfl) ?_ | refine RelD.obl_var (by rfl) fun _ => ?_)
    intro w9 hw9
    refine RelD.relAt_wanted (by rfl) ?_
    go_simp
    refine (cmp_any _ _ _).mono ?_
    rintro e w1 ⟨rfl, rfl⟩
    exact ⟨_, rfl, BelowD.refl _ _, rfl⟩
  iterate 4
    try dsimp only [List.nil_append, List.cons_append]
    apply RelD.rel_det
    · repeat (first | refine RelD.obl_skip (by rfl) ?_ | refine RelD.obl_det (by rfl) ?_ | refine RelD.obl_var (by rfl) fun _ => ?_)
      intro w9 hw9
      refine RelD.relAt_wanted (by rfl) ?_
      obtain ⟨c0a, c0b, c1a, c1b, c2a, c2b, c3a, c3b, c4a, c4b, c5a, c5b⟩ := HC.out w9 hw9
      go_simp
      exact ⟨BelowD.refl _ _, rfl⟩
  try dsimp only [List.nil_append, List.cons_append]
  refine RelD.rel_det (x := .int .i64 (cmpI (a.2) (b.2))) ?_ ?_
  · repeat (first | refine RelD.obl_skip (by rfl) ?_ | refine RelD.obl_det (by rfl) ?_ | refine RelD.obl_var (by rfl) fun _ => ?_)
    intro w9 hw9
    refine RelD.relAt_wanted (by rfl) ?_
    go_simp
    refine (cmp_any _ _ _).mono ?_
    rintro e w1 ⟨rfl, rfl⟩
    exact ⟨_, rfl, BelowD.refl _ _, rfl⟩
  try dsimp only [List.nil_append, List.cons_append]
  refine RelD.rel_any (fun v w => ∃ A c, v = .slice A 4 c ∧ ISl w w.heap.size A 4 c [cmpK (a.1.1) (b.1.1), cmpI (a.1.2.1) (b.1.2.1), cmpI (a.1.2.2) (b.1.2.2), cmpI (a.2) (b.2)]) rfl (rows_stableD iStable _ _) ?_ ?_
  · repeat (first | refine RelD.obl_skip (by rfl) ?_ | refine RelD.obl_det (by rfl) ?_ | refine RelD.obl_var (by rfl) fun _ => ?_)
    intro w9 hw9
    refine RelD.relAt_cps (by rfl) fun T' hT' => ?_
    go_simp
    exact ⟨(BelowD.refl _ w9).alloc (Nat.le_refl _) _, hT' _ _ ⟨_, _, rfl, rows_of_heap (l := [_, _, _, _]) iEnc_len (World.alloc_heap_new w9 _) (Nat.le_refl _) (by decide) rfl⟩⟩
  try dsimp only [List.nil_append, List.cons_append]
  refine RelD.rel_det (x := .int .i64 (cmpL a b)) ?_ ?_
  · repeat (first | refine RelD.obl_skip (by rfl) ?_ | refine RelD.obl_det (by rfl) ?_ | refine RelD.obl_var (by rfl) fun _ => ?_)
    rintro w9 ⟨hw9, A, c, rfl, hr⟩
    refine RelD.relAt_wanted (by rfl) ?_
    go_simp
    refine (or_any _ _ _ _ _ hr).mono ?_
    rintro e w1 ⟨rfl, rfl⟩
    exact ⟨_, rfl, BelowD.refl _ _, rfl⟩
  try dsimp only [List.nil_append, List.cons_append]
  apply RelD.rel_det
  · repeat (first | refine RelD.obl_skip (by rfl) ?_ | refine RelD.obl_det (by rfl) ?_ | refine RelD.obl_var (by rfl) fun _ => ?_)
    intro w9 hw9
    refine RelD.relAt_wanted (by rfl) ?_
    go_simp
    exact ⟨BelowD.refl _ _, rfl⟩
  try dsimp only [List.nil_append, List.cons_append]
  iterate 28 refine RelD.fin_dead fun _ => ?_
  refine RelD.fin_det rfl ?_
  rintro w4 hb4
  go_frame
  go_wp2_with fail
  go_ret
  exact ⟨rfl, hBr.trans (hb4.mono hBr.size)⟩
end Go.Proofs.Ytologegkbcedhaa
