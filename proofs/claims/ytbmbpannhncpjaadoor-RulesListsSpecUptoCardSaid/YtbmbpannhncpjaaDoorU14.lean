/- Atoms: their order, compared; equal (printed by tools/gen79.py). -/
import Derived.Test.YtbmbpannhncpjaaDoorV1
import Derived.Test.YtbmbpannhncpjaaDoorOwn
namespace Go.Proofs.YtbmbpannhncpjaaDoor
open Go.RowKit Go.Sort

structure At where
  (op course n d : Int)
  deriving DecidableEq, Inhabited
theorem At.ext' {a b : At} (h0 : a.op = b.op) (h1 : a.course = b.course) (h2 : a.n = b.n) (h3 : a.d = b.d) : a = b := by
  cases a; cases b; simp_all
def aEnc (k : At) : List Value := [.int .i64 k.op, .int .i64 k.course, .int .i64 k.n, .int .i64 k.d]
theorem aEnc_len (x : At) : (aEnc x).length = 4 := rfl
theorem aEnc_one (x : At) : ∀ u ∈ aEnc x, u.oneCell' = true := by
  intro u hu; simp [aEnc] at hu; rcases hu with rfl | rfl | rfl | rfl <;> rfl
def cmpA (a b : At) : Int := orI [cmpI a.op b.op, cmpI a.course b.course, cmpI a.n b.n, cmpI a.d b.d]
def At.lt (a b : At) : Bool := decide (a.op < b.op) || (decide (a.op = b.op) && (decide (a.course < b.course) || (decide (a.course = b.course) && (decide (a.n < b.n) || (decide (a.n = b.n) && decide (a.d < b.d))))))
theorem cmpA_lt (a b : At) : cmpA a b < 0 ↔ a.lt b = true := by
  unfold cmpA At.lt
  rw [orI_cons, orI_cons, orI_cons, orI_cons, orI_nil]
  rcases cmpI_cases a.op b.op with ⟨h1, e1⟩ | ⟨h1, e1⟩ | ⟨h1, e1⟩ <;> rcases cmpI_cases a.course b.course with ⟨h2, e2⟩ | ⟨h2, e2⟩ | ⟨h2, e2⟩ <;> rcases cmpI_cases a.n b.n with ⟨h3, e3⟩ | ⟨h3, e3⟩ | ⟨h3, e3⟩ <;> rcases cmpI_cases a.d b.d with ⟨h4, e4⟩ | ⟨h4, e4⟩ | ⟨h4, e4⟩ <;> simp [e1, e2, e3, e4] <;> omega
theorem At.lt_iff (a b : At) : a.lt b = true ↔ (a.op < b.op ∨ (a.op = b.op ∧ (a.course < b.course ∨ (a.course = b.course ∧ (a.n < b.n ∨ (a.n = b.n ∧ a.d < b.d)))))) := by simp [At.lt]
theorem At.lt_irrefl (a : At) : a.lt a = false := by rw [Bool.eq_false_iff]; intro h; rw [At.lt_iff] at h; omega
theorem At.lt_trans {a b c : At} (h : a.lt b = true) (h' : b.lt c = true) : a.lt c = true := by rw [At.lt_iff] at *; omega
theorem At.lt_tri (a b : At) : a.lt b = true ∨ a = b ∨ b.lt a = true := by
  rw [At.lt_iff, At.lt_iff]
  by_cases h0 : a.op = b.op <;> by_cases h1 : a.course = b.course <;> by_cases h2 : a.n = b.n <;> by_cases h3 : a.d = b.d
  · exact .inr (.inl (At.ext' h0 h1 h2 h3))
  all_goals (rcases Int.lt_trichotomy a.op b.op with h | h | h <;> rcases Int.lt_trichotomy a.course b.course with h' | h' | h' <;> rcases Int.lt_trichotomy a.n b.n with h'' | h'' | h'' <;> rcases Int.lt_trichotomy a.d b.d with h3' | h3' | h3' <;> omega)
theorem at_asymm {a b : At} (h : a.lt b = true) : b.lt a = false := by
  rw [Bool.eq_false_iff]; intro h'; have := At.lt_trans h h'; rw [At.lt_irrefl] at this; cases this

abbrev aSl := Rows 4 (Rep.flat aEnc)
theorem aStable : (Rep.flat aEnc).Stable := Rep.flat_stable _
theorem aSl.get {n₀ n c k : Nat} {A : Option Addr} {l : List (At)} {W : World} (h : aSl W n₀ A n c l) (hk : k < n) :
    ∃ b off m, A = some ⟨b, off, none⟩ ∧ b < n₀ ∧ l[k]? = some m ∧ W.cell? ⟨b, off + k * 4, none⟩ = some (.int .i64 m.op) ∧ W.cell? ⟨b, off + k * 4 + 1, none⟩ = some (.int .i64 m.course) ∧ W.cell? ⟨b, off + k * 4 + 2, none⟩ = some (.int .i64 m.n) ∧ W.cell? ⟨b, off + k * 4 + 3, none⟩ = some (.int .i64 m.d) := by
  obtain ⟨b, off, m, cs, e, hlt, hk', rfl, hc⟩ := Rows.get h hk
  exact ⟨b, off, m, e, hlt, hk', hc 0 _ rfl, hc 1 _ rfl, hc 2 _ rfl, hc 3 _ rfl⟩
theorem aInfo : (Tryd.prog.info? 60).map (fun i => (i.zero, i.size, i.bytes)) = some (some (.agg #[.int .i64 0, .int .i64 0, .int .i64 0, .int .i64 0]), 4, 32) := by kernel_rfl
theorem aZero (w : World) : (zeroValue 60).run Tryd.prog w = .ok (.agg #[.int .i64 0, .int .i64 0, .int .i64 0, .int .i64 0]) w := by
  obtain ⟨i0, hi, hz, _, _⟩ := info_parts aInfo
  simp [zeroValue, typeInfo, hi, hz]

set_option maxRecDepth 100000 in
set_option maxHeartbeats 2000000 in
theorem a_in (d : Nat) (a b : At) (w : World) : (Op.equalIn (d + 2) 60 (.agg #[.int .i64 a.op, .int .i64 a.course, .int .i64 a.n, .int .i64 a.d]) (.agg #[.int .i64 b.op, .int .i64 b.course, .int .i64 b.n, .int .i64 b.d])).run Tryd.prog w = .ok (decide (a = b)) w := by
  have hS : Tryd.prog.underlying 60 = some (.struct (Tryd.prog.fieldsOf 60)) := by kernel_rfl
  have hp : Tryd.prog.stoodInHeld 60 = false := by kernel_rfl
  have he : decide (a = b) = (decide (a.op = b.op) && decide (a.course = b.course) && decide (a.n = b.n) && decide (a.d = b.d)) := by
    rw [Bool.eq_iff_iff]; simp only [decide_eq_true_eq, Bool.and_eq_true]
    exact ⟨fun h => by subst h; exact ⟨⟨⟨rfl, rfl⟩, rfl⟩, rfl⟩, fun ⟨⟨⟨h0, h1⟩, h2⟩, h3⟩ => At.ext' h0 h1 h2 h3⟩
  rw [he, show d + 2 = (d + 1) + 1 from rfl, run_equalIn_agg w (d + 1) 60 _ _ hS hp]
  simp only [Program.fieldsOf, Tryd.underlying60]
  have u3 := Tryd.underlying3
  have a3 := Tryd.isAgg3
  have z3 := Tryd.sizeOf3
  go_simp
  by_cases h0 : a.op = b.op <;> by_cases h1 : a.course = b.course <;> by_cases h2 : a.n = b.n <;> by_cases h3 : a.d = b.d <;> simp [h0, h1, h2, h3]

theorem a_eql (a b : At) (w : World) : (binOp .eql 60 (.agg #[.int .i64 a.op, .int .i64 a.course, .int .i64 a.n, .int .i64 a.d]) (.agg #[.int .i64 b.op, .int .i64 b.course, .int .i64 b.n, .int .i64 b.d])).run Tryd.prog w = .ok (.bool (decide (a = b))) w := by
  have h : (Op.equalIn 10000 60 (.agg #[.int .i64 a.op, .int .i64 a.course, .int .i64 a.n, .int .i64 a.d]) (.agg #[.int .i64 b.op, .int .i64 b.course, .int .i64 b.n, .int .i64 b.d])).run Tryd.prog w = .ok (decide (a = b)) w := a_in 9998 _ _ w
  rw [run_eql_struct, h]
  rfl

theorem a_neq (a b : At) (w : World) : (binOp .neq 60 (.agg #[.int .i64 a.op, .int .i64 a.course, .int .i64 a.n, .int .i64 a.d]) (.agg #[.int .i64 b.op, .int .i64 b.course, .int .i64 b.n, .int .i64 b.d])).run Tryd.prog w = .ok (.bool (!decide (a = b))) w := by
  have h : (Op.equalIn 10000 60 (.agg #[.int .i64 a.op, .int .i64 a.course, .int .i64 a.n, .int .i64 a.d]) (.agg #[.int .i64 b.op, .int .i64 b.course, .int .i64 b.n, .int .i64 b.d])).run Tryd.prog w = .ok (decide (a = b)) w := a_in 9998 _ _ w
  rw [run_neq_struct, h]
  rfl


section
open RelD
set_option maxRecDepth 100000 in
set_option maxHeartbeats 4000000 in
theorem uAtoms1_any (a b : At) (w : World) : Calls Tryd.prog 36 #[.agg (aEnc a).toArray, .agg (aEnc b).toArray] w fun e w' => e = .returned (.int .i64 (cmpA a b)) ∧ BelowD w.heap.size w w' := by
  show Calls Tryd.prog 36 #[.agg #[.int .i64 a.op, .int .i64 a.course, .int .i64 a.n, .int .i64 a.d], .agg #[.int .i64 b.op, .int .i64 b.course, .int .i64 b.n, .int .i64 b.d]] w _
  have hB : BelowD w.heap.size w ((w.alloc (.cells (aEnc a).toArray 60)).alloc (.cells (aEnc b).toArray 60)) := ((BelowD.refl _ w).alloc (Nat.le_refl _) _).alloc (by simp) _
  have h1 : ((w.alloc (.cells (aEnc a).toArray 60)).alloc (.cells (aEnc b).toArray 60)).heap[w.heap.size]? = some (.cells (aEnc a).toArray 60 (0, 0)) := (Below.heap_alloc _ _ _ (by simp)).trans (World.alloc_heap_new _ _)
  have h2 : ((w.alloc (.cells (aEnc a).toArray 60)).alloc (.cells (aEnc b).toArray 60)).heap[w.heap.size + 1]? = some (.cells (aEnc b).toArray 60 (0, 0)) := by
    have := World.alloc_heap_new (w.alloc (.cells (aEnc a).toArray 60)) (.cells (aEnc b).toArray 60)
    rwa [World.size_alloc] at this
  have hB' := hidp hB
  have h1' := hidp h1
  have h2' := hidp h2
  clear hB h1 h2
  go_enter Tryd.func36, Tryd.ntmps36
  go_wp2_with fail
  generalize hwr : (w.alloc (.cells #[.int .i64 a.op, .int .i64 a.course, .int .i64 a.n, .int .i64 a.d] 60)).alloc (.cells #[.int .i64 b.op, .int .i64 b.course, .int .i64 b.n, .int .i64 b.d] 60) = wr
  have hBr : BelowD w.heap.size w wr := hwr ▸ hB'.out
  have g1 : wr.heap[w.heap.size]? = some (.cells (aEnc a).toArray 60 (0, 0)) := hwr ▸ h1'.out
  have g2 : wr.heap[w.heap.size + 1]? = some (.cells (aEnc b).toArray 60 (0, 0)) := hwr ▸ h2'.out
  clear hwr hB' h1' h2'
  have hcell : ∀ w9, BelowD wr.heap.size wr w9 → w9.cell? ⟨w.heap.size, 0, none⟩ = some (.int .i64 a.op) ∧ w9.cell? ⟨w.heap.size + 1, 0, none⟩ = some (.int .i64 b.op) ∧ w9.cell? ⟨w.heap.size, 1, none⟩ = some (.int .i64 a.course) ∧ w9.cell? ⟨w.heap.size + 1, 1, none⟩ = some (.int .i64 b.course) ∧ w9.cell? ⟨w.heap.size, 2, none⟩ = some (.int .i64 a.n) ∧ w9.cell? ⟨w.heap.size + 1, 2, none⟩ = some (.int .i64 b.n) ∧ w9.cell? ⟨w.heap.size, 3, none⟩ = some (.int .i64 a.d) ∧ w9.cell? ⟨w.heap.size + 1, 3, none⟩ = some (.int .i64 b.d) := by
    intro w9 h9
    have i1 := (h9.block _ (lt_of_heap g1)).trans g1
    have i2 := (h9.block _ (lt_of_heap g2)).trans g2
    exact ⟨cell_of_heap i1, cell_of_heap i2, cell_of_heap i1, cell_of_heap i2, cell_of_heap i1, cell_of_heap i2, cell_of_heap i1, cell_of_heap i2⟩
  have HC := hidp hcell
  clear hcell g1 g2
  refine RelD.wp_region_rel wr.heap.size (fun _ => false) (fun _ => true) (Nat.le_refl _) (by kernel_rfl) (by kernel_rfl) (by kernel_rfl) ?_
  iterate 4
    try dsimp only [List.nil_append, List.cons_append]
    apply RelD.rel_det
    · repeat (first | refine RelD.obl_skip (by rfl) ?_ | refine RelD.obl_det (by rfl) ?_ | refine RelD.obl_var (by rfl) fun _ => ?_)
      intro w9 hw9
      refine RelD.relAt_wanted (by rfl) ?_
      obtain ⟨c0a, c0b, c1a, c1b, c2a, c2b, c3a, c3b⟩ := HC.out w9 hw9
      go_simp
      exact ⟨BelowD.refl _ _, rfl⟩
  try dsimp only [List.nil_append, List.cons_append]
  refine RelD.rel_det (x := .int .i64 (cmpI (a.op) (b.op))) ?_ ?_
  · repeat (first | refine RelD.obl_skip (by rfl) ?_ | refine RelD.obl_det (by rfl) ?_ | refine RelD.obl_var (by rfl) fun _ => ?_)
    intro w9 hw9
    refine RelD.relAt_wanted (by rfl) ?_
    go_simp
    refine (cmp_any _ _ _).mono ?_
    rintro e w1 ⟨rfl, rfl⟩
    exact ⟨_, rfl, BelowD.refl _ _, rfl⟩
  iterate 4
    try dsimp only [List.nil_append, List.cons_append]
    apply RelD.rel_det
    · repeat (first | refine RelD.obl_skip (by rfl) ?_ | refine RelD.obl_det (by rfl) ?_ | refine RelD.obl_var (by rfl) fun _ => ?_)
      intro w9 hw9
      refine RelD.relAt_wanted (by rfl) ?_
      obtain ⟨c0a, c0b, c1a, c1b, c2a, c2b, c3a, c3b⟩ := HC.out w9 hw9
      go_simp
      exact ⟨BelowD.refl _ _, rfl⟩
  try dsimp only [List.nil_append, List.cons_append]
  refine RelD.rel_det (x := .int .i64 (cmpI (a.course) (b.course))) ?_ ?_
  · repeat (first | refine RelD.obl_skip (by rfl) ?_ | refine RelD.obl_det (by rfl) ?_ | refine RelD.obl_var (by rfl) fun _ => ?_)
    intro w9 hw9
    refine RelD.relAt_wanted (by rfl) ?_
    go_simp
    refine (cmp_any _ _ _).mono ?_
    rintro e w1 ⟨rfl, rfl⟩
    exact ⟨_, rfl, BelowD.refl _ _, rfl⟩
  iterate 4
    try dsimp only [List.nil_append, List.cons_append]
    apply RelD.rel_det
    · repeat (first | refine RelD.obl_skip (by rfl) ?_ | refine RelD.obl_det (by rfl) ?_ | refine RelD.obl_var (by rfl) fun _ => ?_)
      intro w9 hw9
      refine RelD.relAt_wanted (by rfl) ?_
      obtain ⟨c0a, c0b, c1a, c1b, c2a, c2b, c3a, c3b⟩ := HC.out w9 hw9
      go_simp
      exact ⟨BelowD.refl _ _, rfl⟩
  try dsimp only [List.nil_append, List.cons_append]
  refine RelD.rel_det (x := .int .i64 (cmpI (a.n) (b.n))) ?_ ?_
  · repeat (first | refine RelD.obl_skip (by rfl) ?_ | refine RelD.obl_det (by rfl) ?_ | refine RelD.obl_var (by rfl) fun _ => ?_)
    intro w9 hw9
    refine RelD.relAt_wanted (by rfl) ?_
    go_simp
    refine (cmp_any _ _ _).mono ?_
    rintro e w1 ⟨rfl, rfl⟩
    exact ⟨_, rfl, BelowD.refl _ _, rfl⟩
  iterate 4
    try dsimp only [List.nil_append, List.cons_append]
    apply RelD.rel_det
    · repeat (first | refine RelD.obl_skip (by rfl) ?_ | refine RelD.obl_det (by rfl) ?_ | refine RelD.obl_var (by rfl) fun _ => ?_)
      intro w9 hw9
      refine RelD.relAt_wanted (by rfl) ?_
      obtain ⟨c0a, c0b, c1a, c1b, c2a, c2b, c3a, c3b⟩ := HC.out w9 hw9
      go_simp
      exact ⟨BelowD.refl _ _, rfl⟩
  try dsimp only [List.nil_append, List.cons_append]
  refine RelD.rel_det (x := .int .i64 (cmpI (a.d) (b.d))) ?_ ?_
  · repeat (first | refine RelD.obl_skip (by rfl) ?_ | refine RelD.obl_det (by rfl) ?_ | refine RelD.obl_var (by rfl) fun _ => ?_)
    intro w9 hw9
    refine RelD.relAt_wanted (by rfl) ?_
    go_simp
    refine (cmp_any _ _ _).mono ?_
    rintro e w1 ⟨rfl, rfl⟩
    exact ⟨_, rfl, BelowD.refl _ _, rfl⟩
  try dsimp only [List.nil_append, List.cons_append]
  refine RelD.rel_any (fun v w => ∃ A c, v = .slice A 4 c ∧ ISl w w.heap.size A 4 c [cmpI (a.op) (b.op), cmpI (a.course) (b.course), cmpI (a.n) (b.n), cmpI (a.d) (b.d)]) rfl (rows_stableD iStable _ _) ?_ ?_
  · repeat (first | refine RelD.obl_skip (by rfl) ?_ | refine RelD.obl_det (by rfl) ?_ | refine RelD.obl_var (by rfl) fun _ => ?_)
    intro w9 hw9
    refine RelD.relAt_cps (by rfl) fun T' hT' => ?_
    go_simp
    exact ⟨(BelowD.refl _ w9).alloc (Nat.le_refl _) _, hT' _ _ ⟨_, _, rfl, rows_of_heap (l := [_, _, _, _]) iEnc_len (World.alloc_heap_new w9 _) (Nat.le_refl _) (by decide) rfl⟩⟩
  try dsimp only [List.nil_append, List.cons_append]
  refine RelD.rel_det (x := .int .i64 (cmpA a b)) ?_ ?_
  · repeat (first | refine RelD.obl_skip (by rfl) ?_ | refine RelD.obl_det (by rfl) ?_ | refine RelD.obl_var (by rfl) fun _ => ?_)
    rintro w9 ⟨hw9, A, c, rfl, hr⟩
    refine RelD.relAt_wanted (by rfl) ?_
    go_simp
    refine (or_any _ _ _ _ _ hr).mono ?_
    rintro e w1 ⟨rfl, rfl⟩
    exact ⟨_, rfl, BelowD.refl _ _, rfl⟩
  try dsimp only [List.nil_append, List.cons_append]
  apply RelD.rel_det
  · repeat (first | refine RelD.obl_skip (by rfl) ?_ | refine RelD.obl_det (by rfl) ?_ | refine RelD.obl_var (by rfl) fun _ => ?_)
    intro w9 hw9
    refine RelD.relAt_wanted (by rfl) ?_
    go_simp
    exact ⟨BelowD.refl _ _, rfl⟩
  try dsimp only [List.nil_append, List.cons_append]
  iterate 22 refine RelD.fin_dead fun _ => ?_
  refine RelD.fin_det rfl ?_
  rintro w4 hb4
  go_frame
  go_wp2_with fail
  go_ret
  exact ⟨rfl, hBr.trans (hb4.mono hBr.size)⟩
end
end Go.Proofs.YtbmbpannhncpjaaDoor
