/- Several texts in one: Round F2 F3 F7 F12 F13 F15 F16 F14 F17 F18 F6 F10 F19. -/
import Derived.Test.YtologegkbcedhaaCore
import Derived.OrdersIn
import Derived.TacticsIn
import Derived.Test.YtologegkbcedhaaF1
import Derived.Test.YtologegkbcedhaaF4
import Derived.Test.YtologegkbcedhaaF5
import Derived.Test.YtologegkbcedhaaF9
import Derived.OwnWalkIn
import Derived.TacticsInMore
import Derived.LoopNIn
import Derived.LoopIn
import Derived.Test.YtologegkbcedhaaPut
import Derived.Laws.Rows
import Derived.Test.YtologegkbcedhaaRel
import Derived.Test.YtologegkbcedhaaClip
/- A region that draws its order, in the body of a range over a function: reads and calls that make memory of their own. Over any program. -/
namespace Go.Proofs.Ytologegkbcedhaa
open Go.RowKit
section
variable {P : Program} {ops : Array Oper} {C : World → Prop} {md : Region.Mode}

theorem quiet_no_defer {o : Oper} {a : Act} {w : World} {v : Value} (h : o.quietAt P a C w v) : ∀ c, o.op ≠ .defer c := by
  intro c ho
  unfold Oper.quietAt execOp at h
  simp only [ho, Sem.run_bind] at h
  cases hr : (resolve a.eval c o.type).run P w with
  | ok d w' => simp [hr, Result.andThen, Oper.quietUpon] at h
  | halt x w' => simp [hr, Result.andThen, Oper.quietUpon] at h
theorem wpInR_of_quiet {ll m : Nat} {o : Oper} {a : Act} {K : Act → Prop} {K' : Act → World → Prop} {Q' : Exit → Act → World → Prop} {w : World} (hw : C w) (h : ∀ a w', C w' → K a → K' a w') (hh : o.quiet P a C K) :
    o.wpIn (Fence.wide.inRound ll) m P a w K' Q' := by
  obtain ⟨v, h1, h2⟩ := hh
  have h3 := h1 w hw
  refine ⟨fun _ _ => trivial, ?_⟩
  rw [show (Fence.wide.inRound ll).round = some ll from rfl, Oper.semAt_some ll _ o (quiet_no_defer h3)]
  unfold Oper.quietAt at h3
  generalize (execOp a.eval o).run P w = r at *
  cases r with
  | ok n w' =>
    cases n <;> simp only [Oper.quietUpon] at h3 <;> simp only [Oper.uponIn]
    case value u =>
      obtain ⟨e1, e2⟩ := h3
      rw [e1, e2]
      exact h _ _ hw h2
    case skip =>
      obtain ⟨e1, e2⟩ := h3
      rw [e1, ← e2]
      exact h _ _ hw h2
    case enter f args =>
      obtain ⟨e1, hc⟩ := h3
      rw [e1]
      exact ⟨fun h => by simp [Fence.wide] at h, CallsIn.inRound ll (callsIn_wide.2 (hc.mono fun e w'' ⟨he, hw''⟩ => by subst he; exact h _ _ hw'' h2))⟩
  | halt x w' => simp only [Oper.quietUpon] at h3
theorem wpOpInR_of_qOp {ll m i : Nat} {a : Act} {K : Act → Prop} {K' : Act → World → Prop} {Q' : Exit → Act → World → Prop} {w : World} (hC : C w) (h : ∀ a w', C w' → K a → K' a w') (hh : qOp P ops C i K a) : wpOpIn (Fence.wide.inRound ll) m P ops Q' i K' a w := by
  unfold qOp at hh
  unfold wpOpIn
  split
  · rename_i ho; simp only [ho] at hh; exact h _ _ hC hh
  · rename_i o ho
    simp only [ho] at hh
    split
    · rename_i hw; simp only [hw, if_true] at hh; exact wpInR_of_quiet hC h hh
    · rename_i hw; simp only [hw] at hh; exact ⟨fun _ _ => trivial, h _ _ hC hh⟩
theorem wpAnyInR_of_quiet {ll m : Nat} {Q : Act → Prop} {Q' : Exit → Act → World → Prop} (hQ : ∀ a w, C w → Q a → Q' .normal a w) : ∀ (fuel : Nat) (listed : Array Bool) (a : Act) (w : World), C w →
    wpAnyQ P md ops C Q fuel listed a → wpAnyIn (Fence.wide.inRound ll) m P md ops Q' fuel listed a w
  | 0, _, _, _, hw, h => ⟨h.1, hQ _ _ hw h.2⟩
  | fuel + 1, _, _, _, hw, h => ⟨fun h0 => hQ _ _ hw (h.1 h0), fun _ hi => wpOpInR_of_qOp hw (fun a' w' hw' => wpAnyInR_of_quiet hQ fuel _ a' w' hw') (h.2 _ hi)⟩
end
theorem wpIn_region_below {P : Program} {id : Nat} {Q : Exit → Act → World → Prop} {a : Act} {w : World} {l : List Oper} (ll m n : Nat) (hm : P.follows .mixedOrders = true) (hB : Region.lexB .any l.toArray = true)
    (h : wpQuiet P l.toArray (Below n w) (fun a' => ∀ w', Below n w w' → Q .normal a' w') l a) : (Code.region id l.toArray true).wpIn (Fence.wide.inRound ll) m P Q a w := by
  simp only [Region.lexB, Bool.and_eq_true] at hB
  refine wpIn_region_any hm (wpAnyInR_of_quiet (C := Below n w) (Q := fun a' => ∀ w', Below n w w' → Q .normal a' w') (fun _ w' hw' h => h w' hw') _ _ _ _ ⟨rfl, rfl, rfl, Nat.le_refl _, fun _ _ => rfl⟩ ?_)
  have := wpAnyQ_lex (C := Below n w) (md := .any) hB.1 l 0 (Array.replicate l.toArray.size false) a (by simp) (by simpa using hB.2) h
  simpa using this
end Go.Proofs.Ytologegkbcedhaa

/- The leaves of facts, walked: the two orders (printed by wip/tools/gencmp.py). -/
namespace Go.Proofs.Ytologegkbcedhaa
open Go.RowKit Go.Sort RelD

set_option maxRecDepth 100000 in
set_option maxHeartbeats 4000000 in
theorem fcmp_any (a b : Fc) (w : World) : Calls Try.prog 66 #[.agg (fEnc a).toArray, .agg (fEnc b).toArray] w fun e w' => e = .returned (.int .i64 (cmpF a b)) ∧ BelowD w.heap.size w w' := by
  show Calls Try.prog 66 #[.agg #[.int .i64 a.key.kind, .int .i64 a.key.subj, .int .i64 a.key.obj, .int .i64 a.val, .int .i64 a.fr, .int .i64 a.to, .int .i64 a.known, .int .i64 a.no], .agg #[.int .i64 b.key.kind, .int .i64 b.key.subj, .int .i64 b.key.obj, .int .i64 b.val, .int .i64 b.fr, .int .i64 b.to, .int .i64 b.known, .int .i64 b.no]] w _
  have hB : BelowD w.heap.size w ((w.alloc (.cells (fEnc a).toArray 86)).alloc (.cells (fEnc b).toArray 86)) := ((BelowD.refl _ w).alloc (Nat.le_refl _) _).alloc (by simp) _
  have h1 : ((w.alloc (.cells (fEnc a).toArray 86)).alloc (.cells (fEnc b).toArray 86)).heap[w.heap.size]? = some (.cells (fEnc a).toArray 86 (0, 0)) := (Below.heap_alloc _ _ _ (by simp)).trans (World.alloc_heap_new _ _)
  have h2 : ((w.alloc (.cells (fEnc a).toArray 86)).alloc (.cells (fEnc b).toArray 86)).heap[w.heap.size + 1]? = some (.cells (fEnc b).toArray 86 (0, 0)) := by
    have := World.alloc_heap_new (w.alloc (.cells (fEnc a).toArray 86)) (.cells (fEnc b).toArray 86)
    rwa [World.size_alloc] at this
  have hB' := hidp hB
  have h1' := hidp h1
  have h2' := hidp h2
  clear hB h1 h2
  go_enter Try.func66, Try.ntmps66
  go_wp2_with fail
  generalize hwr : (w.alloc (.cells #[.int .i64 a.key.kind, .int .i64 a.key.subj, .int .i64 a.key.obj, .int .i64 a.val, .int .i64 a.fr, .int .i64 a.to, .int .i64 a.known, .int .i64 a.no] 86)).alloc (.cells #[.int .i64 b.key.kind, .int .i64 b.key.subj, .int .i64 b.key.obj, .int .i64 b.val, .int .i64 b.fr, .int .i64 b.to, .int .i64 b.known, .int .i64 b.no] 86) = wr
  have hBr : BelowD w.heap.size w wr := hwr ▸ hB'.out
  have g1 : wr.heap[w.heap.size]? = some (.cells (fEnc a).toArray 86 (0, 0)) := hwr ▸ h1'.out
  have g2 : wr.heap[w.heap.size + 1]? = some (.cells (fEnc b).toArray 86 (0, 0)) := hwr ▸ h2'.out
  clear hwr hB' h1' h2'
  have hcell : ∀ w9, BelowD wr.heap.size wr w9 → w9.cell? ⟨w.heap.size, 6, none⟩ = some (.int .i64 a.known) ∧ w9.cell? ⟨w.heap.size + 1, 6, none⟩ = some (.int .i64 b.known) ∧ w9.cell? ⟨w.heap.size, 7, none⟩ = some (.int .i64 a.no) ∧ w9.cell? ⟨w.heap.size + 1, 7, none⟩ = some (.int .i64 b.no) := by
    intro w9 h9
    have i1 := (h9.block _ (lt_of_heap g1)).trans g1
    have i2 := (h9.block _ (lt_of_heap g2)).trans g2
    exact ⟨cell_of_heap i1, cell_of_heap i2, cell_of_heap i1, cell_of_heap i2⟩
  have HC := hidp hcell
  clear hcell g1 g2
  refine RelD.wp_region_rel wr.heap.size (fun _ => false) (fun _ => true) (Nat.le_refl _) (by kernel_rfl) (by kernel_rfl) (by kernel_rfl) ?_
  iterate 4
    try dsimp only [List.nil_append, List.cons_append]
    apply RelD.rel_det
    · repeat (first | refine RelD.obl_skip (by rfl) ?_ | refine RelD.obl_det (by rfl) ?_ | refine RelD.obl_var (by rfl) fun _ => ?_)
      intro w9 hw9
      refine RelD.relAt_wanted (by rfl) ?_
      obtain ⟨c0a, c0b, c1a, c1b⟩ := HC.out w9 hw9
      go_simp
      exact ⟨BelowD.refl _ _, rfl⟩
  try dsimp only [List.nil_append, List.cons_append]
  refine RelD.rel_det (x := .int .i64 (cmpI a.known b.known)) ?_ ?_
  · repeat (first | refine RelD.obl_skip (by rfl) ?_ | refine RelD.obl_det (by rfl) ?_ | refine RelD.obl_var (by rfl) fun _ => ?_)
    intro w9 hw9
    refine RelD.relAt_wanted (by rfl) ?_
    go_simp
    refine (cmp_any _ _ _).mono ?_
    rintro e w1 ⟨rfl, rfl⟩
    exact ⟨_, rfl, BelowD.refl _ _, rfl⟩
  iterate 4
    try dsimp only [List.nil_append, List.cons_append]
    apply RelD.rel_det
    · repeat (first | refine RelD.obl_skip (by rfl) ?_ | refine RelD.obl_det (by rfl) ?_ | refine RelD.obl_var (by rfl) fun _ => ?_)
      intro w9 hw9
      refine RelD.relAt_wanted (by rfl) ?_
      obtain ⟨c0a, c0b, c1a, c1b⟩ := HC.out w9 hw9
      go_simp
      exact ⟨BelowD.refl _ _, rfl⟩
  try dsimp only [List.nil_append, List.cons_append]
  refine RelD.rel_det (x := .int .i64 (cmpI a.no b.no)) ?_ ?_
  · repeat (first | refine RelD.obl_skip (by rfl) ?_ | refine RelD.obl_det (by rfl) ?_ | refine RelD.obl_var (by rfl) fun _ => ?_)
    intro w9 hw9
    refine RelD.relAt_wanted (by rfl) ?_
    go_simp
    refine (cmp_any _ _ _).mono ?_
    rintro e w1 ⟨rfl, rfl⟩
    exact ⟨_, rfl, BelowD.refl _ _, rfl⟩
  try dsimp only [List.nil_append, List.cons_append]
  refine RelD.rel_any (fun v w => ∃ A c, v = .slice A 2 c ∧ ISl w w.heap.size A 2 c [cmpI a.known b.known, cmpI a.no b.no]) rfl (rows_stableD iStable _ _) ?_ ?_
  · repeat (first | refine RelD.obl_skip (by rfl) ?_ | refine RelD.obl_det (by rfl) ?_ | refine RelD.obl_var (by rfl) fun _ => ?_)
    intro w9 hw9
    refine RelD.relAt_cps (by rfl) fun T' hT' => ?_
    go_simp
    exact ⟨(BelowD.refl _ w9).alloc (Nat.le_refl _) _, hT' _ _ ⟨_, _, rfl, rows_of_heap (l := [_, _]) iEnc_len (World.alloc_heap_new w9 _) (Nat.le_refl _) (by decide) rfl⟩⟩
  try dsimp only [List.nil_append, List.cons_append]
  refine RelD.rel_det (x := .int .i64 (cmpF a b)) ?_ ?_
  · repeat (first | refine RelD.obl_skip (by rfl) ?_ | refine RelD.obl_det (by rfl) ?_ | refine RelD.obl_var (by rfl) fun _ => ?_)
    rintro w9 ⟨hw9, A, c, rfl, hr⟩
    refine RelD.relAt_wanted (by rfl) ?_
    go_simp
    refine (or_any _ _ _ _ _ hr).mono ?_
    rintro e w1 ⟨rfl, rfl⟩
    exact ⟨_, rfl, BelowD.refl _ _, rfl⟩
  try dsimp only [List.nil_append, List.cons_append]
  apply RelD.rel_det
  · repeat (first | refine RelD.obl_skip (by rfl) ?_ | refine RelD.obl_det (by rfl) ?_ | refine RelD.obl_var (by rfl) fun _ => ?_)
    intro w9 hw9
    refine RelD.relAt_wanted (by rfl) ?_
    go_simp
    exact ⟨BelowD.refl _ _, rfl⟩
  try dsimp only [List.nil_append, List.cons_append]
  iterate 12 refine RelD.fin_dead fun _ => ?_
  refine RelD.fin_det rfl ?_
  rintro w4 hb4
  go_frame
  go_wp2_with fail
  go_ret
  exact ⟨rfl, hBr.trans (hb4.mono hBr.size)⟩
set_option maxRecDepth 100000 in
set_option maxHeartbeats 4000000 in
theorem fcmpKeys_any (a b : Ky) (w : World) : Calls Try.prog 44 #[.agg (kEnc a).toArray, .agg (kEnc b).toArray] w fun e w' => e = .returned (.int .i64 (cmpK a b)) ∧ BelowD w.heap.size w w' := by
  show Calls Try.prog 44 #[.agg #[.int .i64 a.kind, .int .i64 a.subj, .int .i64 a.obj], .agg #[.int .i64 b.kind, .int .i64 b.subj, .int .i64 b.obj]] w _
  have hB : BelowD w.heap.size w ((w.alloc (.cells (kEnc a).toArray 45)).alloc (.cells (kEnc b).toArray 45)) := ((BelowD.refl _ w).alloc (Nat.le_refl _) _).alloc (by simp) _
  have h1 : ((w.alloc (.cells (kEnc a).toArray 45)).alloc (.cells (kEnc b).toArray 45)).heap[w.heap.size]? = some (.cells (kEnc a).toArray 45 (0, 0)) := (Below.heap_alloc _ _ _ (by simp)).trans (World.alloc_heap_new _ _)
  have h2 : ((w.alloc (.cells (kEnc a).toArray 45)).alloc (.cells (kEnc b).toArray 45)).heap[w.heap.size + 1]? = some (.cells (kEnc b).toArray 45 (0, 0)) := by
    have := World.alloc_heap_new (w.alloc (.cells (kEnc a).toArray 45)) (.cells (kEnc b).toArray 45)
    rwa [World.size_alloc] at this
  have hB' := hidp hB
  have h1' := hidp h1
  have h2' := hidp h2
  clear hB h1 h2
  go_enter Try.func44, Try.ntmps44
  go_wp2_with fail
  generalize hwr : (w.alloc (.cells #[.int .i64 a.kind, .int .i64 a.subj, .int .i64 a.obj] 45)).alloc (.cells #[.int .i64 b.kind, .int .i64 b.subj, .int .i64 b.obj] 45) = wr
  have hBr : BelowD w.heap.size w wr := hwr ▸ hB'.out
  have g1 : wr.heap[w.heap.size]? = some (.cells (kEnc a).toArray 45 (0, 0)) := hwr ▸ h1'.out
  have g2 : wr.heap[w.heap.size + 1]? = some (.cells (kEnc b).toArray 45 (0, 0)) := hwr ▸ h2'.out
  clear hwr hB' h1' h2'
  have hcell : ∀ w9, BelowD wr.heap.size wr w9 → w9.cell? ⟨w.heap.size, 0, none⟩ = some (.int .i64 a.kind) ∧ w9.cell? ⟨w.heap.size + 1, 0, none⟩ = some (.int .i64 b.kind) ∧ w9.cell? ⟨w.heap.size, 1, none⟩ = some (.int .i64 a.subj) ∧ w9.cell? ⟨w.heap.size + 1, 1, none⟩ = some (.int .i64 b.subj) ∧ w9.cell? ⟨w.heap.size, 2, none⟩ = some (.int .i64 a.obj) ∧ w9.cell? ⟨w.heap.size + 1, 2, none⟩ = some (.int .i64 b.obj) := by
    intro w9 h9
    have i1 := (h9.block _ (lt_of_heap g1)).trans g1
    have i2 := (h9.block _ (lt_of_heap g2)).trans g2
    exact ⟨cell_of_heap i1, cell_of_heap i2, cell_of_heap i1, cell_of_heap i2, cell_of_heap i1, cell_of_heap i2⟩
  have HC := hidp hcell
  clear hcell g1 g2
  refine RelD.wp_region_rel wr.heap.size (fun _ => false) (fun _ => true) (Nat.le_refl _) (by kernel_rfl) (by kernel_rfl) (by kernel_rfl) ?_
  iterate 4
    try dsimp only [List.nil_append, List.cons_append]
    apply RelD.rel_det
    · repeat (first | refine RelD.obl_skip (by rfl) ?_ | refine RelD.obl_det (by rfl) ?_ | refine RelD.obl_var (by rfl) fun _ => ?_)
      intro w9 hw9
      refine RelD.relAt_wanted (by rfl) ?_
      obtain ⟨c0a, c0b, c1a, c1b, c2a, c2b⟩ := HC.out w9 hw9
      go_simp
      exact ⟨BelowD.refl _ _, rfl⟩
  try dsimp only [List.nil_append, List.cons_append]
  refine RelD.rel_det (x := .int .i64 (cmpI a.kind b.kind)) ?_ ?_
  · repeat (first | refine RelD.obl_skip (by rfl) ?_ | refine RelD.obl_det (by rfl) ?_ | refine RelD.obl_var (by rfl) fun _ => ?_)
    intro w9 hw9
    refine RelD.relAt_wanted (by rfl) ?_
    go_simp
    refine (cmp_any _ _ _).mono ?_
    rintro e w1 ⟨rfl, rfl⟩
    exact ⟨_, rfl, BelowD.refl _ _, rfl⟩
  iterate 4
    try dsimp only [List.nil_append, List.cons_append]
    apply RelD.rel_det
    · repeat (first | refine RelD.obl_skip (by rfl) ?_ | refine RelD.obl_det (by rfl) ?_ | refine RelD.obl_var (by rfl) fun _ => ?_)
      intro w9 hw9
      refine RelD.relAt_wanted (by rfl) ?_
      obtain ⟨c0a, c0b, c1a, c1b, c2a, c2b⟩ := HC.out w9 hw9
      go_simp
      exact ⟨BelowD.refl _ _, rfl⟩
  try dsimp only [List.nil_append, List.cons_append]
  refine RelD.rel_det (x := .int .i64 (cmpI a.subj b.subj)) ?_ ?_
  · repeat (first | refine RelD.obl_skip (by rfl) ?_ | refine RelD.obl_det (by rfl) ?_ | refine RelD.obl_var (by rfl) fun _ => ?_)
    intro w9 hw9
    refine RelD.relAt_wanted (by rfl) ?_
    go_simp
    refine (cmp_any _ _ _).mono ?_
    rintro e w1 ⟨rfl, rfl⟩
    exact ⟨_, rfl, BelowD.refl _ _, rfl⟩
  iterate 4
    try dsimp only [List.nil_append, List.cons_append]
    apply RelD.rel_det
    · repeat (first | refine RelD.obl_skip (by rfl) ?_ | refine RelD.obl_det (by rfl) ?_ | refine RelD.obl_var (by rfl) fun _ => ?_)
      intro w9 hw9
      refine RelD.relAt_wanted (by rfl) ?_
      obtain ⟨c0a, c0b, c1a, c1b, c2a, c2b⟩ := HC.out w9 hw9
      go_simp
      exact ⟨BelowD.refl _ _, rfl⟩
  try dsimp only [List.nil_append, List.cons_append]
  refine RelD.rel_det (x := .int .i64 (cmpI a.obj b.obj)) ?_ ?_
  · repeat (first | refine RelD.obl_skip (by rfl) ?_ | refine RelD.obl_det (by rfl) ?_ | refine RelD.obl_var (by rfl) fun _ => ?_)
    intro w9 hw9
    refine RelD.relAt_wanted (by rfl) ?_
    go_simp
    refine (cmp_any _ _ _).mono ?_
    rintro e w1 ⟨rfl, rfl⟩
    exact ⟨_, rfl, BelowD.refl _ _, rfl⟩
  try dsimp only [List.nil_append, List.cons_append]
  refine RelD.rel_any (fun v w => ∃ A c, v = .slice A 3 c ∧ ISl w w.heap.size A 3 c [cmpI a.kind b.kind, cmpI a.subj b.subj, cmpI a.obj b.obj]) rfl (rows_stableD iStable _ _) ?_ ?_
  · repeat (first | refine RelD.obl_skip (by rfl) ?_ | refine RelD.obl_det (by rfl) ?_ | refine RelD.obl_var (by rfl) fun _ => ?_)
    intro w9 hw9
    refine RelD.relAt_cps (by rfl) fun T' hT' => ?_
    go_simp
    exact ⟨(BelowD.refl _ w9).alloc (Nat.le_refl _) _, hT' _ _ ⟨_, _, rfl, rows_of_heap (l := [_, _, _]) iEnc_len (World.alloc_heap_new w9 _) (Nat.le_refl _) (by decide) rfl⟩⟩
  try dsimp only [List.nil_append, List.cons_append]
  refine RelD.rel_det (x := .int .i64 (cmpK a b)) ?_ ?_
  · repeat (first | refine RelD.obl_skip (by rfl) ?_ | refine RelD.obl_det (by rfl) ?_ | refine RelD.obl_var (by rfl) fun _ => ?_)
    rintro w9 ⟨hw9, A, c, rfl, hr⟩
    refine RelD.relAt_wanted (by rfl) ?_
    go_simp
    refine (or_any _ _ _ _ _ hr).mono ?_
    rintro e w1 ⟨rfl, rfl⟩
    exact ⟨_, rfl, BelowD.refl _ _, rfl⟩
  try dsimp only [List.nil_append, List.cons_append]
  apply RelD.rel_det
  · repeat (first | refine RelD.obl_skip (by rfl) ?_ | refine RelD.obl_det (by rfl) ?_ | refine RelD.obl_var (by rfl) fun _ => ?_)
    intro w9 hw9
    refine RelD.relAt_wanted (by rfl) ?_
    go_simp
    exact ⟨BelowD.refl _ _, rfl⟩
  try dsimp only [List.nil_append, List.cons_append]
  iterate 17 refine RelD.fin_dead fun _ => ?_
  refine RelD.fin_det rfl ?_
  rintro w4 hb4
  go_frame
  go_wp2_with fail
  go_ret
  exact ⟨rfl, hBr.trans (hb4.mono hBr.size)⟩
end Go.Proofs.Ytologegkbcedhaa

/- The leaves of facts, walked: validity. -/
namespace Go.Proofs.Ytologegkbcedhaa
open Go.RowKit Go.Sort

end Go.Proofs.Ytologegkbcedhaa

/- facts.Check walked, and the reference's. -/
namespace Go.Proofs.Ytologegkbcedhaa
open Go.RowKit Go.Shelf

theorem sortedB_iff : ∀ (l : List Fc), sortedB l = true ↔ ∀ (i : Nat) (x y : Fc), l[i]? = some x → l[i + 1]? = some y → x.bef y = true
  | [] => by simp [sortedB]
  | [a] => by
    simp only [sortedB, true_iff]
    intro i x y _ h2
    simp at h2
  | a :: b :: l => by
    rw [sortedB, Bool.and_eq_true, sortedB_iff (b :: l)]
    constructor
    · rintro ⟨h1, h2⟩ i x y hx hy
      cases i with
      | zero => simp at hx hy; subst hx hy; exact h1
      | succ i => exact h2 i x y (by simpa using hx) (by simpa using hy)
    · intro h
      exact ⟨h 0 a b rfl rfl, fun i x y hx hy => h (i + 1) x y (by simpa using hx) (by simpa using hy)⟩
def SortedUp (l : List Fc) (k : Nat) : Prop := ∀ (i : Nat) (x y : Fc), i < k → l[i]? = some x → l[i + 1]? = some y → x.bef y = true
theorem SortedUp.zero (l : List Fc) : SortedUp l 0 := fun _ _ _ h => by omega
theorem SortedUp.step {l : List Fc} {k : Nat} {a b : Fc} (h : SortedUp l k) (ha : l[k]? = some a) (hb : l[k + 1]? = some b) (hab : a.bef b = true) : SortedUp l (k + 1) := by
  intro i x y hi hx hy
  rcases Nat.lt_or_ge i k with h1 | h1
  · exact h i x y h1 hx hy
  · obtain rfl : i = k := by omega
    rw [ha] at hx; rw [hb] at hy
    cases hx; cases hy
    exact hab
theorem SortedUp.all {l : List Fc} {k : Nat} (h : SortedUp l k) (hk : l.length ≤ k + 1) : sortedB l = true := by
  rw [sortedB_iff]
  intro i x y hx hy
  refine h i x y ?_ hx hy
  have := (List.getElem?_eq_some_iff.1 hy).1
  omega
theorem sortedB_no {l : List Fc} {k : Nat} {a b : Fc} (ha : l[k]? = some a) (hb : l[k + 1]? = some b) (hab : a.bef b = false) : sortedB l = false := by
  rw [Bool.eq_false_iff]
  intro h
  have := (sortedB_iff l).1 h k a b ha hb
  rw [hab] at this
  cases this
theorem any_not_ok (l : List Fc) : (l.any fun f => !f.ok) = !(l.all Fc.ok) := by
  rw [List.not_all_eq_any_not]
theorem bef_cmp {a b : Fc} {z : Bool} (h : a.bef b = z) : decide (0 ≤ cmpF a b) = !z := by rw [cmpF_ge, h]

end Go.Proofs.Ytologegkbcedhaa

/- facts.of: its iterator walked. -/
namespace Go.Proofs.Ytologegkbcedhaa
open Go.RowKit Go.Shelf
attribute [local go_sem] Oper.semAt_some

theorem ofF_take_yes {l : List Fc} {kk : Ky} {known : Int} {k : Nat} {x : Fc} (h : l[k]? = some x) (h1 : x.key = kk) (h2 : x.known ≤ known) : ofF (l.take (k + 1)) kk known = ofF (l.take k) kk known ++ [x] := by
  rw [take_snoc h, ofF, ofF, List.filter_append]
  simp [h1, h2]
theorem ofF_take_no {l : List Fc} {kk : Ky} {known : Int} {k : Nat} {x : Fc} (h : l[k]? = some x) (h1 : ¬ (x.key = kk ∧ x.known ≤ known)) : ofF (l.take (k + 1)) kk known = ofF (l.take k) kk known := by
  rw [take_snoc h, ofF, ofF, List.filter_append]
  have : (decide (x.key = kk) && decide (x.known ≤ known)) = false := by
    rw [← Bool.decide_and, decide_eq_false_iff_not]; exact h1
  simp [this]
theorem ofF_split {l : List Fc} {kk : Ky} {known : Int} {k : Nat} {x : Fc} (h : l[k]? = some x) (h1 : x.key = kk) (h2 : x.known ≤ known) : ofF l kk known = ofF (l.take k) kk known ++ x :: ofF (l.drop (k + 1)) kk known := by
  conv => lhs; rw [split_at h]
  rw [ofF, ofF, ofF, List.filter_append]
  simp [h1, h2]

set_option maxRecDepth 100000 in
set_option maxHeartbeats 2000000 in
theorem of1_seq (Bl Bk Bn n₀ : Nat) (A : Option Addr) (len cap : Nat) (l : List Fc) (kk : Ky) (known : Int) (w : World)
    (hBl : w.cell? ⟨Bl, 0, none⟩ = some (.slice A len cap)) (hBk : w.heap[Bk]? = some (.cells #[.int .i64 kk.kind, .int .i64 kk.subj, .int .i64 kk.obj] 45 (0, 0))) (hBn : w.cell? ⟨Bn, 0, none⟩ = some (.int .i64 known)) (hm : fSl w n₀ A len cap l) :
    SeqC Try.prog 75 #[.pointer (some ⟨Bl, 0, none⟩), .pointer (some ⟨Bk, 0, none⟩), .pointer (some ⟨Bn, 0, none⟩)] (fun x : Fc => #[.agg #[.int .i64 x.key.kind, .int .i64 x.key.subj, .int .i64 x.key.obj, .int .i64 x.val, .int .i64 x.fr, .int .i64 x.to, .int .i64 x.known, .int .i64 x.no]])
      (ofF l kk known) (fun b => b < n₀ ∨ b = Bl ∨ b = Bk ∨ b = Bn) w := by
  intro li J Jx C W hS hC hJ hJx hY h0
  refine (callsIn_wide (n := 0)).1 (callsIn_of_wp Try.func75 rfl trivial ?_ rfl)
  simp only [Try.ntmps75, List.size_toArray, List.length_cons, List.length_nil, Nat.reduceAdd, Nat.reduceSub, Array.replicate_succ, Array.replicate_zero, List.push_toArray, List.append_toArray, List.nil_append, List.cons_append]
  have HY := hidp hY
  have HJ := hidp hJ
  have HJx := hidp hJx
  clear hY hJ hJx
  have hBW := (SeqSt.start hS hC).cell (b := Bl) (o := 0) (.inr (.inl rfl))
  rw [hBl] at hBW
  have hlen := hm.2.1
  have hcap := hm.2.2.1
  have HN := hidp hm.1
  have hk0 := cell_of_heap (o := 0) hBk
  have hk1 := cell_of_heap (o := 1) hBk
  have hk2 := cell_of_heap (o := 2) hBk
  simp only [List.getElem?_toArray, List.getElem?_cons_zero, List.getElem?_cons_succ] at hk0 hk1 hk2
  gi_wp2
  gi_loopw [6, 9] (fun _ i wr => ∃ (k : Nat) (C1 : Nat → Prop), k ≤ len ∧ i = .int .i64 k ∧ J (ofF (l.take k) kk known) C1 wr ∧ SeqSt (fun b => b < n₀ ∨ b = Bl ∨ b = Bk ∨ b = Bn) w W C1 wr)
    (fun _ i _ => len - (intOf i).toNat)
  case atStart => exact ⟨0, C, by omega, rfl, h0, SeqSt.start hS hC⟩
  case round =>
    obtain ⟨k, C1, hk, rfl, hJk, hst⟩ := hrel
    have hbk0 := hst.cell (b := Bk) (o := 0) (.inr (.inr (.inl rfl)))
    have hbk1 := hst.cell (b := Bk) (o := 1) (.inr (.inr (.inl rfl)))
    have hbk2 := hst.cell (b := Bk) (o := 2) (.inr (.inr (.inl rfl)))
    have hbn := hst.cell (b := Bn) (o := 0) (.inr (.inr (.inr rfl)))
    rw [hk0] at hbk0
    rw [hk1] at hbk1
    rw [hk2] at hbk2
    rw [hBn] at hbn
    have hmr := hm.keep fStable (Nat.le_refl _) fun b hb => (hst.reads b (.inl hb)).2.1
    have hBkl := lt_of_cell hbk0
    have hBnl := lt_of_cell hbn
    clear hm h0 hBW hBl hBn hBk hk0 hk1 hk2
    by_cases hlt : k < len
    · obtain ⟨b, off, x, rfl, hb, hzk, c0, c1, c2, c3, c4, c5, c6, c7⟩ := fSl.get hmr hlt
      have hbl := lt_of_cell c0
      have hJa := HJ.out _ _ _ _ hJk ((Kept.refl _ wr).alloc (.cells #[.int .i64 x.key.kind, .int .i64 x.key.subj, .int .i64 x.key.obj, .int .i64 x.val, .int .i64 x.fr, .int .i64 x.to, .int .i64 x.known, .int .i64 x.no] 86))
      have hsa := hst.alloc (.cells #[.int .i64 x.key.kind, .int .i64 x.key.subj, .int .i64 x.key.obj, .int .i64 x.val, .int .i64 x.fr, .int .i64 x.to, .int .i64 x.known, .int .i64 x.no] 86)
      have HZ := hidp hzk
      clear hmr hzk hJk
      obtain ⟨z, hz⟩ : ∃ z, decide (x.key = kk) = z := ⟨_, rfl⟩
      have hq := fun W => k_eql x.key kk W
      rw [hz] at hq
      have HQ := hidp hz
      clear hz
      cases z
      · have HT : Hid (ofF (l.take (k + 1)) kk known = ofF (l.take k) kk known) := ofF_take_no HZ.out (fun h => by have := HQ.out; simp [h.1] at this)
        gi_wp2
        refine ⟨(fun _ h => by cases h), ?_⟩
        gi_wp2
        go_roundw
        case rel => exact ⟨k + 1, C1, by omega, by go_num, by rw [HT.out]; exact hJa, hsa⟩
        case measure => simp [intOf]; omega
      · obtain ⟨z2, hz2⟩ : ∃ z, decide (x.known ≤ known) = z := ⟨_, rfl⟩
        have HK := hidp hz2
        cases z2
        · have HT : Hid (ofF (l.take (k + 1)) kk known = ofF (l.take k) kk known) := ofF_take_no HZ.out (fun h => by have := HK.out; simp [h.2] at this)
          gi_wp2
          refine ⟨(fun _ h => by cases h), ?_⟩
          gi_wp2
          go_roundw
          case rel => exact ⟨k + 1, C1, by omega, by go_num, by rw [HT.out]; exact hJa, hsa⟩
          case measure => simp [intOf]; omega
        · have e1 : x.key = kk := by have := HQ.out; simpa using this
          have e2 : x.known ≤ known := by have := HK.out; simpa using this
          have HT : Hid (ofF (l.take (k + 1)) kk known = ofF (l.take k) kk known ++ [x]) := ofF_take_yes HZ.out e1 e2
          have HSp : Hid (ofF l kk known = ofF (l.take k) kk known ++ x :: ofF (l.drop (k + 1)) kk known) := ofF_split HZ.out e1 e2
          clear e1 e2
          obtain ⟨fn, tmps, assign, body, hy, hR⟩ := HY.out 0 _ _ _ _ _ HSp.out hJa
          clear hJa
          gi_wp2
          refine ⟨rfl, hR.mono ?_⟩
          rintro e W3 ⟨C3, hk3, hC3, (⟨rfl, hJ3⟩ | ⟨rfl, hJx3⟩)⟩
          · gi_wp2
            go_roundw
            case rel => exact ⟨k + 1, C3, by omega, by go_num, by rw [HT.out]; exact hJ3, hsa.round hk3 hC3⟩
            case measure => simp [intOf]; omega
          · gi_wp2
            refine bodyPost_ret (results_none rfl _ _ _) rfl ?_
            exact ⟨⟨_, rfl⟩, C3, .inr hJx3⟩
    · obtain rfl : k = len := by omega
      have HA : Hid (l.take k = l) := List.take_of_length_le (by rw [← HN.out]; omega)
      gi_wp2
      go_end0
      exact ⟨⟨_, rfl⟩, C1, .inl (by have := hJk; rw [HA.out] at this; exact this)⟩

set_option maxHeartbeats 400000 in
theorem of_any (A : Option Addr) (n c : Nat) (kk : Ky) (known : Int) (w : World) :
    Calls Try.prog 65 #[.slice A n c, .agg #[.int .i64 kk.kind, .int .i64 kk.subj, .int .i64 kk.obj], .int .i64 known] w fun e w' => e = .returned (.func (.func 75) #[] #[.pointer (some ⟨w.heap.size, 0, none⟩), .pointer (some ⟨w.heap.size + 1, 0, none⟩), .pointer (some ⟨w.heap.size + 2, 0, none⟩)]) ∧ ((w.alloc (.cells #[.slice A n c] 54)).alloc (.cells #[.int .i64 kk.kind, .int .i64 kk.subj, .int .i64 kk.obj] 45)).alloc (.cells #[.int .i64 known] 3) = w' := by
  go_enter Try.func65, Try.ntmps65
  go_wp2
  go_ret
  exact ⟨rfl, rfl⟩
end Go.Proofs.Ytologegkbcedhaa

/- facts.At walked. -/
namespace Go.Proofs.Ytologegkbcedhaa
open Go.RowKit Go.Shelf
attribute [local go_sem] Oper.semAt_some

theorem heap_set {w : World} {b : Nat} {cs : Array Value} {t : TypeId} {fr : Nat × Nat} (h : w.heap[b]? = some (.cells cs t fr)) (o : Nat) (u : Value) : (w.setCell ⟨b, o, none⟩ u).heap[b]? = some (.cells (cs.setIfInBounds o u) t fr) := by
  simp [World.setCell, Array.getElem?_modify, h]

/-- What 'best' and 'some' hold. -/
def Bst (b : Option Fc) (sm : Bool) (f : Fc) : Prop := (sm = false ∧ b = none) ∨ (sm = true ∧ b = some f)
theorem Bst.none (f : Fc) : Bst none false f := .inl ⟨rfl, rfl⟩
theorem Bst.some (f : Fc) : Bst (some f) true f := .inr ⟨rfl, rfl⟩
theorem better_no {t : Int} {b : Option Fc} {x : Fc} (h : x.at t = false) : better t b x = b := by simp [better, h]
theorem better_new {t : Int} {x : Fc} (h : x.at t = true) : better t none x = some x := by simp [better, h]
theorem better_old {t : Int} {x f : Fc} (h : x.at t = true) (hb : x.bef f = true) : better t (some f) x = some f := by simp [better, h, hb]
theorem better_up {t : Int} {x f : Fc} (h : x.at t = true) (hb : x.bef f = false) : better t (some f) x = some x := by simp [better, h, hb]
theorem bst_no {pre : List Fc} {t : Int} {sm : Bool} {f x : Fc} (h : Bst (bestF pre t) sm f) (hx : x.at t = false) : Bst (bestF (pre ++ [x]) t) sm f := by
  rw [bestF_snoc, better_no hx]; exact h
theorem bst_new {pre : List Fc} {t : Int} {f x : Fc} (h : Bst (bestF pre t) false f) (hx : x.at t = true) : Bst (bestF (pre ++ [x]) t) true x := by
  rcases h with ⟨_, h⟩ | ⟨h, _⟩
  · rw [bestF_snoc, h, better_new hx]; exact Bst.some x
  · cases h
theorem bst_up {pre : List Fc} {t : Int} {f x : Fc} (h : Bst (bestF pre t) true f) (hx : x.at t = true) (hb : x.bef f = false) : Bst (bestF (pre ++ [x]) t) true x := by
  rcases h with ⟨h, _⟩ | ⟨_, h⟩
  · cases h
  · rw [bestF_snoc, h, better_up hx hb]; exact Bst.some x
theorem bst_old {pre : List Fc} {t : Int} {f x : Fc} (h : Bst (bestF pre t) true f) (hx : x.at t = true) (hb : x.bef f = true) : Bst (bestF (pre ++ [x]) t) true f := by
  rcases h with ⟨h, _⟩ | ⟨_, h⟩
  · cases h
  · rw [bestF_snoc, h, better_old hx hb]; exact Bst.some f
theorem at_false1 {x : Fc} {t : Int} (h : decide (x.fr ≤ t) = false) : x.at t = false := by simp [Fc.at, h]
theorem at_false2 {x : Fc} {t : Int} (h : decide (t < x.to) = false) : x.at t = false := by simp [Fc.at, h]
theorem at_true {x : Fc} {t : Int} (h : decide (x.fr ≤ t) = true) (h2 : decide (t < x.to) = true) : x.at t = true := by simp [Fc.at, h, h2]

/-- A fact is stored into 'best', true into 'some'. -/
theorem at_store {w W2 : World} {B1 B2 B3 : Nat} {f x : Fc} {o1 : Option Obj} {sm : Bool} (h1 : W2.heap[B1]? = o1) (h2 : W2.heap[B2]? = some (.cells #[.int .i64 f.key.kind, .int .i64 f.key.subj, .int .i64 f.key.obj, .int .i64 f.val, .int .i64 f.fr, .int .i64 f.to, .int .i64 f.known, .int .i64 f.no] 86 (0, 0))) (h3 : W2.heap[B3]? = some (.cells #[.bool sm] 4 (0, 0)))
    (hb : Below w.heap.size w W2) (h12 : B1 ≠ B2) (h13 : B1 ≠ B3) (h23 : B2 ≠ B3) (hB2 : w.heap.size ≤ B2) (hB3 : w.heap.size ≤ B3) :
    Kept (fun b => b = B2 ∨ b = B3) W2 (((((((((W2.setCell ⟨B2, 0, none⟩ (.int .i64 x.key.kind)).setCell ⟨B2, 1, none⟩ (.int .i64 x.key.subj)).setCell ⟨B2, 2, none⟩ (.int .i64 x.key.obj)).setCell ⟨B2, 3, none⟩ (.int .i64 x.val)).setCell ⟨B2, 4, none⟩ (.int .i64 x.fr)).setCell ⟨B2, 5, none⟩ (.int .i64 x.to)).setCell ⟨B2, 6, none⟩ (.int .i64 x.known)).setCell ⟨B2, 7, none⟩ (.int .i64 x.no)).setCell ⟨B3, 0, none⟩ (.bool true)) ∧ (((((((((W2.setCell ⟨B2, 0, none⟩ (.int .i64 x.key.kind)).setCell ⟨B2, 1, none⟩ (.int .i64 x.key.subj)).setCell ⟨B2, 2, none⟩ (.int .i64 x.key.obj)).setCell ⟨B2, 3, none⟩ (.int .i64 x.val)).setCell ⟨B2, 4, none⟩ (.int .i64 x.fr)).setCell ⟨B2, 5, none⟩ (.int .i64 x.to)).setCell ⟨B2, 6, none⟩ (.int .i64 x.known)).setCell ⟨B2, 7, none⟩ (.int .i64 x.no)).setCell ⟨B3, 0, none⟩ (.bool true)).heap[B1]? = o1 ∧ (((((((((W2.setCell ⟨B2, 0, none⟩ (.int .i64 x.key.kind)).setCell ⟨B2, 1, none⟩ (.int .i64 x.key.subj)).setCell ⟨B2, 2, none⟩ (.int .i64 x.key.obj)).setCell ⟨B2, 3, none⟩ (.int .i64 x.val)).setCell ⟨B2, 4, none⟩ (.int .i64 x.fr)).setCell ⟨B2, 5, none⟩ (.int .i64 x.to)).setCell ⟨B2, 6, none⟩ (.int .i64 x.known)).setCell ⟨B2, 7, none⟩ (.int .i64 x.no)).setCell ⟨B3, 0, none⟩ (.bool true)).heap[B2]? = some (.cells #[.int .i64 x.key.kind, .int .i64 x.key.subj, .int .i64 x.key.obj, .int .i64 x.val, .int .i64 x.fr, .int .i64 x.to, .int .i64 x.known, .int .i64 x.no] 86 (0, 0)) ∧ (((((((((W2.setCell ⟨B2, 0, none⟩ (.int .i64 x.key.kind)).setCell ⟨B2, 1, none⟩ (.int .i64 x.key.subj)).setCell ⟨B2, 2, none⟩ (.int .i64 x.key.obj)).setCell ⟨B2, 3, none⟩ (.int .i64 x.val)).setCell ⟨B2, 4, none⟩ (.int .i64 x.fr)).setCell ⟨B2, 5, none⟩ (.int .i64 x.to)).setCell ⟨B2, 6, none⟩ (.int .i64 x.known)).setCell ⟨B2, 7, none⟩ (.int .i64 x.no)).setCell ⟨B3, 0, none⟩ (.bool true)).heap[B3]? = some (.cells #[.bool true] 4 (0, 0)) ∧ Below w.heap.size w (((((((((W2.setCell ⟨B2, 0, none⟩ (.int .i64 x.key.kind)).setCell ⟨B2, 1, none⟩ (.int .i64 x.key.subj)).setCell ⟨B2, 2, none⟩ (.int .i64 x.key.obj)).setCell ⟨B2, 3, none⟩ (.int .i64 x.val)).setCell ⟨B2, 4, none⟩ (.int .i64 x.fr)).setCell ⟨B2, 5, none⟩ (.int .i64 x.to)).setCell ⟨B2, 6, none⟩ (.int .i64 x.known)).setCell ⟨B2, 7, none⟩ (.int .i64 x.no)).setCell ⟨B3, 0, none⟩ (.bool true)) := by
  have a0 := heap_set_ne h1 h12 0 (.int .i64 x.key.kind)
  have b0 := heap_set h2 0 (.int .i64 x.key.kind)
  have c0 := heap_set_ne h3 (Ne.symm h23) 0 (.int .i64 x.key.kind)
  have k0 := (Kept.refl (fun b => b = B2 ∨ b = B3) W2).setCell (p := ⟨B2, 0, none⟩) (.inl (.inl rfl)) (.int .i64 x.key.kind)
  have l0 := hb.setCell (p := ⟨B2, 0, none⟩) hB2 (.int .i64 x.key.kind)
  have a1 := heap_set_ne a0 h12 1 (.int .i64 x.key.subj)
  have b1 := heap_set b0 1 (.int .i64 x.key.subj)
  have c1 := heap_set_ne c0 (Ne.symm h23) 1 (.int .i64 x.key.subj)
  have k1 := k0.setCell (p := ⟨B2, 1, none⟩) (.inl (.inl rfl)) (.int .i64 x.key.subj)
  have l1 := l0.setCell (p := ⟨B2, 1, none⟩) hB2 (.int .i64 x.key.subj)
  have a2 := heap_set_ne a1 h12 2 (.int .i64 x.key.obj)
  have b2 := heap_set b1 2 (.int .i64 x.key.obj)
  have c2 := heap_set_ne c1 (Ne.symm h23) 2 (.int .i64 x.key.obj)
  have k2 := k1.setCell (p := ⟨B2, 2, none⟩) (.inl (.inl rfl)) (.int .i64 x.key.obj)
  have l2 := l1.setCell (p := ⟨B2, 2, none⟩) hB2 (.int .i64 x.key.obj)
  have a3 := heap_set_ne a2 h12 3 (.int .i64 x.val)
  have b3 := heap_set b2 3 (.int .i64 x.val)
  have c3 := heap_set_ne c2 (Ne.symm h23) 3 (.int .i64 x.val)
  have k3 := k2.setCell (p := ⟨B2, 3, none⟩) (.inl (.inl rfl)) (.int .i64 x.val)
  have l3 := l2.setCell (p := ⟨B2, 3, none⟩) hB2 (.int .i64 x.val)
  have a4 := heap_set_ne a3 h12 4 (.int .i64 x.fr)
  have b4 := heap_set b3 4 (.int .i64 x.fr)
  have c4 := heap_set_ne c3 (Ne.symm h23) 4 (.int .i64 x.fr)
  have k4 := k3.setCell (p := ⟨B2, 4, none⟩) (.inl (.inl rfl)) (.int .i64 x.fr)
  have l4 := l3.setCell (p := ⟨B2, 4, none⟩) hB2 (.int .i64 x.fr)
  have a5 := heap_set_ne a4 h12 5 (.int .i64 x.to)
  have b5 := heap_set b4 5 (.int .i64 x.to)
  have c5 := heap_set_ne c4 (Ne.symm h23) 5 (.int .i64 x.to)
  have k5 := k4.setCell (p := ⟨B2, 5, none⟩) (.inl (.inl rfl)) (.int .i64 x.to)
  have l5 := l4.setCell (p := ⟨B2, 5, none⟩) hB2 (.int .i64 x.to)
  have a6 := heap_set_ne a5 h12 6 (.int .i64 x.known)
  have b6 := heap_set b5 6 (.int .i64 x.known)
  have c6 := heap_set_ne c5 (Ne.symm h23) 6 (.int .i64 x.known)
  have k6 := k5.setCell (p := ⟨B2, 6, none⟩) (.inl (.inl rfl)) (.int .i64 x.known)
  have l6 := l5.setCell (p := ⟨B2, 6, none⟩) hB2 (.int .i64 x.known)
  have a7 := heap_set_ne a6 h12 7 (.int .i64 x.no)
  have b7 := heap_set b6 7 (.int .i64 x.no)
  have c7 := heap_set_ne c6 (Ne.symm h23) 7 (.int .i64 x.no)
  have k7 := k6.setCell (p := ⟨B2, 7, none⟩) (.inl (.inl rfl)) (.int .i64 x.no)
  have l7 := l6.setCell (p := ⟨B2, 7, none⟩) hB2 (.int .i64 x.no)
  have a9 := heap_set_ne a7 h13 0 (.bool true)
  have b9 := heap_set_ne b7 h23 0 (.bool true)
  have c9 := heap_set c7 0 (.bool true)
  have k9 := k7.setCell (p := ⟨B3, 0, none⟩) (.inl (.inr rfl)) (.bool true)
  have l9 := l7.setCell (p := ⟨B3, 0, none⟩) hB3 (.bool true)
  refine ⟨k9, a9, ?_, ?_, l9⟩
  · simpa using b9
  · simpa using c9

def AtPost (l : List Fc) (k : Ky) (t known : Int) (w : World) (e : Ending) (w' : World) : Prop := e = .returned (.tuple #[.int .i64 ((atF l k t known).getD 0), .bool (atF l k t known).isSome]) ∧ Below w.heap.size w w'

end Go.Proofs.Ytologegkbcedhaa

/- The tables of facts.values in memory: 1024 facts and 1024 bools. -/
namespace Go.Proofs.Ytologegkbcedhaa
open Go.RowKit Go.Shelf

def allI : List Value → Nat → Bool
  | [], 0 => true
  | .int .i64 z :: l, n + 1 => (z == 0) && allI l n
  | _, _ => false
def allF : List Value → Nat → Bool
  | [], 0 => true
  | .bool z :: l, n + 1 => !z && allF l n
  | _, _ => false
theorem allI_at : ∀ (l : List Value) (n : Nat), allI l n = true → l.length = n ∧ ∀ j, j < n → l[j]? = some (.int .i64 0)
  | [], 0, _ => ⟨rfl, fun j h => by omega⟩
  | [], n + 1, h => by simp [allI] at h
  | v :: l, n, h => by
    unfold allI at h
    split at h
    · exact absurd ‹v :: l = []› (by simp)
    · rename_i z l' n' h1
      injection h1 with h1 h2
      subst h1 h2
      rw [Bool.and_eq_true] at h
      obtain ⟨h3, h4⟩ := allI_at l n' h.2
      have hz : z = 0 := by simpa using h.1
      subst hz
      refine ⟨by simp [h3], fun j hj => ?_⟩
      cases j with
      | zero => rfl
      | succ j => simpa using h4 j (by omega)
    · cases h
theorem allF_at : ∀ (l : List Value) (n : Nat), allF l n = true → l.length = n ∧ ∀ j, j < n → l[j]? = some (.bool false)
  | [], 0, _ => ⟨rfl, fun j h => by omega⟩
  | [], n + 1, h => by simp [allF] at h
  | v :: l, n, h => by
    unfold allF at h
    split at h
    · exact absurd ‹v :: l = []› (by simp)
    · rename_i z l' n' h1
      injection h1 with h1 h2
      subst h1 h2
      rw [Bool.and_eq_true] at h
      obtain ⟨h3, h4⟩ := allF_at l n' h.2
      have hz : z = false := by simpa using h.1
      subst hz
      refine ⟨by simp [h3], fun j hj => ?_⟩
      cases j with
      | zero => rfl
      | succ j => simpa using h4 j (by omega)
    · cases h
theorem zeros_best : Try.zeroCells113.size = 8192 ∧ ∀ j, j < 8192 → Try.zeroCells113[j]? = some (.int .i64 0) := by
  have h : allI Try.zeroCells113.toList 8192 = true := by kernel_rfl
  obtain ⟨_, h2⟩ := allI_at _ _ h
  exact ⟨by simp, fun j hj => by simpa using h2 j hj⟩
theorem zeros_some : Try.zeroCells114.size = 1024 ∧ ∀ j, j < 1024 → Try.zeroCells114[j]? = some (.bool false) := by
  have h : allF Try.zeroCells114.toList 1024 = true := by kernel_rfl
  obtain ⟨_, h2⟩ := allF_at _ _ h
  exact ⟨by simp, fun j hj => by simpa using h2 j hj⟩
theorem zeros_row : Try.zeroCells94.size = 1024 ∧ ∀ j, j < 1024 → Try.zeroCells94[j]? = some (.int .i64 0) := by
  have h : allI Try.zeroCells94.toList 1024 = true := by kernel_rfl
  obtain ⟨_, h2⟩ := allI_at _ _ h
  exact ⟨by simp, fun j hj => by simpa using h2 j hj⟩

/-- The two tables hold, at each term, what g says. -/
def Tab (W : World) (B7 B8 : Nat) (g : Nat → Option Fc) : Prop :=
  ∃ cs7 cs8, W.heap[B7]? = some (.cells cs7 113 (0, 0)) ∧ W.heap[B8]? = some (.cells cs8 114 (0, 0)) ∧ cs7.size = 8192 ∧ cs8.size = 1024 ∧
    ∀ j, j < 1024 → ∃ sm f, Bst (g j) sm f ∧ cs8[j]? = some (.bool sm) ∧ ∀ i u, (fEnc f)[i]? = some u → cs7[j * 8 + i]? = some u
namespace Tab
variable {W W' : World} {B7 B8 : Nat} {g g' : Nat → Option Fc}
theorem start (h7 : W.heap[B7]? = some (.cells Try.zeroCells113 113 (0, 0))) (h8 : W.heap[B8]? = some (.cells Try.zeroCells114 114 (0, 0))) : Tab W B7 B8 (fun _ => none) := by
  refine ⟨_, _, h7, h8, zeros_best.1, zeros_some.1, fun j hj => ⟨false, ⟨⟨0, 0, 0⟩, 0, 0, 0, 0, 0⟩, Bst.none _, zeros_some.2 j hj, fun i u hu => ?_⟩⟩
  have hi : i < 8 := (List.getElem?_eq_some_iff.1 hu).1
  rw [zeros_best.2 _ (by omega)]
  match i, hi, hu with
  | 0, _, h => exact h
  | 1, _, h => exact h
  | 2, _, h => exact h
  | 3, _, h => exact h
  | 4, _, h => exact h
  | 5, _, h => exact h
  | 6, _, h => exact h
  | 7, _, h => exact h
theorem keep (h : Tab W B7 B8 g) (h7 : W'.heap[B7]? = W.heap[B7]?) (h8 : W'.heap[B8]? = W.heap[B8]?) : Tab W' B7 B8 g := by
  obtain ⟨cs7, cs8, k7, k8, hr⟩ := h
  exact ⟨cs7, cs8, h7.trans k7, h8.trans k8, hr⟩
theorem congr (h : Tab W B7 B8 g) (hg : ∀ j, j < 1024 → g' j = g j) : Tab W B7 B8 g' := by
  obtain ⟨cs7, cs8, k7, k8, z7, z8, hr⟩ := h
  exact ⟨cs7, cs8, k7, k8, z7, z8, fun j hj => by rw [hg j hj]; exact hr j hj⟩
theorem lt (h : Tab W B7 B8 g) : B7 < W.heap.size ∧ B8 < W.heap.size := by
  obtain ⟨cs7, cs8, k7, k8, hr⟩ := h
  exact ⟨lt_of_heap k7, lt_of_heap k8⟩
theorem frozen (h : Tab W B7 B8 g) : (∀ o, W.frozen? ⟨B7, o, none⟩ = false) ∧ (∀ o, W.frozen? ⟨B8, o, none⟩ = false) := by
  obtain ⟨cs7, cs8, k7, k8, hr⟩ := h
  exact ⟨fun o => frozen_of_heap k7, fun o => frozen_of_heap k8⟩
theorem get (h : Tab W B7 B8 g) {j : Nat} (hj : j < 1024) : ∃ sm f, Bst (g j) sm f ∧ W.cell? ⟨B8, j, none⟩ = some (.bool sm) ∧
    W.cell? ⟨B7, j * 8, none⟩ = some (.int .i64 f.key.kind) ∧ W.cell? ⟨B7, j * 8 + 1, none⟩ = some (.int .i64 f.key.subj) ∧ W.cell? ⟨B7, j * 8 + 2, none⟩ = some (.int .i64 f.key.obj) ∧ W.cell? ⟨B7, j * 8 + 3, none⟩ = some (.int .i64 f.val) ∧
    W.cell? ⟨B7, j * 8 + 4, none⟩ = some (.int .i64 f.fr) ∧ W.cell? ⟨B7, j * 8 + 5, none⟩ = some (.int .i64 f.to) ∧ W.cell? ⟨B7, j * 8 + 6, none⟩ = some (.int .i64 f.known) ∧ W.cell? ⟨B7, j * 8 + 7, none⟩ = some (.int .i64 f.no) := by
  obtain ⟨cs7, cs8, k7, k8, z7, z8, hr⟩ := h
  obtain ⟨sm, f, h1, h2, h3⟩ := hr j hj
  refine ⟨sm, f, h1, (cell_of_heap k8).trans h2, ?_, ?_, ?_, ?_, ?_, ?_, ?_, ?_⟩
  · exact (cell_of_heap k7).trans (h3 0 _ rfl)
  · exact (cell_of_heap k7).trans (h3 1 _ rfl)
  · exact (cell_of_heap k7).trans (h3 2 _ rfl)
  · exact (cell_of_heap k7).trans (h3 3 _ rfl)
  · exact (cell_of_heap k7).trans (h3 4 _ rfl)
  · exact (cell_of_heap k7).trans (h3 5 _ rfl)
  · exact (cell_of_heap k7).trans (h3 6 _ rfl)
  · exact (cell_of_heap k7).trans (h3 7 _ rfl)
/-- A fact is stored at a term. -/
theorem put (h : Tab W B7 B8 g) {j : Nat} (hj : j < 1024) (x : Fc) (hne : B7 ≠ B8) {cs7 : Array Value} (h7 : W.heap[B7]? = some (.cells cs7 113 (0, 0))) : Tab ((W.setRow B7 (putAt cs7 (j * 8) (fEnc x))).setCell ⟨B8, j, none⟩ (.bool true)) B7 B8 (fun i => if i = j then some x else g i) := by
  obtain ⟨cs7', cs8, k7, k8, z7, z8, hr⟩ := h
  rw [h7] at k7
  injection k7 with k7
  injection k7 with k7
  subst k7
  have hl8 : (fEnc x).length = 8 := rfl
  refine ⟨putAt cs7 (j * 8) (fEnc x), cs8.setIfInBounds j (.bool true), ?_, ?_, ?_, by simpa using z8, fun i hi => ?_⟩
  · rw [Below.heap_setCell _ _ _ _ (by exact hne)]
    exact setRow_heap W B7 cs7 _ _ _ h7
  · refine heap_set ?_ _ _
    rw [setRow_other _ _ _ _ (Ne.symm hne)]
    exact k8
  · rw [putAt_size _ _ _ (by rw [hl8]; omega), z7]
  · by_cases hij : i = j
    · subst hij
      refine ⟨true, x, by show Bst (if i = i then some x else g i) true x; rw [if_pos rfl]; exact Bst.some x, by simp [z8, hi], fun q u hu => ?_⟩
      have hq : q < 8 := (List.getElem?_eq_some_iff.1 hu).1
      simp only [putAt, List.getElem?_toArray]
      rw [List.append_assoc, List.getElem?_append_right (by simp; omega)]
      have hmin : min (i * 8) cs7.size = i * 8 := by omega
      simp only [List.length_take, Array.length_toList, hmin, Nat.add_sub_cancel_left]
      rw [List.getElem?_append_left (by rw [hl8]; exact hq)]
      exact hu
    · obtain ⟨sm, f, h1, h2, h3⟩ := hr i hi
      refine ⟨sm, f, by show Bst (if i = j then some x else g i) sm f; rw [if_neg hij]; exact h1, by simp [Ne.symm hij, h2], fun q u hu => ?_⟩
      have hq : q < 8 := (List.getElem?_eq_some_iff.1 hu).1
      rw [← h3 q u hu]
      simp only [putAt, List.getElem?_toArray]
      have hmin : min (j * 8) cs7.size = j * 8 := by omega
      rcases Nat.lt_or_ge i j with hlt | hge
      · rw [List.append_assoc, List.getElem?_append_left (by simp; omega), List.getElem?_take, if_pos (by omega)]
        simp
      · rw [List.getElem?_append_right (by simp; omega)]
        simp only [List.length_append, List.length_take, Array.length_toList, hmin, hl8, List.getElem?_drop]
        rw [show j * 8 + 8 + (i * 8 + q - (j * 8 + 8)) = i * 8 + q by omega]
        simp
end Tab

theorem kept_setRowF {M : Nat → Prop} {A B : World} (h : Kept M A B) {g : Nat} (hg : M g) (cs : Array Value) : Kept M A (B.setRow g cs) :=
  h.trans ⟨rfl, rfl, rfl, by simp [World.setRow], fun q _ hM => setRow_other B g q cs (by rintro rfl; exact hM hg)⟩
section
variable {F : Fence} {nF : Nat} {P : Program} {w : World} {g : Nat}
theorem wpListIn_store_at {ops : Array Oper} {rest : List Oper} {o : Oper} {a : Act} {Q : Exit → Act → World → Prop} (ty : TypeId) (x y : Operand) (hw : Region.wanted o (yielded ops a.tmps) = true) (ho : o.op = .store ty x y)
    {off : Nat} {t : TypeId} {cs : Array Value} {vs : List Value} (hx : a.eval x = .pointer (some ⟨g, off, none⟩)) (hy : a.eval y = .agg vs.toArray)
    (hh : w.heap[g]? = some (.cells cs t (0, 0))) (hi : (P.info? ty).map (·.size) = some vs.length) (hl : off + vs.length ≤ cs.size) (h1 : ∀ v ∈ vs, v.oneCell' = true)
    (h : wpListIn F nF P ops Q rest (a.put o.dst undef) (w.setRow g (putAt cs off vs))) : wpListIn F nF P ops Q (o :: rest) a w :=
  BigFrame.wpListIn_want hw fun _ hK => by
    have hab : o.about P w a.eval = none := by unfold Oper.about; simp only [ho]
    refine ⟨(fun f hf => by rw [hab] at hf; cases hf), ?_⟩
    rw [Oper.semAt_eq F.round a.eval o (fun c => by rw [ho]; intro h; cases h)]
    unfold execOp
    simp only [ho, hx, hy, Instr.storeAt, Instr.sureAddr, Sem.run_bind, Sem.run_pure, Result.andThen_ok, run_store_at hh hi hl h1]
    exact hK _ _ h
end
end Go.Proofs.Ytologegkbcedhaa

/- facts.values walked. -/
namespace Go.Proofs.Ytologegkbcedhaa
open Go.RowKit Go.Shelf
attribute [local go_sem] Oper.semAt_some

/-- What the row holds at a term. -/
def rowAt (b : Option Fc) : Int := match b with | none => -1 | some f => max f.val (-1)
theorem rowAt_val (l : List Fc) (k : Ky) (t known : Int) : rowAt (bestF (ofF l k known) t) = valF l k t known := by
  unfold valF atF rowAt
  cases bestF (ofF l k known) t with
  | none => rfl
  | some f =>
    simp only []
    split
    · simp; omega
    · simp; omega
def rowV (l : List Fc) (k : Ky) (known : Int) : Array Value := ((rowF l k known).map (Value.int .i64)).toArray
theorem rowF_at (l : List Fc) (k : Ky) (known : Int) {j : Nat} (hj : j < 1024) : (rowF l k known)[j]? = some (valF l k j known) := by
  simp [rowF, terms, List.getElem?_map, List.getElem?_range hj]
theorem rowF_len (l : List Fc) (k : Ky) (known : Int) : (rowF l k known).length = 1024 := by simp [rowF, terms]
theorem rowV_eq {l : List Fc} {k : Ky} {known : Int} {cs : Array Value} (hz : cs.size = 1024) (h : ∀ j, j < 1024 → cs[j]? = some (.int .i64 (valF l k j known))) : cs = rowV l k known := by
  apply Array.ext_getElem?
  intro j
  rcases Nat.lt_or_ge j 1024 with hj | hj
  · rw [h j hj]
    simp [rowV, List.getElem?_map, rowF_at l k known hj]
  · rw [Array.getElem?_eq_none (by omega)]
    simp only [rowV, List.getElem?_toArray]
    rw [List.getElem?_eq_none (by rw [List.length_map, rowF_len]; exact hj)]
theorem zeros_one : ∀ v ∈ Try.zeroCells94, v.oneCell' = true := by
  intro v hv
  obtain ⟨j, hj, rfl⟩ := Array.mem_iff_getElem.1 hv
  have := zeros_row.2 j (by rw [← zeros_row.1]; exact hj)
  rw [Array.getElem?_eq_getElem hj] at this
  injection this with this
  rw [this]; rfl
theorem one_set {cs : Array Value} (h : ∀ v ∈ cs, v.oneCell' = true) {u : Value} (hu : u.oneCell' = true) (k : Nat) : ∀ v ∈ cs.setIfInBounds k u, v.oneCell' = true := by
  intro v hv
  rcases Array.mem_or_eq_of_mem_setIfInBounds hv with h1 | h1
  · exact h v h1
  · rw [h1]; exact hu
theorem row_other {cs : Array Value} (k : Nat) (u : Value) {j : Nat} (h : j ≠ k) : (cs.setIfInBounds k u)[j]? = cs[j]? := by
  simp [Ne.symm h]
theorem row_set {cs : Array Value} {k : Nat} {r : Nat → Int} {z : Int} (hz : cs.size = 1024) (hk : k < 1024) (h : ∀ j, j < k → cs[j]? = some (.int .i64 (r j))) (hr : r k = z) : ∀ j, j < k + 1 → (cs.setIfInBounds k (.int .i64 z))[j]? = some (.int .i64 (r j)) := by
  intro j hj
  by_cases hjk : j = k
  · subst hjk
    simp [hz, hk, hr]
  · rw [row_other _ _ hjk]
    exact h j (by omega)
theorem putAt_self (cs : Array Value) : putAt cs 0 cs.toList = cs := by
  have h : List.drop cs.size cs.toList = [] := List.drop_of_length_le (by simp)
  simp [putAt, h]
theorem rowInfo : (Try.prog.info? 94).map (·.size) = some 1024 := by kernel_rfl
/-- Behind the terms below z the fact x has been looked at. -/
def upTo (pre : List Fc) (x : Fc) (z : Int) (j : Nat) : Option Fc := if (j : Int) < z then bestF (pre ++ [x]) j else bestF pre j
theorem upTo_start (pre : List Fc) (x : Fc) (j : Nat) : upTo pre x (max 0 x.fr) j = bestF pre j := by
  unfold upTo
  split
  · rw [bestF_snoc, better_no]
    have : ¬ x.fr ≤ (j : Int) := by omega
    simp [Fc.at, this]
  · rfl
theorem upTo_end (pre : List Fc) (x : Fc) (z : Int) (j : Nat) (hj : j < 1024) (hz : ¬ z < min x.to 1024) : upTo pre x z j = bestF (pre ++ [x]) j := by
  unfold upTo
  split
  · rfl
  · rw [bestF_snoc, better_no]
    have : ¬ (j : Int) < x.to := by omega
    simp [Fc.at, this]
theorem upTo_step (pre : List Fc) (x : Fc) (k : Nat) (hx : x.at k = true) (j : Nat) {b : Option Fc} (hb : better k (bestF pre k) x = b) : upTo pre x ((k : Int) + 1) j = if j = k then b else upTo pre x k j := by
  unfold upTo
  by_cases hjk : j = k
  · subst hjk
    rw [if_pos (by omega), if_pos rfl, bestF_snoc, hb]
  · rw [if_neg hjk]
    by_cases h : (j : Int) < k
    · rw [if_pos (by omega), if_pos h]
    · rw [if_neg (by omega), if_neg h]
theorem upTo_at (pre : List Fc) (x : Fc) (k : Nat) : upTo pre x k k = bestF pre k := by unfold upTo; rw [if_neg (by omega)]
theorem at_of {x : Fc} {k : Nat} {z : Int} (hz : z = k) (h1 : max 0 x.fr ≤ z) (h2 : z < min x.to 1024) : x.at k = true := by
  subst hz
  have e1 : x.fr ≤ (k : Int) := by omega
  have e2 : (k : Int) < x.to := by omega
  simp [Fc.at, e1, e2]

set_option maxRecDepth 100000 in
set_option maxHeartbeats 2000000 in
theorem fvalues_any (A : Option Addr) (n c : Nat) (l : List Fc) (kk : Ky) (known : Int) (w : World) (hl : fSl w w.heap.size A n c l) :
    Calls Try.prog 45 #[.slice A n c, .agg #[.int .i64 kk.kind, .int .i64 kk.subj, .int .i64 kk.obj], .int .i64 known] w fun e w' => e = .returned (.agg (rowV l kk known)) ∧ Below w.heap.size w w' := by
  refine calls_of_wp_marks Try.func45 rfl ?_
  simp only [Try.ntmps45, List.size_toArray, List.length_cons, List.length_nil, Nat.reduceAdd, Nat.reduceSub, Array.replicate_succ, Array.replicate_zero, List.push_toArray, List.append_toArray, List.nil_append, List.cons_append]
  obtain ⟨W0, hW0⟩ : ∃ W0, (((w.alloc (.cells #[.int .i64 kk.kind, .int .i64 kk.subj, .int .i64 kk.obj] 45)).alloc (.cells Try.zeroCells94 94)).alloc (.cells Try.zeroCells113 113)).alloc (.cells Try.zeroCells114 114) = W0 := ⟨_, rfl⟩
  have hBW : Below w.heap.size w W0 := by rw [← hW0]; exact ((((Below.refl _ w).alloc (Nat.le_refl _) _).alloc (by simp) _).alloc (by simp; omega) _).alloc (by simp; omega) _
  have hz0 : W0.heap.size = w.heap.size + 4 := by rw [← hW0]; simp
  obtain ⟨B6, hB6⟩ : ∃ b, w.heap.size + 1 = b := ⟨_, rfl⟩
  obtain ⟨B7, hB7⟩ : ∃ b, B6 + 1 = b := ⟨_, rfl⟩
  obtain ⟨B8, hB8⟩ : ∃ b, B7 + 1 = b := ⟨_, rfl⟩
  have g1 : W0.heap[B6]? = some (.cells Try.zeroCells94 94 (0, 0)) := by
    rw [← hW0, Below.heap_alloc _ _ _ (by simp; omega), Below.heap_alloc _ _ _ (by simp; omega)]
    have := World.alloc_heap_new (w.alloc (.cells #[.int .i64 kk.kind, .int .i64 kk.subj, .int .i64 kk.obj] 45)) (.cells Try.zeroCells94 94)
    rwa [World.size_alloc, hB6] at this
  have g2 : W0.heap[B7]? = some (.cells Try.zeroCells113 113 (0, 0)) := by
    rw [← hW0, Below.heap_alloc _ _ _ (by simp; omega)]
    have := World.alloc_heap_new ((w.alloc (.cells #[.int .i64 kk.kind, .int .i64 kk.subj, .int .i64 kk.obj] 45)).alloc (.cells Try.zeroCells94 94)) (.cells Try.zeroCells113 113)
    rwa [World.size_alloc, World.size_alloc, hB6, hB7] at this
  have g3 : W0.heap[B8]? = some (.cells Try.zeroCells114 114 (0, 0)) := by
    rw [← hW0]
    have := World.alloc_heap_new (((w.alloc (.cells #[.int .i64 kk.kind, .int .i64 kk.subj, .int .i64 kk.obj] 45)).alloc (.cells Try.zeroCells94 94)).alloc (.cells Try.zeroCells113 113)) (.cells Try.zeroCells114 114)
    rwa [World.size_alloc, World.size_alloc, World.size_alloc, hB6, hB7, hB8] at this
  have HW0 := hidp hW0
  have HZ0 := hidp hz0
  have G1 := hidp g1
  have G2 := hidp g2
  have G3 := hidp g3
  have HB6 := hidp hB6
  have HB7 := hidp hB7
  have HB8 := hidp hB8
  clear hW0 hz0 g1 g2 g3 hB6 hB7 hB8
  go_wp2_with fail
  rw [HW0.out, HB6.out, HB7.out, HB8.out]
  refine (of_any A n c kk known W0).mono ?_
  rintro e w1 ⟨rfl, hw1⟩
  go_wp2_with fail
  have hb1 : w1.heap[W0.heap.size]? = some (.cells #[.slice A n c] 54 (0, 0)) := by
    rw [← hw1, Below.heap_alloc _ _ _ (by simp; omega), Below.heap_alloc _ _ _ (by simp)]; exact World.alloc_heap_new _ _
  have hb2 : w1.heap[W0.heap.size + 1]? = some (.cells #[.int .i64 kk.kind, .int .i64 kk.subj, .int .i64 kk.obj] 45 (0, 0)) := by
    rw [← hw1, Below.heap_alloc _ _ _ (by simp)]
    have := World.alloc_heap_new (W0.alloc (.cells #[.slice A n c] 54)) (.cells #[.int .i64 kk.kind, .int .i64 kk.subj, .int .i64 kk.obj] 45)
    rwa [World.size_alloc] at this
  have hb3 : w1.heap[W0.heap.size + 2]? = some (.cells #[.int .i64 known] 3 (0, 0)) := by
    rw [← hw1]
    have := World.alloc_heap_new ((W0.alloc (.cells #[.slice A n c] 54)).alloc (.cells #[.int .i64 kk.kind, .int .i64 kk.subj, .int .i64 kk.obj] 45)) (.cells #[.int .i64 known] 3)
    rwa [World.size_alloc, World.size_alloc] at this
  have hBe : Below W0.heap.size W0 w1 := by rw [← hw1]; exact (((Below.refl _ W0).alloc (Nat.le_refl _) _).alloc (by simp) _).alloc (by simp; omega) _
  have hz1 : w1.heap.size = W0.heap.size + 3 := by rw [← hw1]; simp
  have k1 := (hBe.block _ (lt_of_heap G1.out)).trans G1.out
  have k2 := (hBe.block _ (lt_of_heap G2.out)).trans G2.out
  have k3 := (hBe.block _ (lt_of_heap G3.out)).trans G3.out
  have hB1w : Below w.heap.size w w1 := hBW.trans (hBe.mono hBW.size)
  have hseq := of1_seq W0.heap.size (W0.heap.size + 1) (W0.heap.size + 2) w.heap.size A n c l kk known w1 (cell_of_heap hb1) hb2 (cell_of_heap hb3) (hl.below fStable hB1w)
  obtain ⟨z0, z0'⟩ : W0.heap.size ≤ w.heap.size + 4 ∧ w.heap.size + 4 ≤ W0.heap.size := by have := HZ0.out; omega
  obtain ⟨y1, y1'⟩ : w.heap.size + 1 ≤ B6 ∧ B6 ≤ w.heap.size + 1 := by have := HB6.out; omega
  obtain ⟨y2, y2'⟩ : B6 + 1 ≤ B7 ∧ B7 ≤ B6 + 1 := by have := HB7.out; omega
  obtain ⟨y3, y3'⟩ : B7 + 1 ≤ B8 ∧ B8 ≤ B7 + 1 := by have := HB8.out; omega
  have K1 := hidp k1
  have hT0 : Tab w1 B7 B8 (fun j => bestF [] j) := Tab.start k2 k3
  clear hb1 hb2 hb3 hw1 k1 k2 k3 G1 G2 G3 HW0
  refine wp_rangeM (gf := 75) (lb := #[.pointer (some ⟨W0.heap.size, 0, none⟩), .pointer (some ⟨W0.heap.size + 1, 0, none⟩), .pointer (some ⟨W0.heap.size + 2, 0, none⟩)]) rfl (enters_of Try.func75 (by kernel_rfl) rfl) hseq (fun b => b = B7 ∨ b = B8) ?S (fun _ => rfl) ?M
    (fun pre W => W.heap[B6]? = some (.cells Try.zeroCells94 94 (0, 0)) ∧ Tab W B7 B8 (fun j => bestF pre j) ∧ Below w.heap.size w W)
    (fun _ _ => False)
    ?hI ?hIx ?h0 (fun ll pre x a' W => ∃ B9 : Nat, W.heap[B6]? = some (.cells Try.zeroCells94 94 (0, 0)) ∧ Tab W B7 B8 (fun j => bestF pre j) ∧ Below w.heap.size w W ∧
        B9 ≠ ll ∧ B8 < B9 ∧ W.heap[B9]? = some (.cells #[.int .i64 x.key.kind, .int .i64 x.key.subj, .int .i64 x.key.obj, .int .i64 x.val, .int .i64 x.fr, .int .i64 x.to, .int .i64 x.known, .int .i64 x.no] 86 (0, 0)) ∧
        a' = { tmps := #[.slice A n c, .agg #[.int .i64 kk.kind, .int .i64 kk.subj, .int .i64 kk.obj], .int .i64 known, undef, .pointer (some ⟨w.heap.size, 0, none⟩), undef, .pointer (some ⟨B6, 0, none⟩), .pointer (some ⟨B7, 0, none⟩), .pointer (some ⟨B8, 0, none⟩), .pointer (some ⟨B9, 0, none⟩), undef, undef, .slice A n c, .agg #[.int .i64 kk.kind, .int .i64 kk.subj, .int .i64 kk.obj], .int .i64 known,
          .func (.func 75) #[] #[.pointer (some ⟨W0.heap.size, 0, none⟩), .pointer (some ⟨W0.heap.size + 1, 0, none⟩), .pointer (some ⟨W0.heap.size + 2, 0, none⟩)], .agg #[.int .i64 x.key.kind, .int .i64 x.key.subj, .int .i64 x.key.obj, .int .i64 x.val, .int .i64 x.fr, .int .i64 x.to, .int .i64 x.known, .int .i64 x.no], undef, undef, undef, undef, undef, undef, undef, undef, undef, undef, undef, undef, undef, undef, undef, undef, undef, undef, undef, undef, undef, undef, undef, undef, undef, undef, undef, undef, undef, undef, undef, undef, undef, undef, undef, undef, undef, undef, undef, undef, undef, undef, undef, undef, undef, undef], defers := [] })
    ?hAx ?assign ?body ?done ?stop
  case S =>
    have z1 := hz1
    have hs := hBW.size
    rintro b (hb | rfl | rfl | rfl) <;> exact ⟨by omega, rfl, by omega⟩
  case M => rintro b (rfl | rfl) <;> omega
  case hI =>
    rintro pre W1 W2 ⟨h1, h2, h3⟩ hk
    exact ⟨(hk.block _ (lt_of_heap h1) (by omega)).trans h1, h2.keep (hk.block _ h2.lt.1 (by omega)) (hk.block _ h2.lt.2 (by omega)), h3.trans (hk.toBelow h3.size (by omega))⟩
  case hIx => rintro cd W1 W2 h; exact h.elim
  case h0 => exact ⟨K1.out, hT0, hB1w⟩
  case hAx =>
    rintro ll pre x a' W2 W3 hll ⟨B9, h1, h2, h3, h6, h7, h8, rfl⟩ _ hk
    exact ⟨B9, (hk.block _ (lt_of_heap h1) (by omega)).trans h1, h2.keep (hk.block _ h2.lt.1 (by omega)) (hk.block _ h2.lt.2 (by omega)), h3.trans (hk.toBelow h3.size (by omega)), h6, h7, (hk.block _ (lt_of_heap h8) h6).trans h8, rfl⟩
  case assign =>
    rintro ll m pre x suf W1 K hll hlt _ ⟨h1, h2, h3⟩ hK
    have l1 := lt_of_heap h1
    have l2 := h2.lt
    gi_wp2
    refine hK _ _ ((Kept.refl _ _).alloc _) ⟨W1.heap.size, (Below.heap_alloc _ _ _ l1).trans h1, h2.keep (Below.heap_alloc _ _ _ l2.1) (Below.heap_alloc _ _ _ l2.2), h3.alloc h3.size _, by omega, by omega, World.alloc_heap_new _ _, rfl⟩
  case body =>
    rintro ll m pre x suf a' W2 hll hxs ⟨B9, h1, h2, h3, h6, h7, h8, rfl⟩ _
    obtain ⟨i0, hiE, _, hsE, _⟩ := info_parts fInfo
    have x0 := cell_of_heap (o := 0) h8
    have x1 := cell_of_heap (o := 1) h8
    have x2 := cell_of_heap (o := 2) h8
    have x3 := cell_of_heap (o := 3) h8
    have x4 := cell_of_heap (o := 4) h8
    have x5 := cell_of_heap (o := 5) h8
    have x6 := cell_of_heap (o := 6) h8
    have x7 := cell_of_heap (o := 7) h8
    simp only [List.getElem?_toArray, List.getElem?_cons_zero, List.getElem?_cons_succ] at x0 x1 x2 x3 x4 x5 x6 x7
    have hT1 : ∀ z, max 0 x.fr = z → Tab W2 B7 B8 (upTo pre x z) := fun z e => h2.congr fun j _ => by rw [← e]; exact upTo_start pre x j
    have HT1 := hidp hT1
    have HX2 := hidp h8
    have H62 := hidp h1
    have HB2 := hidp h3
    clear h1 h2 h3 h8 hxs hseq hT0 hT1
    gi_wp2_with fail
    all_goals
      gi_loopw [10] (fun t wr => ∃ z : Int, t = .int .i64 z ∧ max 0 x.fr ≤ z ∧ Tab wr B7 B8 (upTo pre x z) ∧ Kept (fun b => b = B7 ∨ b = B8) W2 wr ∧ wr.heap[B6]? = some (.cells Try.zeroCells94 94 (0, 0)) ∧ wr.heap[B9]? = some (.cells #[.int .i64 x.key.kind, .int .i64 x.key.subj, .int .i64 x.key.obj, .int .i64 x.val, .int .i64 x.fr, .int .i64 x.to, .int .i64 x.known, .int .i64 x.no] 86 (0, 0)) ∧ Below w.heap.size w wr) (fun t _ => (1024 - intOf t).toNat)
      case atStart => exact ⟨_, rfl, by omega, HT1.out _ (by omega), Kept.refl _ _, H62.out, HX2.out, HB2.out⟩
      case round =>
        obtain ⟨z, rfl, hz, hT, hkp, h6b, hxb, hbw⟩ := hrel
        clear x0 x1 x2 x3 x4 x5 x6 x7
        rcases Int.lt_or_le 1024 x.to with ho | ho
        all_goals
          have x0 := cell_of_heap (o := 0) hxb
          have x1 := cell_of_heap (o := 1) hxb
          have x2 := cell_of_heap (o := 2) hxb
          have x3 := cell_of_heap (o := 3) hxb
          have x4 := cell_of_heap (o := 4) hxb
          have x5 := cell_of_heap (o := 5) hxb
          have x6 := cell_of_heap (o := 6) hxb
          have x7 := cell_of_heap (o := 7) hxb
          simp only [List.getElem?_toArray, List.getElem?_cons_zero, List.getElem?_cons_succ] at x0 x1 x2 x3 x4 x5 x6 x7
          by_cases hlt : z < min x.to 1024
          · obtain ⟨k, rfl⟩ : ∃ k : Nat, z = k := ⟨z.toNat, by omega⟩
            have hk3 : (k : Int) < 1024 := by omega
            have hk5 : (k : Int) < x.to := by omega
            have hk4 : k < 1024 := by omega
            have HAt : Hid (x.at k = true) := at_of rfl hz hlt
            clear hlt
            obtain ⟨sm, f, hst, d8, d0, d1, d2, d3, d4, d5, d6, d7⟩ := hT.get hk4
            rw [upTo_at] at hst
            have HS := hidp hst
            have hl7 := hT.lt.1
            have hl8 := hT.lt.2
            have lx := lt_of_heap hxb
            have l6 := lt_of_heap h6b
            have HT := hidp hT
            have HX := hidp hxb
            have H6 := hidp h6b
            have HK := hidp hkp
            have HBw := hidp hbw
            clear hT hxb h6b hkp hbw hst
            cases sm
            · have hbn : bestF pre k = none := by
                rcases HS.out with ⟨_, h⟩ | ⟨h, _⟩
                · exact h
                · cases h
              have HBn := hidp hbn
              clear hbn
              gi_wp2_with fail
              refine wpIn_region_below ll m wr.heap.size (by kernel_rfl) (by kernel_rfl) ?_
              repeat
                first
                | go_big_quiet_skip
                | (refine q_step (by rfl) ?_
                   apply Exists.intro
                   refine ⟨fun w9 h9 => ?_, ?_⟩
                   · have hc9 := (bcell h9).1
                     go_simp
                     first | done | rfl 
                   go_simp)
              refine wpQuiet_nil ?_
              intro w9 hb9
              have hb9z := hb9.size
              have hB9' := HBw.out.trans (hb9.mono HBw.out.size)
              have hT9 := HT.out.keep (hb9.block _ hl7) (hb9.block _ hl8)
              have h9x := (hb9.block _ lx).trans HX.out
              have h96 := (hb9.block _ l6).trans H6.out
              have hk9 := HK.out.trans (kept_of_below (M := fun b => b = B7 ∨ b = B8) hb9 (by omega))
              clear d0 d1 d2 d3 d4 d5 d6 d7 d8 x0 x1 x2 x3 x4 x5 x6 x7
              obtain ⟨cs7, cs8, k7, k8, z7, z8, _⟩ := id hT9
              have hfz8 := hT9.frozen.2
              obtain ⟨_, _, _, e8, _⟩ := hT9.get hk4
              have x0 := cell_of_heap (o := 0) h9x
              have x1 := cell_of_heap (o := 1) h9x
              have x2 := cell_of_heap (o := 2) h9x
              have x3 := cell_of_heap (o := 3) h9x
              have x4 := cell_of_heap (o := 4) h9x
              have x5 := cell_of_heap (o := 5) h9x
              have x6 := cell_of_heap (o := 6) h9x
              have x7 := cell_of_heap (o := 7) h9x
              simp only [List.getElem?_toArray, List.getElem?_cons_zero, List.getElem?_cons_succ] at x0 x1 x2 x3 x4 x5 x6 x7
              have e8' : (w9.setRow B7 (putAt cs7 (k * 8) (fEnc x))).cell? ⟨B8, k, none⟩ = some (.bool _) := (World.cell?_of_block (w := w9) (a := ⟨B8, k, none⟩) (setRow_other _ _ _ _ (by show B8 ≠ B7; omega))).trans e8
              have f8' : (w9.setRow B7 (putAt cs7 (k * 8) (fEnc x))).frozen? ⟨B8, k, none⟩ = false := (World.frozen?_of_block (w := w9) (a := ⟨B8, k, none⟩) (setRow_other _ _ _ _ (by show B8 ≠ B7; omega))).trans (hfz8 _)
              have hput := hT9.put hk4 x (by omega) k7
              have hkp : Kept (fun b => b = B7 ∨ b = B8) W2 ((w9.setRow B7 (putAt cs7 (k * 8) (fEnc x))).setCell ⟨B8, k, none⟩ (.bool true)) := (kept_setRowF hk9 (.inl rfl) _).setCell (p := ⟨B8, k, none⟩) (.inl (.inr rfl)) _
              have hbp : Below w.heap.size w ((w9.setRow B7 (putAt cs7 (k * 8) (fEnc x))).setCell ⟨B8, k, none⟩ (.bool true)) := (below_setRow hB9' (by omega) _).setCell (p := ⟨B8, k, none⟩) (by show w.heap.size ≤ B8; omega) _
              have HP := hidp hput
              have HKp := hidp hkp
              have HBp := hidp hbp
              have h6p : ((w9.setRow B7 (putAt cs7 (k * 8) (fEnc x))).setCell ⟨B8, k, none⟩ (.bool true)).heap[B6]? = some (.cells Try.zeroCells94 94 (0, 0)) := heap_set_ne ((setRow_other _ _ _ _ (by omega)).trans h96) (by omega) _ _
              have hxp : ((w9.setRow B7 (putAt cs7 (k * 8) (fEnc x))).setCell ⟨B8, k, none⟩ (.bool true)).heap[B9]? = some (.cells #[.int .i64 x.key.kind, .int .i64 x.key.subj, .int .i64 x.key.obj, .int .i64 x.val, .int .i64 x.fr, .int .i64 x.to, .int .i64 x.known, .int .i64 x.no] 86 (0, 0)) := heap_set_ne ((setRow_other _ _ _ _ (by omega)).trans h9x) (by omega) _ _
              have H6p := hidp h6p
              have Hxp := hidp hxp
              clear hput hkp hbp h6p hxp hT9 h96 h9x hk9 hB9'
              gi_wp2_with (first | (refine wpListIn_store_at (vs := fEnc x) 86 (.tmp 44) (.tmp 43) rfl rfl rfl rfl k7 (by rw [hiE]; simp [hsE, fEnc_len]) (by rw [fEnc_len]; omega) (fEnc_one x) ?_))
              go_roundw
              case rel => exact ⟨(k : Int) + 1, rfl, by omega, HP.out.congr (fun j _ => upTo_step pre x k HAt.out j (by rw [HBn.out]; exact better_new HAt.out)), HKp.out, H6p.out, Hxp.out, HBp.out⟩
              case measure => simp [intOf]; omega
            · have hbs : bestF pre k = some f := by
                rcases HS.out with ⟨h, _⟩ | ⟨_, h⟩
                · cases h
                · exact h
              have HBs := hidp hbs
              obtain ⟨zb, hzb⟩ : ∃ z, x.bef f = z := ⟨_, rfl⟩
              have HV := hidp hzb
              have HW := hidp (bef_cmp hzb)
              clear hbs hzb
              gi_wp2_with fail
              refine wpIn_region_below ll m wr.heap.size (by kernel_rfl) (by kernel_rfl) ?_
              repeat
                first
                | go_big_quiet_skip
                | (refine q_step (by rfl) ?_
                   apply Exists.intro
                   refine ⟨fun w9 h9 => ?_, ?_⟩
                   · have hc9 := (bcell h9).1
                     go_simp
                     first | done | rfl | exact calls_below h9 (Nat.le_refl _) ((fcmp_any x f w9).mono fun _ _ ⟨he, hd⟩ => ⟨he, hd.b⟩)
                   go_simp)
              refine wpQuiet_nil ?_
              intro w9 hb9
              have hb9z := hb9.size
              have hB9' := HBw.out.trans (hb9.mono HBw.out.size)
              have hT9 := HT.out.keep (hb9.block _ hl7) (hb9.block _ hl8)
              have h9x := (hb9.block _ lx).trans HX.out
              have h96 := (hb9.block _ l6).trans H6.out
              have hk9 := HK.out.trans (kept_of_below (M := fun b => b = B7 ∨ b = B8) hb9 (by omega))
              clear d0 d1 d2 d3 d4 d5 d6 d7 d8 x0 x1 x2 x3 x4 x5 x6 x7
              rw [HW.out]
              cases zb
              · skip
                obtain ⟨cs7, cs8, k7, k8, z7, z8, _⟩ := id hT9
                have hfz8 := hT9.frozen.2
                obtain ⟨_, _, _, e8, _⟩ := hT9.get hk4
                have x0 := cell_of_heap (o := 0) h9x
                have x1 := cell_of_heap (o := 1) h9x
                have x2 := cell_of_heap (o := 2) h9x
                have x3 := cell_of_heap (o := 3) h9x
                have x4 := cell_of_heap (o := 4) h9x
                have x5 := cell_of_heap (o := 5) h9x
                have x6 := cell_of_heap (o := 6) h9x
                have x7 := cell_of_heap (o := 7) h9x
                simp only [List.getElem?_toArray, List.getElem?_cons_zero, List.getElem?_cons_succ] at x0 x1 x2 x3 x4 x5 x6 x7
                have e8' : (w9.setRow B7 (putAt cs7 (k * 8) (fEnc x))).cell? ⟨B8, k, none⟩ = some (.bool _) := (World.cell?_of_block (w := w9) (a := ⟨B8, k, none⟩) (setRow_other _ _ _ _ (by show B8 ≠ B7; omega))).trans e8
                have f8' : (w9.setRow B7 (putAt cs7 (k * 8) (fEnc x))).frozen? ⟨B8, k, none⟩ = false := (World.frozen?_of_block (w := w9) (a := ⟨B8, k, none⟩) (setRow_other _ _ _ _ (by show B8 ≠ B7; omega))).trans (hfz8 _)
                have hput := hT9.put hk4 x (by omega) k7
                have hkp : Kept (fun b => b = B7 ∨ b = B8) W2 ((w9.setRow B7 (putAt cs7 (k * 8) (fEnc x))).setCell ⟨B8, k, none⟩ (.bool true)) := (kept_setRowF hk9 (.inl rfl) _).setCell (p := ⟨B8, k, none⟩) (.inl (.inr rfl)) _
                have hbp : Below w.heap.size w ((w9.setRow B7 (putAt cs7 (k * 8) (fEnc x))).setCell ⟨B8, k, none⟩ (.bool true)) := (below_setRow hB9' (by omega) _).setCell (p := ⟨B8, k, none⟩) (by show w.heap.size ≤ B8; omega) _
                have HP := hidp hput
                have HKp := hidp hkp
                have HBp := hidp hbp
                have h6p : ((w9.setRow B7 (putAt cs7 (k * 8) (fEnc x))).setCell ⟨B8, k, none⟩ (.bool true)).heap[B6]? = some (.cells Try.zeroCells94 94 (0, 0)) := heap_set_ne ((setRow_other _ _ _ _ (by omega)).trans h96) (by omega) _ _
                have hxp : ((w9.setRow B7 (putAt cs7 (k * 8) (fEnc x))).setCell ⟨B8, k, none⟩ (.bool true)).heap[B9]? = some (.cells #[.int .i64 x.key.kind, .int .i64 x.key.subj, .int .i64 x.key.obj, .int .i64 x.val, .int .i64 x.fr, .int .i64 x.to, .int .i64 x.known, .int .i64 x.no] 86 (0, 0)) := heap_set_ne ((setRow_other _ _ _ _ (by omega)).trans h9x) (by omega) _ _
                have H6p := hidp h6p
                have Hxp := hidp hxp
                clear hput hkp hbp h6p hxp hT9 h96 h9x hk9 hB9'
                gi_wp2_with (first | (refine wpListIn_store_at (vs := fEnc x) 86 (.tmp 44) (.tmp 43) rfl rfl rfl rfl k7 (by rw [hiE]; simp [hsE, fEnc_len]) (by rw [fEnc_len]; omega) (fEnc_one x) ?_))
                go_roundw
                case rel => exact ⟨(k : Int) + 1, rfl, by omega, HP.out.congr (fun j _ => upTo_step pre x k HAt.out j (by rw [HBs.out]; exact better_up HAt.out HV.out)), HKp.out, H6p.out, Hxp.out, HBp.out⟩
                case measure => simp [intOf]; omega
              · gi_wp2_with fail
                go_roundw
                case rel =>
                  refine ⟨(k : Int) + 1, rfl, by omega, hT9.congr (fun j _ => ?_), hk9, h96, h9x, hB9'⟩
                  rw [upTo_step pre x k HAt.out j (b := some f) (by rw [HBs.out]; exact better_old HAt.out HV.out)]
                  split
                  · rename_i hjk; rw [hjk, upTo_at, HBs.out]
                  · rfl
                case measure => simp [intOf]; omega
          · try have hge1 : 1024 ≤ z := by omega
            try have hge2 : x.to ≤ z := by omega
            have hTe := hT.congr (fun j hj => (upTo_end pre x z j hj hlt).symm)
            have HTe := hidp hTe
            clear hlt hTe hT
            gi_wp2
            exact ⟨hkp, h6b, HTe.out, hbw⟩
  case done =>
    rintro D W hD hlt ⟨h1, h2, h3⟩ hk
    obtain ⟨L, hL⟩ : ∃ L, ofF l kk known = L := ⟨_, rfl⟩
    have HL := hidp hL
    rw [hL] at h2
    have HT1 := hidp h2
    have HK1 := hidp hk
    have H61 := hidp h1
    clear hk h1 h2 hseq hL hT0
    go_wp2_with fail
    go_loopw [11, 46] (fun _ i wr => ∃ k : Nat, k ≤ 1024 ∧ i = .int .i64 k ∧ (∃ cs6, wr.heap[B6]? = some (.cells cs6 94 (0, 0)) ∧ cs6.size = 1024 ∧ (∀ v ∈ cs6, v.oneCell' = true) ∧ ∀ j, j < k → cs6[j]? = some (.int .i64 (rowAt (bestF L j)))) ∧ Tab wr B7 B8 (fun j => bestF L j) ∧ Below w.heap.size w wr ∧ wr.heap[D]? = some (.deferred (some []))) (fun _ i _ => 1024 - (intOf i).toNat)
    case atStart => exact ⟨0, by omega, rfl, ⟨_, H61.out, zeros_row.1, zeros_one, fun j hj => by omega⟩, HT1.out, h3, HK1.out⟩
    case round =>
      obtain ⟨k, hk, rfl, ⟨cs6, h6, z6, ho6, hr6⟩, hT, hbe, hDk⟩ := hrel
      have HR6 := hidp hr6
      have H6 := hidp h6
      have HT := hidp hT
      have HD := hidp hDk
      have HO := hidp ho6
      have l6 := lt_of_heap h6
      have lT := hT.lt
      have lD := lt_of_heap hDk
      clear hr6 hDk ho6
      by_cases hlt : k < 1024
      · have hlt' : (k : Int) < 1024 := by omega
        obtain ⟨v6, hv6⟩ : ∃ v, cs6[k]? = some v := ⟨cs6[k], Array.getElem?_eq_getElem (by omega)⟩
        have c6 := (cell_of_heap (o := k) h6).trans hv6
        have f6 := frozen_of_heap (o := k) h6
        obtain ⟨sm, f, hst, e8, e0, e1, e2, e3, e4, e5, e6, e7⟩ := hT.get hlt
        have HS := hidp hst
        have n8 : B8 ≠ B6 := by omega
        have n7 : B7 ≠ B6 := by omega
        clear hst h6 hT hv6
        cases sm
        · have hv : rowAt (bestF L k) = -1 := by
            rcases HS.out with ⟨_, h⟩ | ⟨h, _⟩
            · rw [h]; rfl
            · cases h
          have HV := hidp hv
          clear hv
          go_wp2_with fail
          go_roundw
          case rel =>
            refine ⟨k + 1, by omega, by go_num, ⟨_, heap_set H6.out k _, by simpa using z6, ?_, ?_⟩, HT.out.keep (Below.heap_setCell _ _ _ _ (by show B7 ≠ B6; omega)) (Below.heap_setCell _ _ _ _ (by show B8 ≠ B6; omega)), hbe.setCell (p := ⟨B6, k, none⟩) (by show w.heap.size ≤ B6; omega) _, (Below.heap_setCell _ _ _ _ (by show D ≠ B6; omega)).trans HD.out⟩
            · exact one_set HO.out rfl k
            · exact row_set z6 (by omega) HR6.out HV.out
          case measure => simp [intOf]; omega
        · have hv : rowAt (bestF L k) = max f.val (-1) := by
            rcases HS.out with ⟨h, _⟩ | ⟨_, h⟩
            · cases h
            · rw [h]; rfl
          have HV := hidp hv
          clear hv
          rcases Int.lt_or_le f.val (-1) with hn | hn
          · have hm : max f.val (-1) = -1 := by omega
            have HM := hidp hm
            clear hm
            go_wp2_with fail
            go_roundw
            case rel =>
              refine ⟨k + 1, by omega, by go_num, ⟨_, heap_set (heap_set H6.out k _) k _, by simpa using z6, ?_, ?_⟩, HT.out.keep ?_ ?_, (hbe.setCell (p := ⟨B6, k, none⟩) (by show w.heap.size ≤ B6; omega) _).setCell (p := ⟨B6, k, none⟩) (by show w.heap.size ≤ B6; omega) _, ?_⟩
              · exact one_set (one_set HO.out rfl k) rfl k
              · exact row_set (by simpa using z6) (by omega) (fun j hj => by rw [row_other _ _ (by omega)]; exact HR6.out j hj) (HV.out.trans HM.out)
              · rw [Below.heap_setCell _ _ _ _ (by show B7 ≠ B6; omega), Below.heap_setCell _ _ _ _ (by show B7 ≠ B6; omega)]
              · rw [Below.heap_setCell _ _ _ _ (by show B8 ≠ B6; omega), Below.heap_setCell _ _ _ _ (by show B8 ≠ B6; omega)]
              · rw [Below.heap_setCell _ _ _ _ (by show D ≠ B6; omega), Below.heap_setCell _ _ _ _ (by show D ≠ B6; omega)]; exact HD.out
            case measure => simp [intOf]; omega
          · have hm : max f.val (-1) = f.val := by omega
            have HM := hidp hm
            clear hm
            go_wp2_with fail
            go_roundw
            case rel =>
              refine ⟨k + 1, by omega, by go_num, ⟨_, heap_set (heap_set H6.out k _) k _, by simpa using z6, ?_, ?_⟩, HT.out.keep ?_ ?_, (hbe.setCell (p := ⟨B6, k, none⟩) (by show w.heap.size ≤ B6; omega) _).setCell (p := ⟨B6, k, none⟩) (by show w.heap.size ≤ B6; omega) _, ?_⟩
              · exact one_set (one_set HO.out rfl k) rfl k
              · exact row_set (by simpa using z6) (by omega) (fun j hj => by rw [row_other _ _ (by omega)]; exact HR6.out j hj) (HV.out.trans HM.out)
              · rw [Below.heap_setCell _ _ _ _ (by show B7 ≠ B6; omega), Below.heap_setCell _ _ _ _ (by show B7 ≠ B6; omega)]
              · rw [Below.heap_setCell _ _ _ _ (by show B8 ≠ B6; omega), Below.heap_setCell _ _ _ _ (by show B8 ≠ B6; omega)]
              · rw [Below.heap_setCell _ _ _ _ (by show D ≠ B6; omega), Below.heap_setCell _ _ _ _ (by show D ≠ B6; omega)]; exact HD.out
            case measure => simp [intOf]; omega
      · obtain rfl : k = 1024 := by omega
        have hcs : cs6 = rowV l kk known := rowV_eq z6 fun j hj => by rw [HR6.out j hj, ← HL.out, rowAt_val]
        have hput : putAt cs6 0 cs6.toList = cs6 := putAt_self cs6
        have HCs := hidp hcs
        have HPut := hidp hput
        clear hcs hput hT
        go_wp2_with (first | (refine wpList_load_row rfl 94 (.tmp 6) rfl B6 rfl 94 cs6 (0, 0) _ h6 Try.underlying94 rfl (by rw [z6]; exact rowInfo) ?_) | (refine wpList_store_at (vs := cs6.toList) 94 (.tmp 6) (.tmp 62) rfl rfl rfl rfl h6 (by rw [Array.length_toList, z6]; exact rowInfo) (by rw [Array.length_toList]; omega) (fun v hv => HO.out v (by simpa using hv)) ?_))
        have hB' : Below w.heap.size w (wr.setRow B6 (putAt cs6 0 cs6.toList)) := below_setRow hbe (by omega) _
        have hD' : (wr.setRow B6 (putAt cs6 0 cs6.toList)).heap[D]? = some (.deferred (some [])) := (setRow_other _ _ _ _ (by omega)).trans HD.out
        have h6' : ((wr.setRow B6 (putAt cs6 0 cs6.toList)).putObj D (.deferred none)).heap[B6]? = some (.cells cs6 94 (0, 0)) := by
          rw [World.putObj_heap_other (by omega), HPut.out]
          exact setRow_heap wr B6 cs6 _ _ _ h6
        have hBD := hB'.trans (((Kept.refl (fun b => b = D) (wr.setRow B6 (putAt cs6 0 cs6.toList))).putObj (r := D) (.inl rfl) (.deferred none)).toBelow hB'.size (by omega))
        refine leave_mark (.inl rfl) (D := D) hD' rfl (v := .agg cs6) ?_ ⟨by rw [HCs.out], hBD⟩
        exact results_cell_row (P := Try.prog) (fn := Try.f45) rfl _ _ B6 94 cs6 (0, 0) _ rfl h6' Try.underlying94 rfl (by rw [z6]; exact rowInfo)
  case stop => rintro D cd W hD hlt h; exact h.elim
end Go.Proofs.Ytologegkbcedhaa

/- The reference's At walked. -/
namespace Go.Proofs.Ytologegkbcedhaa
open Go.RowKit Go.Shelf

/-- What the reference's 'best' holds behind k facts. -/
def RBest (l : List Fc) (kk : Ky) (t known : Int) (k : Nat) (bi : Int) : Prop := (bi = -1 ∧ bestF (ofF (l.take k) kk known) t = none) ∨ ∃ (j : Nat) (f : Fc), bi = j ∧ j < k ∧ l[j]? = some f ∧ bestF (ofF (l.take k) kk known) t = some f
theorem RBest.start (l : List Fc) (kk : Ky) (t known : Int) : RBest l kk t known 0 (-1) := .inl ⟨rfl, rfl⟩
theorem ofF_no {l : List Fc} {kk : Ky} {t known : Int} {k : Nat} {x : Fc} (h : l[k]? = some x) (hx : decide (x.key = kk) = false ∨ decide (x.fr ≤ t) = false ∨ decide (t < x.to) = false ∨ decide (x.known ≤ known) = false) : bestF (ofF (l.take (k + 1)) kk known) t = bestF (ofF (l.take k) kk known) t := by
  by_cases hk : x.key = kk ∧ x.known ≤ known
  · rw [ofF_take_yes h hk.1 hk.2, bestF_snoc]
    refine better_no ?_
    rcases hx with hx | hx | hx | hx
    · simp [hk.1] at hx
    · exact at_false1 hx
    · exact at_false2 hx
    · simp [hk.2] at hx
  · rw [ofF_take_no h hk]
theorem ofF_yes {l : List Fc} {kk : Ky} {t known : Int} {k : Nat} {x : Fc} (h : l[k]? = some x) (h0 : decide (x.key = kk) = true) (h3 : decide (x.known ≤ known) = true) : bestF (ofF (l.take (k + 1)) kk known) t = better t (bestF (ofF (l.take k) kk known) t) x := by
  rw [ofF_take_yes h (by simpa using h0) (by simpa using h3), bestF_snoc]
theorem RBest.no {l : List Fc} {kk : Ky} {t known : Int} {k : Nat} {bi : Int} {x : Fc} (h : RBest l kk t known k bi) (hl : l[k]? = some x) (hx : decide (x.key = kk) = false ∨ decide (x.fr ≤ t) = false ∨ decide (t < x.to) = false ∨ decide (x.known ≤ known) = false) : RBest l kk t known (k + 1) bi := by
  rcases h with ⟨h1, h2⟩ | ⟨j, f, h1, h2, h3, h4⟩
  · exact .inl ⟨h1, by rw [ofF_no hl hx, h2]⟩
  · exact .inr ⟨j, f, h1, by omega, h3, by rw [ofF_no hl hx, h4]⟩
theorem RBest.new {l : List Fc} {kk : Ky} {t known : Int} {k : Nat} {x : Fc} (h : bestF (ofF (l.take k) kk known) t = none) (hl : l[k]? = some x) (h0 : decide (x.key = kk) = true) (h1 : decide (x.fr ≤ t) = true) (h2 : decide (t < x.to) = true) (h3 : decide (x.known ≤ known) = true) : RBest l kk t known (k + 1) k :=
  .inr ⟨k, x, rfl, by omega, hl, by rw [ofF_yes hl h0 h3, h, better_new (at_true h1 h2)]⟩
theorem RBest.up {l : List Fc} {kk : Ky} {t known : Int} {k : Nat} {x f : Fc} (h : bestF (ofF (l.take k) kk known) t = some f) (hb : x.bef f = false) (hl : l[k]? = some x) (h0 : decide (x.key = kk) = true) (h1 : decide (x.fr ≤ t) = true) (h2 : decide (t < x.to) = true) (h3 : decide (x.known ≤ known) = true) : RBest l kk t known (k + 1) k :=
  .inr ⟨k, x, rfl, by omega, hl, by rw [ofF_yes hl h0 h3, h, better_up (at_true h1 h2) hb]⟩
theorem RBest.old {l : List Fc} {kk : Ky} {t known : Int} {k j : Nat} {x f : Fc} (h : bestF (ofF (l.take k) kk known) t = some f) (hj : j < k) (hf : l[j]? = some f) (hb : x.bef f = true) (hl : l[k]? = some x) (h0 : decide (x.key = kk) = true) (h1 : decide (x.fr ≤ t) = true) (h2 : decide (t < x.to) = true) (h3 : decide (x.known ≤ known) = true) : RBest l kk t known (k + 1) j :=
  .inr ⟨j, f, rfl, by omega, hf, by rw [ofF_yes hl h0 h3, h, better_old (at_true h1 h2) hb]⟩

end Go.Proofs.Ytologegkbcedhaa

/- facts.Points walked, and the reference's. -/
namespace Go.Proofs.Ytologegkbcedhaa
open Go.RowKit Go.Shelf

theorem atF_nonneg {l : List Fc} {k : Ky} {t known v : Int} (h : atF l k t known = some v) : 0 ≤ v := by
  unfold atF at h
  split at h
  · cases h
  · split at h
    · cases h
    · injection h with h; omega
theorem valF_yes {l : List Fc} {k : Ky} {t known : Int} (h : 0 ≤ valF l k t known) : atF l k t known = some (valF l k t known) := by
  unfold valF at *
  cases h' : atF l k t known with
  | none => rw [h'] at h; simp at h
  | some v => rfl
theorem valF_no {l : List Fc} {k : Ky} {t known : Int} (h : valF l k t known < 0) : atF l k t known = none := by
  cases h' : atF l k t known with
  | none => rfl
  | some v =>
    have := atF_nonneg h'
    unfold valF at h
    rw [h'] at h
    simp at h
    omega
theorem pointsTo_start (l : List Fc) (k : Ky) (a b known : Int) (h : b ≤ a) : pointsTo l k a b known = [] := by
  unfold pointsTo
  rw [show (b - a).toNat = 0 by omega]; rfl
/-- The point of a term, if there is a value. -/
def ptAt (l : List Fc) (k : Ky) (t known : Int) : List (Int × Int) := match atF l k t known with | some v => [(t, v)] | none => []
theorem pointsTo_eq (l : List Fc) (k : Ky) (a b known : Int) : pointsTo l k a b known = (List.range (b - a).toNat).flatMap fun (n : Nat) => ptAt l k (a + n) known := rfl
theorem ptAt_len (l : List Fc) (k : Ky) (t known : Int) : (ptAt l k t known).length ≤ 1 := by
  unfold ptAt; split <;> simp
theorem ptAt_no {l : List Fc} {k : Ky} {t known : Int} (h : atF l k t known = none) : ptAt l k t known = [] := by unfold ptAt; rw [h]
theorem ptAt_yes {l : List Fc} {k : Ky} {t known v : Int} (h : atF l k t known = some v) : ptAt l k t known = [(t, v)] := by unfold ptAt; rw [h]
theorem pointsTo_step (l : List Fc) (k : Ky) (a z known : Int) (h : a ≤ z) : pointsTo l k a (z + 1) known = pointsTo l k a z known ++ ptAt l k z known := by
  rw [pointsTo_eq, pointsTo_eq, show (z + 1 - a).toNat = (z - a).toNat + 1 by omega, List.range_succ, List.flatMap_append, List.flatMap_cons, List.flatMap_nil, List.append_nil, show a + ((z - a).toNat : Int) = z by omega]
theorem pointsTo_len (l : List Fc) (k : Ky) (a z known : Int) : (pointsTo l k a z known).length ≤ (z - a).toNat := by
  rw [pointsTo_eq]
  generalize (z - a).toNat = m
  induction m with
  | zero => simp
  | succ m ih =>
    rw [List.range_succ, List.flatMap_append, List.length_append, List.flatMap_cons, List.flatMap_nil, List.append_nil]
    have := ptAt_len l k (a + m) known
    omega
theorem pointsTo_end {l : List Fc} {k : Ky} {a b z known : Int} (h : ¬ z < b) (hz : z ≤ b ∨ z = a) : pointsTo l k a b known = pointsTo l k a z known := by
  rcases hz with hz | hz
  · have : z = b := by omega
    rw [this]
  · subst hz
    rw [pointsTo_start _ _ _ _ _ (by omega), pointsTo_start _ _ _ _ _ (by omega)]
theorem putAt_all {cs : Array Value} {vs : List Value} (h : cs.size = vs.length) : putAt cs 0 vs = vs.toArray := by
  have h' : List.drop vs.length cs.toList = [] := List.drop_of_length_le (by simp [h])
  simp [putAt, h']
theorem rowV_size (l : List Fc) (k : Ky) (known : Int) : (rowV l k known).size = 1024 := by simp [rowV, rowF_len]
theorem rowV_at (l : List Fc) (k : Ky) (known : Int) {j : Nat} (hj : j < 1024) : (rowV l k known)[j]? = some (.int .i64 (valF l k j known)) := by
  simp [rowV, List.getElem?_map, rowF_at l k known hj]
theorem rowV_one (l : List Fc) (k : Ky) (known : Int) : ∀ v ∈ (rowV l k known).toList, v.oneCell' = true := by
  intro v hv
  simp [rowV] at hv
  obtain ⟨z, _, rfl⟩ := hv
  rfl
/-- What Points hands back. -/
def PointsPost (l : List Fc) (k : Ky) (a b known : Int) (w : World) (e : Ending) (w' : World) : Prop := ∃ A n c, e = .returned (.slice A n c) ∧ pSl w' w'.heap.size A n c (pointsF l k a b known) ∧ Below w.heap.size w w'

set_option maxRecDepth 100000 in
set_option maxHeartbeats 2000000 in
theorem fPoints_any (A : Option Addr) (n c : Nat) (l : List Fc) (kk : Ky) (fr to known : Int) (w : World) (hl : fSl w w.heap.size A n c l) :
    Calls Try.prog 47 #[.slice A n c, .agg #[.int .i64 kk.kind, .int .i64 kk.subj, .int .i64 kk.obj], .int .i64 fr, .int .i64 to, .int .i64 known] w (PointsPost l kk fr to known w) := by
  obtain ⟨i0, hi, hz, hs, hbb⟩ := info_parts pInfo
  go_enter Try.func47, Try.ntmps47
  go_wp2_with fail
  refine (fvalues_any A n c l kk known _ (hl.keep fStable (by simp) (fun b hb => Below.heap_alloc _ _ _ hb))).mono ?_
  rintro e w1 ⟨rfl, hb1⟩
  have hB1 : Below w.heap.size w w1 := ((Below.refl _ w).alloc (Nat.le_refl _) _).trans (hb1.mono (by simp))
  have hsw := hB1.size
  have hnew := World.alloc_heap_new w1 (.cells Try.zeroCells94 94)
  have hB2 : Below w.heap.size w (w1.alloc (.cells Try.zeroCells94 94)) := hB1.alloc hB1.size _
  have hrow : ((w1.alloc (.cells Try.zeroCells94 94)).setRow w1.heap.size (putAt Try.zeroCells94 0 (rowV l kk known).toList)).heap[w1.heap.size]? = some (.cells (rowV l kk known) 94 (0, 0)) := by
    rw [show rowV l kk known = putAt Try.zeroCells94 0 (rowV l kk known).toList from by rw [putAt_all (by rw [zeros_row.1, Array.length_toList, rowV_size])]]
    rw [← show rowV l kk known = putAt Try.zeroCells94 0 (rowV l kk known).toList from by rw [putAt_all (by rw [zeros_row.1, Array.length_toList, rowV_size])]]
    exact setRow_heap _ _ _ _ _ _ hnew
  have hB3 : Below w.heap.size w ((w1.alloc (.cells Try.zeroCells94 94)).setRow w1.heap.size (putAt Try.zeroCells94 0 (rowV l kk known).toList)) := below_setRow hB2 hB1.size _
  have hsz3 : w1.heap.size + 1 = ((w1.alloc (.cells Try.zeroCells94 94)).setRow w1.heap.size (putAt Try.zeroCells94 0 (rowV l kk known).toList)).heap.size := by simp [World.setRow]
  obtain ⟨R, hR⟩ : ∃ R, rowV l kk known = R := ⟨_, rfl⟩
  have hRz := rowV_size l kk known
  have hRo := rowV_one l kk known
  have hRa := fun j hj => rowV_at l kk known (j := j) hj
  rw [hR] at hRz hRo hRa hrow hB3 hsz3
  have HR := hidp hR
  have HRz := hidp hRz
  have HRa := hidp hRa
  have HRow := hidp hrow
  have HB3 := hidp hB3
  have Hsz3 := hidp hsz3
  rw [hR]
  clear hR hRz hRa hrow hB3 hsz3 hb1 hB1 hB2
  rcases Int.lt_or_le 0 fr with hf | hf <;> rcases Int.lt_or_le 1024 to with ho | ho
  all_goals
    have hnew' := hnew
    go_wp2_with (first | (refine wpList_store_at (vs := R.toList) 94 (.tmp 11) (.tmp 16) rfl rfl rfl rfl hnew (by rw [Array.length_toList, HRz.out]; exact rowInfo) (by rw [Array.length_toList, HRz.out, zeros_row.1]; omega) hRo ?_))
    generalize hw3 : (w1.alloc (.cells Try.zeroCells94 94)).setRow w1.heap.size (putAt Try.zeroCells94 0 R.toList) = W3 at HRow HB3 Hsz3 ⊢
    have l3 := lt_of_heap HRow.out
    have hB3 := HB3.out
    have hrow := HRow.out
    clear hw3 hnew hnew' HRow HB3
    go_loopw [10, 12] (fun p t wr => ∃ (z : Int) (m : Nat), t = .int .i64 z ∧ max 0 fr ≤ z ∧ (z ≤ 1024 ∨ z = max 0 fr) ∧ (z ≤ min to 1024 ∨ z = max 0 fr) ∧ m = (pointsTo l kk (max 0 fr) z known).length ∧ wr.ownsRow (w1.heap.size + 1) 99 2 p m ((pointsTo l kk (max 0 fr) z known).flatMap pEnc) ∧ Below w.heap.size w wr ∧ wr.heap[w1.heap.size]? = some (.cells R 94 (0, 0))) (fun _ t _ => (1024 - intOf t).toNat)
    case atStart => exact ⟨_, 0, rfl, by omega, .inr (by omega), .inr (by omega), by rw [pointsTo_start _ _ _ _ _ (by omega)]; rfl, by rw [pointsTo_start _ _ _ _ _ (by omega)]; exact World.ownsRow_nil _ _ _ _, hB3, hrow⟩
    case round =>
      obtain ⟨z, m, rfl, hz1, hz2, hz3, hm, hown, hbe, hrk⟩ := hrel
      have HM := hidp hm
      have HO := hidp hown
      have HK := hidp hrk
      have lr := lt_of_heap hrk
      have hml : m ≤ (z - max 0 fr).toNat := by rw [hm]; exact pointsTo_len _ _ _ _ _
      clear hm hown hrow hB3
      by_cases hlt : z < min to 1024
      · obtain ⟨k, rfl⟩ : ∃ k : Nat, z = k := ⟨z.toNat, by omega⟩
        have hk3 : (k : Int) < 1024 := by omega
        have hk5 : (k : Int) < to := by omega
        have hk4 : k < 1024 := by omega
        have hm4 : m ≤ 1024 := by omega
        have ck := (cell_of_heap (o := k) hrk).trans (HRa.out k hk4)
        have HLt := hidp hlt
        have HZ1 := hidp hz1
        have HML := hidp hml
        clear hlt hrk hz1 hz2 hz3 hml
        by_cases hv : 0 ≤ valF l kk k known
        · have HV := hidp (valF_yes hv)
          obtain ⟨v', w5, hrun, hown', hg, hat⟩ := run_append_one (P := Try.prog) (ty := 97) (l := pointsTo l kk (max 0 fr) k known) (enc := pEnc) (w := wr) (base := w1.heap.size + 1) Try.underlying97 hi hz hs hbb rfl pEnc_len (by decide) pEnc_one HO.out ((k : Int), valF l kk k known) (by omega) (by omega) lr
          have HO' := hidp hown'
          have HG := hidp hg
          have HR0 := hidp hrun
          have hown := fun g e => HO.out.lt g e
          have hw5k : w5.heap[w1.heap.size]? = some (.cells R 94 (0, 0)) := by
            rw [HG.out.block _ (by simp; omega) (fun e => by have := (hown _ e.symm).1; omega), Below.heap_alloc _ _ _ lr]
            exact HK.out
          have hb5 : Below w.heap.size w w5 := (hbe.alloc hbe.size _).grown HG.out (by have := hbe.size; simp; omega) (fun g e => by have := (hown _ e).1; omega)
          have HW5 := hidp hw5k
          clear hown' hg hat hrun hown hw5k
          go_wp2_with (at_builtin; refine wpList_append_known rfl (.tmp 29) (.tmp 35) 97 rfl rfl rfl HR0.out ?_)
          go_roundw
          case rel =>
            refine ⟨(k : Int) + 1, m + 1, rfl, by have := HZ1.out; omega, .inl (by omega), .inl (by have := HLt.out; omega), ?_, ?_, hb5, HW5.out⟩
            · rw [pointsTo_step _ _ _ _ _ HZ1.out, ptAt_yes HV.out, HM.out]; simp
            · rw [pointsTo_step _ _ _ _ _ HZ1.out, ptAt_yes HV.out]; exact HO'.out
          case measure => simp [intOf]; omega
        · have HV := hidp (valF_no (by omega : valF l kk k known < 0))
          go_wp2_with fail
          go_roundw
          case rel =>
            refine ⟨(k : Int) + 1, m, rfl, by have := HZ1.out; omega, .inl (by omega), .inl (by have := HLt.out; omega), ?_, ?_, hbe, HK.out⟩
            · rw [pointsTo_step _ _ _ _ _ HZ1.out, ptAt_no HV.out, HM.out]; simp
            · rw [pointsTo_step _ _ _ _ _ HZ1.out, ptAt_no HV.out, List.append_nil]; exact HO.out
          case measure => simp [intOf]; omega
      · have HE : Hid (pointsF l kk fr to known = pointsTo l kk (max 0 fr) z known) := pointsTo_end hlt hz3
        try have hge1 : 1024 ≤ z := by omega
        try have hge2 : to ≤ z := by omega
        clear hlt hz1 hz2 hz3
        obtain ⟨A5, c5, rfl, r5⟩ := own_rows pEnc_len (by decide) HO.out
        go_wp2_with fail
        go_ret
        exact ⟨A5, m, c5, rfl, by rw [HE.out]; exact r5, hbe⟩
end Go.Proofs.Ytologegkbcedhaa

/- The reference's Points and differs walked. -/
namespace Go.Proofs.Ytologegkbcedhaa
open Go.RowKit Go.Shelf

theorem diff_parts (a b : Option Int) : decide (a ≠ b) = (a.isSome != b.isSome || a.getD 0 != b.getD 0) := by
  cases a with
  | none => cases b <;> simp
  | some x =>
    cases b with
    | none => simp
    | some y => by_cases h : x = y <;> simp [h]
end Go.Proofs.Ytologegkbcedhaa

/- slices.DeleteFunc at facts (printed by wip/tools/genslices.py). -/
namespace Go.Proofs.Ytologegkbcedhaa
open Go.RowKit Go.Shelf

end Go.Proofs.Ytologegkbcedhaa

/- facts.Add walked, and the reference's. -/
namespace Go.Proofs.Ytologegkbcedhaa
open Go.RowKit Go.Shelf

theorem checkF_cases (l : List Fc) : checkF l = 70 ∨ checkF l = 71 ∨ (checkF l = 0 ∧ l.all Fc.ok = true ∧ sortedB l = true) := by
  unfold checkF
  cases h1 : l.all Fc.ok <;> cases h2 : sortedB l <;> simp

/-- The last part of Add: 'append(slices.Clip(l), f)'. -/
theorem addE_ok {l : List Fc} {f : Fc} (h1 : checkF l = 0) (h2 : f.ok = true) (h3 : ∀ x, l.getLast? = some x → x.bef f = true) : addE l f = 0 := by
  rw [addE, h1, h2]
  cases h : l.getLast? with
  | none => rfl
  | some x => simp [h3 x h]
theorem addE_order {l : List Fc} {f x : Fc} (h1 : checkF l = 0) (h2 : f.ok = true) (h3 : l.getLast? = some x) (h4 : x.bef f = false) : addE l f = 71 := by
  rw [addE, h1, h2, h3]
  simp [h4]

/-- What Add hands back. -/
def AddPost (l : List Fc) (f : Fc) (w : World) (e : Ending) (w' : World) : Prop := ∃ A n c, e = .returned (.tuple #[.slice A n c, .int .i64 (addE l f)]) ∧ fSl w' w'.heap.size A n c (addL l f) ∧ Below w.heap.size w w'
theorem addPost_no {l : List Fc} {f : Fc} {w w' : World} {r : Int} (h : addE l f = r) (hr : r ≠ 0) (hb : Below w.heap.size w w') : AddPost l f w (.returned (.tuple #[.slice none 0 0, .int .i64 r])) w' :=
  ⟨none, 0, 0, by rw [h], by rw [addL, h, if_neg hr]; exact Rows.nil (by decide), hb⟩

end Go.Proofs.Ytologegkbcedhaa

/- facts.Alike and facts.Upto walked, and the reference's. -/
namespace Go.Proofs.Ytologegkbcedhaa
open Go.RowKit Go.Shelf

/-- What Upto hands back. -/
def UptoPost (l : List Fc) (known : Int) (w : World) (e : Ending) (w' : World) : Prop := ∃ A n c, e = .returned (.slice A n c) ∧ fSl w' w'.heap.size A n c (uptoF l known) ∧ Below w.heap.size w w'
theorem uptoF_eq (l : List Fc) (known : Int) : (l.filter fun f => !decide (known < f.known)) = uptoF l known := by
  unfold uptoF
  congr 1
  funext f
  by_cases h : f.known ≤ known
  · have : ¬ known < f.known := by omega
    simp [h, this]
  · have : known < f.known := by omega
    simp [h, this]
end Go.Proofs.Ytologegkbcedhaa

