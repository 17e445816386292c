/- The reference's with walked. Regions printed by tools/gen50.py. -/
import Derived.Test.YtologegkbcedhaaH1
import Derived.Test.YtologegkbcedhaaClipR
import Derived.Test.YtologegkbcedhaaRelT
namespace Go.Proofs.Ytologegkbcedhaa
open Go.RowKit Go.Shelf

/-- A readable list of links. -/
def LT (l : List Lk) : VT := fun v w => ∃ A n c, v = .slice A n c ∧ lSl w w.heap.size A n c l
theorem LT_stable (l : List Lk) : (LT l).Stable := by
  rintro v w w' hb ⟨A, n, c, rfl, h⟩
  exact ⟨A, n, c, rfl, h.keep lStable hb.size hb.block⟩
def LTn (n : Nat) (l : List Lk) : VT := fun v w => ∃ A c, v = .slice A n c ∧ lSl w w.heap.size A n c l
theorem LTn_stable (n : Nat) (l : List Lk) : (LTn n l).Stable := by
  rintro v w w' hb ⟨A, c, rfl, h⟩
  exact ⟨A, c, rfl, h.keep lStable hb.size hb.block⟩
def LT1 (x : Lk) : VT := fun v w => ∃ A, v = .slice A 1 1 ∧ lSl w w.heap.size A 1 1 [x]
theorem LT1_stable (x : Lk) : (LT1 x).Stable := by
  rintro v w w' hb ⟨A, rfl, h⟩
  exact ⟨A, rfl, h.keep lStable hb.size hb.block⟩
def LPost (l : List Lk) (w : World) (e : Ending) (w' : World) : Prop := ∃ A n c, e = .returned (.slice A n c) ∧ lSl w' w'.heap.size A n c l ∧ Below w.heap.size w w'
def LtUpL (l : List Lk) (k : Lk) (q : Nat) : Prop := ∀ (i : Nat) (x : Lk), i < q → l[i]? = some x → ltL x k = true
theorem LtUpL.step {l : List Lk} {k x : Lk} {q : Nat} (h : LtUpL l k q) (hx : l[q]? = some x) (hl : ltL x k = true) : LtUpL l k (q + 1) := by
  intro i y hi hy
  rcases Nat.lt_or_ge i q with h1 | h1
  · exact h i y h1 hy
  · obtain rfl : i = q := by omega
    rw [hx] at hy; cases hy; exact hl
theorem insL_found {x : Lk} {l : List Lk} {q : Nat} (hu : LtUpL l x q) (hx : l[q]? = some x) (hq : q ≤ l.length) : insL x l = l := by
  rw [insL, ins_at x l q (fun j y hj hy => hu j y hj hy) (fun y hy => by rw [hx] at hy; cases hy; exact linL.irr x) hq, if_pos hx]
theorem insL_new {x : Lk} {l : List Lk} {q : Nat} (hu : LtUpL l x q) (hy : ∀ y, l[q]? = some y → ltL y x = false) (hx : l[q]? ≠ some x) (hq : q ≤ l.length) : insL x l = l.take q ++ ([x] ++ l.drop q) := by
  rw [insL, ins_at x l q (fun j y hj hy => hu j y hj hy) hy hq, if_neg hx]
  rfl

set_option maxRecDepth 100000 in
set_option maxHeartbeats 4000000 in
theorem qwith_any (A : Option Addr) (m c : Nat) (l : List Lk) (x : Lk) (w : World) (hl : lSl w w.heap.size A m c l) (hm : m ≤ 1000000) :
    Calls Try.prog 31 #[.slice A m c, .agg #[.int .i64 x.1.1.kind, .int .i64 x.1.1.subj, .int .i64 x.1.1.obj, .int .i64 x.1.2.1, .int .i64 x.1.2.2, .int .i64 x.2]] w (LPost (insL x l) w) := by
  obtain ⟨i0, hi, hz, hs, hbb⟩ := info_parts lInfo
  have HN := hidp hl.1
  have hcap := hl.2.2.1
  have hlen := hl.2.1
  obtain ⟨W0, hW0⟩ : ∃ W0, w.alloc (.cells #[.int .i64 x.1.1.kind, .int .i64 x.1.1.subj, .int .i64 x.1.1.obj, .int .i64 x.1.2.1, .int .i64 x.1.2.2, .int .i64 x.2] 49) = W0 := ⟨_, rfl⟩
  have hBW : Below w.heap.size w W0 := by rw [← hW0]; exact (Below.refl _ w).alloc (Nat.le_refl _) _
  have g1 : W0.heap[w.heap.size]? = some (.cells #[.int .i64 x.1.1.kind, .int .i64 x.1.1.subj, .int .i64 x.1.1.obj, .int .i64 x.1.2.1, .int .i64 x.1.2.2, .int .i64 x.2] 49 (0, 0)) := by rw [← hW0]; exact World.alloc_heap_new _ _
  have hz0 : w.heap.size + 1 = W0.heap.size := by rw [← hW0]; simp
  have hXc : ∀ W, Below W0.heap.size W0 W → W.cell? ⟨w.heap.size, 0, none⟩ = some (.int .i64 x.1.1.kind) ∧ W.cell? ⟨w.heap.size, 1, none⟩ = some (.int .i64 x.1.1.subj) ∧ W.cell? ⟨w.heap.size, 2, none⟩ = some (.int .i64 x.1.1.obj) ∧ W.cell? ⟨w.heap.size, 3, none⟩ = some (.int .i64 x.1.2.1) ∧ W.cell? ⟨w.heap.size, 4, none⟩ = some (.int .i64 x.1.2.2) ∧ W.cell? ⟨w.heap.size, 5, none⟩ = some (.int .i64 x.2) ∧ w.heap.size < W.heap.size := fun W hW => by
    have h := (hW.block _ (by omega)).trans g1
    exact ⟨cell_of_heap h, cell_of_heap h, cell_of_heap h, cell_of_heap h, cell_of_heap h, cell_of_heap h, lt_of_heap h⟩
  have HW0 := hidp hW0
  have HXC := hidp hXc
  have HBW := hidp hBW
  have hl0 := hl.keep lStable hBW.size hBW.block
  clear hW0 g1 hBW hXc hl
  go_enter Try.func31, Try.ntmps31
  go_wp2_with fail
  rw [HW0.out]
  go_wp2_with fail
  go_loopw [5] (fun j wr => ∃ q : Nat, q ≤ m ∧ j = .int .i64 q ∧ LtUpL l x q ∧ Below W0.heap.size W0 wr) (fun j _ => m - (intOf j).toNat)
  case atStart => exact ⟨0, by omega, rfl, fun i y h => by omega, Below.refl _ _⟩
  case round =>
    obtain ⟨q, hq, rfl, hup, hbe⟩ := hrel
    have HU := hidp hup
    have hr := hl0.below lStable hbe
    clear hup
    by_cases hqm : q < m
    · obtain ⟨b, off, y, rfl, hb, hzy, c0, c1, c2, c3, c4, c5⟩ := lSl.get hr hqm
      have HY := hidp hzy
      have hl2 := lt_of_cell c0
      obtain ⟨x0, x1, x2, x3, x4, x5, hl3⟩ := HXC.out _ hbe
      have hqm' : (q : Int) < m := by omega
      have hqd : decide (q < m) = true := by simpa using hqm
      obtain ⟨z, hz0'⟩ : ∃ z, ltL y x = z := ⟨_, rfl⟩
      have HZ := hidp hz0'
      clear hzy hz0' hr
      go_wp2_with fail
      refine wp_region_below wr.heap.size (by kernel_rfl) (by kernel_rfl) ?_
      repeat
        first
        | go_big_quiet_skip
        | (refine q_step (by rfl) ?_
           apply Exists.intro
           refine ⟨fun w9 h9 => ?_, ?_⟩
           · have hc9 := (bcell h9).1
             go_simp
             first | done | rfl | exact calls_below h9 (Nat.le_refl _) (qBefore_any y x w9)
           go_simp)
      refine wpQuiet_nil ?_
      intro w9 hb9
      have hb3 := hbe.trans (hb9.mono hbe.size)
      clear c0 c1 c2 c3 c4 c5 x0 x1 x2 x3 x4 x5 hl2 hl3 hb9 hbe
      rw [HZ.out]
      cases z
      · have hr3 := hl0.below lStable hb3
        obtain ⟨ze, hze⟩ : ∃ z, decide (y = x) = z := ⟨_, rfl⟩
        have HE := hidp hze
        have hqe := fun W => l_eql y x W
        rw [hze] at hqe
        obtain ⟨b2, off2, y2, he2, _, hzy2, c0, c1, c2, c3, c4, c5⟩ := lSl.get hr3 hqm
        simp only [Option.some.injEq, Addr.mk.injEq, and_true] at he2
        obtain ⟨rfl, rfl⟩ := he2
        have hyy : y2 = y := by have := HY.out; rw [hzy2] at this; exact Option.some.inj this
        rw [hyy] at c0 c1 c2 c3 c4 c5
        obtain ⟨x0, x1, x2, x3, x4, x5, hl3⟩ := HXC.out _ hb3
        have hl2 := lt_of_cell c0
        clear hze hzy2 hyy hr3
        go_wp2_with fail
        refine wp_region_below w9.heap.size (by kernel_rfl) (by kernel_rfl) ?_
        repeat
          first
          | go_big_quiet_skip
          | (refine q_step (by rfl) ?_
             apply Exists.intro
             refine ⟨fun w8 h8 => ?_, ?_⟩
             · have hc8 := (bcell h8).1
               go_simp
               first | done | rfl
             go_simp)
        refine wpQuiet_nil ?_
        intro wt hbt
        have hbW := hb3.trans (hbt.mono hb3.size)
        clear c0 c1 c2 c3 c4 c5 x0 x1 x2 x3 x4 x5 hl2 hl3 hb3 hbt hqe hqm' hqd
        cases ze
        · have HNe : Hid (insL x l = l.take q ++ ([x] ++ l.drop q)) := insL_new HU.out (fun y' hy' => by rw [HY.out] at hy'; cases hy'; exact HZ.out) (by rw [HY.out]; intro h; have := HE.out; rw [Option.some.inj h] at this; simp at this) (by rw [← HN.out]; exact hq)
          have hlW := hl0.keep lStable hbW.size hbW.block
          have hcut := fun W => run_cut_low (P := Try.prog) W Try.underlying26 hi (some (⟨b, off, none⟩ : Addr)) m c q .i64 (q : Int) rfl hq
          rw [hs] at hcut
          have hqc : q ≤ c := by omega
          have hrc := hlW.cut (m := q) hq
          have hrt := hlW.take (m := q) hq
          generalize cutA (some (⟨b, off, none⟩ : Addr)) c q 6 = A2 at hcut hrc
          have HRC := hidp hrc
          have HRT := hidp hrt
          have HBWt : Hid (Below W0.heap.size W0 wt) := hbW
          clear hrc hrt hlW hbW
          go_wp2_with fail
          refine wp_region_S wt.heap.size 7 (fun _ => false) (Nat.le_refl _) (by kernel_rfl) (by kernel_rfl) (by kernel_rfl) ?_
          dsimp only [List.take, List.drop]
          apply relS_det (mask := []) (x := .agg #[.int .i64 x.1.1.kind, .int .i64 x.1.1.subj, .int .i64 x.1.1.obj, .int .i64 x.1.2.1, .int .i64 x.1.2.2, .int .i64 x.2])
          · rfl
          · kernel_rfl
          · kernel_rfl
          · dsimp only [oblS]
            rintro w9 h9
            obtain ⟨x0, x1, x2, x3, x4, x5, hl3⟩ := HXC.out _ (HBWt.out.trans (h9.mono HBWt.out.size))
            go_simp
            exact ⟨Below.refl _ _, rfl⟩
          dsimp only [List.nil_append, List.cons_append]
          apply relS_any (mask := [true]) (T := LT1 x) (hT := LT1_stable _)
          · rfl
          · kernel_rfl
          · kernel_rfl
          · dsimp only [oblS]
            rintro w9 h9 T' hT'
            go_simp
            exact ⟨(Below.refl _ w9).alloc (Nat.le_refl _) _, hT' _ _ ⟨_, rfl, rows_of_heap (l := [x]) lEnc_len (World.alloc_heap_new w9 _) (Nat.le_refl _) (by decide) rfl⟩⟩
          dsimp only [List.nil_append, List.cons_append]
          apply relS_det (mask := [false, false])
          · rfl
          · kernel_rfl
          · kernel_rfl
          · dsimp only [oblS]
            rintro w9 h9
            go_simp
            exact ⟨Below.refl _ _, rfl⟩
          dsimp only [List.nil_append, List.cons_append]
          apply relS_det (mask := [false, false, false])
          · rfl
          · kernel_rfl
          · kernel_rfl
          · dsimp only [oblS]
            rintro w9 h9
            go_simp
            exact ⟨Below.refl _ _, rfl⟩
          dsimp only [List.nil_append, List.cons_append]
          apply relS_det (mask := [false, false, true, true]) (x := .slice A2 (m - q) (c - q))
          · rfl
          · kernel_rfl
          · kernel_rfl
          · dsimp only [oblS]
            rintro w9 h9
            go_simp
            exact ⟨Below.refl _ _, rfl⟩
          dsimp only [List.nil_append, List.cons_append]
          apply relS_any (mask := [false, true, false, false, true]) (T := LT ([x] ++ l.drop q)) (hT := LT_stable _)
          · rfl
          · kernel_rfl
          · kernel_rfl
          · dsimp only [oblS]
            intro v35
            rintro w9 ⟨h9, t35⟩ T' hT'
            obtain ⟨A5, rfl, r5⟩ := t35
            obtain ⟨A6, c6, w', hrun, r6, hb6⟩ := run_append_clipR (P := Try.prog) (ty := 26) Try.underlying26 hi hz hs hbb rfl lEnc_len (by decide) lEnc_one r5 (Nat.le_refl _) (HRC.out.keep lStable h9.size h9.block) (by omega) (by omega)
            exact relUpon_append (.tmp 35) (.tmp 38) 26 rfl rfl rfl hrun hb6 (hT' _ _ ⟨A6, _, c6, rfl, r6⟩)
          dsimp only [List.nil_append, List.cons_append]
          apply relS_any (mask := [false, false, false, false, false, true]) (T := LT ([x] ++ l.drop q)) (hT := LT_stable _)
          · rfl
          · kernel_rfl
          · kernel_rfl
          · dsimp only [oblS]
            intro v39
            rintro w9 ⟨h9, t39⟩ T' hT'
            obtain ⟨A5, n5, c5, rfl, r5⟩ := t39
            go_simp
            exact ⟨Below.refl _ _, hT' _ _ ⟨A5, n5, c5, rfl, r5⟩⟩
          dsimp only [List.nil_append, List.cons_append]
          refine relS_end (by rfl) ?_
          dsimp only [finS]
          -- rintro v35 v39 v6 w8 ⟨⟨⟨hb, t35⟩, t39⟩, t6⟩
          rintro v35 v39 v6 w4 ⟨⟨⟨hb4, -⟩, -⟩, A4, n4, c4, rfl, r4⟩
          go_frame
          have hn4 : n4 ≤ 1000001 := by have h1 := r4.1; have h2 := HN.out; simp at h1; omega
          obtain ⟨A8, c8, w8, hrun8, r8, hb8⟩ := run_append_clipR (P := Try.prog) (ty := 26) Try.underlying26 hi hz hs hbb rfl lEnc_len (by decide) lEnc_one (HRT.out.keep lStable hb4.size hb4.block) (Nat.le_refl _) r4 (by omega) (by omega)
          have HR8 := hidp hrun8
          have HO8 := hidp r8
          have hb48 := HBWt.out.trans ((hb4.mono HBWt.out.size).trans (hb8.mono (Nat.le_trans HBWt.out.size hb4.size)))
          have hcl4 := r4.2.2.1
          have hcn4 := r4.2.1
          clear hrun8 r8 r4
          go_wp2_with (at_builtin; refine wpList_append_known rfl (.tmp 43) (.tmp 44) 26 rfl rfl rfl HR8.out ?_)
          go_ret
          exact ⟨A8, _, c8, rfl, by rw [HNe.out]; exact HO8.out, HBW.out.trans (hb48.mono HBW.out.size)⟩
        · have HF : Hid (insL x l = l) := insL_found HU.out (by rw [HY.out]; have := HE.out; simp at this; rw [this]) (by rw [← HN.out]; exact hq)
          have hlW := hl0.keep lStable hbW.size hbW.block
          go_wp2_with fail
          go_ret
          exact ⟨_, m, c, rfl, by rw [HF.out]; exact hlW, HBW.out.trans (hbW.mono HBW.out.size)⟩
      · go_wp2_with fail
        go_roundw
        case rel => exact ⟨q + 1, by omega, by go_num, HU.out.step HY.out HZ.out, hb3⟩
        case measure => simp [intOf]; omega
    · obtain rfl : q = m := by omega
      have hkl : l.length = q := HN.out.symm
      have HNe : Hid (insL x l = l.take q ++ ([x] ++ l.drop q)) := insL_new HU.out (fun y hy => by rw [List.getElem?_eq_none (by omega)] at hy; cases hy) (by rw [List.getElem?_eq_none (by omega)]; intro h; cases h) (by omega)
      clear hkl hr
      go_wp2_with fail
      go_quiet (fail)
      have hbA := below_drewN hbe nq
      generalize wr.drewN nq = wA at hbA ⊢
      go_wp2_with fail
      go_quiet (fail)
      have hbW := below_drewN hbA nq
      generalize wA.drewN nq = WW at hbW ⊢
      have hlW := hl0.keep lStable hbW.size hbW.block
      clear hbA hbe
      have hcut := fun W => run_cut_low (P := Try.prog) W Try.underlying26 hi (A) q c q .i64 (q : Int) rfl hq
      rw [hs] at hcut
      have hqc : q ≤ c := by omega
      have hrc := hlW.cut (m := q) hq
      have hrt := hlW.take (m := q) hq
      generalize cutA (A) c q 6 = A2 at hcut hrc
      have HRC := hidp hrc
      have HRT := hidp hrt
      have HBWt : Hid (Below W0.heap.size W0 WW) := hbW
      clear hrc hrt hlW hbW
      go_wp2_with fail
      refine wp_region_S WW.heap.size 7 (fun _ => false) (Nat.le_refl _) (by kernel_rfl) (by kernel_rfl) (by kernel_rfl) ?_
      dsimp only [List.take, List.drop]
      apply relS_det (mask := []) (x := .agg #[.int .i64 x.1.1.kind, .int .i64 x.1.1.subj, .int .i64 x.1.1.obj, .int .i64 x.1.2.1, .int .i64 x.1.2.2, .int .i64 x.2])
      · rfl
      · kernel_rfl
      · kernel_rfl
      · dsimp only [oblS]
        rintro w9 h9
        obtain ⟨x0, x1, x2, x3, x4, x5, hl3⟩ := HXC.out _ (HBWt.out.trans (h9.mono HBWt.out.size))
        go_simp
        exact ⟨Below.refl _ _, rfl⟩
      dsimp only [List.nil_append, List.cons_append]
      apply relS_any (mask := [true]) (T := LT1 x) (hT := LT1_stable _)
      · rfl
      · kernel_rfl
      · kernel_rfl
      · dsimp only [oblS]
        rintro w9 h9 T' hT'
        go_simp
        exact ⟨(Below.refl _ w9).alloc (Nat.le_refl _) _, hT' _ _ ⟨_, rfl, rows_of_heap (l := [x]) lEnc_len (World.alloc_heap_new w9 _) (Nat.le_refl _) (by decide) rfl⟩⟩
      dsimp only [List.nil_append, List.cons_append]
      apply relS_det (mask := [false, false])
      · rfl
      · kernel_rfl
      · kernel_rfl
      · dsimp only [oblS]
        rintro w9 h9
        go_simp
        exact ⟨Below.refl _ _, rfl⟩
      dsimp only [List.nil_append, List.cons_append]
      apply relS_det (mask := [false, false, false])
      · rfl
      · kernel_rfl
      · kernel_rfl
      · dsimp only [oblS]
        rintro w9 h9
        go_simp
        exact ⟨Below.refl _ _, rfl⟩
      dsimp only [List.nil_append, List.cons_append]
      apply relS_det (mask := [false, false, true, true]) (x := .slice A2 (q - q) (c - q))
      · rfl
      · kernel_rfl
      · kernel_rfl
      · dsimp only [oblS]
        rintro w9 h9
        go_simp
        exact ⟨Below.refl _ _, rfl⟩
      dsimp only [List.nil_append, List.cons_append]
      apply relS_any (mask := [false, true, false, false, true]) (T := LT ([x] ++ l.drop q)) (hT := LT_stable _)
      · rfl
      · kernel_rfl
      · kernel_rfl
      · dsimp only [oblS]
        intro v35
        rintro w9 ⟨h9, t35⟩ T' hT'
        obtain ⟨A5, rfl, r5⟩ := t35
        obtain ⟨A6, c6, w', hrun, r6, hb6⟩ := run_append_clipR (P := Try.prog) (ty := 26) Try.underlying26 hi hz hs hbb rfl lEnc_len (by decide) lEnc_one r5 (Nat.le_refl _) (HRC.out.keep lStable h9.size h9.block) (by omega) (by omega)
        exact relUpon_append (.tmp 35) (.tmp 38) 26 rfl rfl rfl hrun hb6 (hT' _ _ ⟨A6, _, c6, rfl, r6⟩)
      dsimp only [List.nil_append, List.cons_append]
      apply relS_any (mask := [false, false, false, false, false, true]) (T := LT ([x] ++ l.drop q)) (hT := LT_stable _)
      · rfl
      · kernel_rfl
      · kernel_rfl
      · dsimp only [oblS]
        intro v39
        rintro w9 ⟨h9, t39⟩ T' hT'
        obtain ⟨A5, n5, c5, rfl, r5⟩ := t39
        go_simp
        exact ⟨Below.refl _ _, hT' _ _ ⟨A5, n5, c5, rfl, r5⟩⟩
      dsimp only [List.nil_append, List.cons_append]
      refine relS_end (by rfl) ?_
      dsimp only [finS]
      -- rintro v35 v39 v6 w8 ⟨⟨⟨hb, t35⟩, t39⟩, t6⟩
      rintro v35 v39 v6 w4 ⟨⟨⟨hb4, -⟩, -⟩, A4, n4, c4, rfl, r4⟩
      go_frame
      have hn4 : n4 ≤ 1000001 := by have h1 := r4.1; have h2 := HN.out; simp at h1; omega
      obtain ⟨A8, c8, w8, hrun8, r8, hb8⟩ := run_append_clipR (P := Try.prog) (ty := 26) Try.underlying26 hi hz hs hbb rfl lEnc_len (by decide) lEnc_one (HRT.out.keep lStable hb4.size hb4.block) (Nat.le_refl _) r4 (by omega) (by omega)
      have HR8 := hidp hrun8
      have HO8 := hidp r8
      have hb48 := HBWt.out.trans ((hb4.mono HBWt.out.size).trans (hb8.mono (Nat.le_trans HBWt.out.size hb4.size)))
      have hcl4 := r4.2.2.1
      have hcn4 := r4.2.1
      clear hrun8 r8 r4
      go_wp2_with (at_builtin; refine wpList_append_known rfl (.tmp 43) (.tmp 44) 26 rfl rfl rfl HR8.out ?_)
      go_ret
      exact ⟨A8, _, c8, rfl, by rw [HNe.out]; exact HO8.out, HBW.out.trans (hb48.mono HBW.out.size)⟩
end Go.Proofs.Ytologegkbcedhaa
