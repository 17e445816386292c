/- facts.Add walked, and the reference's. -/
import Derived.Test.YtoalmffhiinbbaaF7
import Derived.Test.YtoalmffhiinbbaaClip
namespace Go.Proofs.Ytoalmffhiinbbaa
open Go.RowKit Go.Shelf

set_option maxRecDepth 100000 in
set_option maxHeartbeats 1000000 in
theorem fClip_any (A : Option Addr) (n c : Nat) (w : World) (hn : n ≤ c) :
    Calls Try.prog 34 #[.slice A n c] w fun e w' => e = .returned (.slice A n n) ∧ w = w' := by
  obtain ⟨i0, hiE, _, hsE, _⟩ := info_parts fInfo
  go_enter Try.func34, Try.ntmps34
  go_wp2_with fail
  go_ret
  exact ⟨rfl, rfl⟩
set_option maxRecDepth 100000 in
set_option maxHeartbeats 1000000 in
theorem rFew_any (A : Option Addr) (n c : Nat) (w : World) : Calls Try.prog 12 #[.slice A n c] w fun e w' => e = .returned (.bool (decide (n ≤ 30))) ∧ w = w' := by
  go_enter Try.func12, Try.ntmps12
  go_wp2_with fail
  go_ret
  exact ⟨ret_bool (by rw [Bool.eq_iff_iff]; simp; omega), rfl⟩

theorem checkF_cases (l : List Fc) : checkF l = 70 ∨ checkF l = 71 ∨ (checkF l = 0 ∧ l.all Fc.ok = true ∧ sortedB l = true) := by
  unfold checkF
  cases h1 : l.all Fc.ok <;> cases h2 : sortedB l <;> simp

/-- The last part of Add: 'append(slices.Clip(l), f)'. -/
theorem addE_ok {l : List Fc} {f : Fc} (h1 : checkF l = 0) (h2 : f.ok = true) (h3 : ∀ x, l.getLast? = some x → x.bef f = true) : addE l f = 0 := by
  rw [addE, h1, h2]
  cases h : l.getLast? with
  | none => rfl
  | some x => simp [h3 x h]
theorem addE_order {l : List Fc} {f x : Fc} (h1 : checkF l = 0) (h2 : f.ok = true) (h3 : l.getLast? = some x) (h4 : x.bef f = false) : addE l f = 71 := by
  rw [addE, h1, h2, h3]
  simp [h4]

/-- What Add hands back. -/
def AddPost (l : List Fc) (f : Fc) (w : World) (e : Ending) (w' : World) : Prop := ∃ A n c, e = .returned (.tuple #[.slice A n c, .int .i64 (addE l f)]) ∧ fSl w' w'.heap.size A n c (addL l f) ∧ Below w.heap.size w w'
theorem addPost_no {l : List Fc} {f : Fc} {w w' : World} {r : Int} (h : addE l f = r) (hr : r ≠ 0) (hb : Below w.heap.size w w') : AddPost l f w (.returned (.tuple #[.slice none 0 0, .int .i64 r])) w' :=
  ⟨none, 0, 0, by rw [h], by rw [addL, h, if_neg hr]; exact Rows.nil (by decide), hb⟩

set_option maxRecDepth 100000 in
set_option maxHeartbeats 2000000 in
theorem fAdd_any (A : Option Addr) (n c : Nat) (l : List Fc) (f : Fc) (w : World) (hl : fSl w w.heap.size A n c l) (hn : n ≤ 1000000) :
    Calls Try.prog 13 #[.slice A n c, .agg (fEnc f).toArray] w (AddPost l f w) := by
  show Calls Try.prog 13 #[.slice A n c, .agg #[.int .i64 f.key.kind, .int .i64 f.key.subj, .int .i64 f.key.obj, .int .i64 f.val, .int .i64 f.fr, .int .i64 f.to, .int .i64 f.known, .int .i64 f.no]] w _
  have HN := hidp hl.1
  have hcap := hl.2.2.1
  have hlen := hl.2.1
  obtain ⟨i0, hi, hz, hs, hbb⟩ := info_parts fInfo
  rcases checkF_cases l with hc | hc | ⟨hc, hall, hso⟩
  · have HC := hidp hc
    have HE : Hid (addE l f = 70) := by show _ = _; rw [addE, hc]; rfl
    clear hc
    go_enter Try.func13, Try.ntmps13
    go_wp2_with fail
    refine (fCheck_any A n c l _ (hl.keep fStable (by simp) (fun b hb => Below.heap_alloc _ _ _ hb))).mono ?_
    rintro e w1 ⟨rfl, hb1⟩
    rw [HC.out]
    go_wp2_with fail
    go_ret2
    exact addPost_no HE.out (by decide) (((Below.refl _ w).alloc (Nat.le_refl _) _).trans (hb1.mono (by simp)))
  · have HC := hidp hc
    have HE : Hid (addE l f = 71) := by show _ = _; rw [addE, hc]; rfl
    clear hc
    go_enter Try.func13, Try.ntmps13
    go_wp2_with fail
    refine (fCheck_any A n c l _ (hl.keep fStable (by simp) (fun b hb => Below.heap_alloc _ _ _ hb))).mono ?_
    rintro e w1 ⟨rfl, hb1⟩
    rw [HC.out]
    go_wp2_with fail
    go_ret2
    exact addPost_no HE.out (by decide) (((Below.refl _ w).alloc (Nat.le_refl _) _).trans (hb1.mono (by simp)))
  · have HC := hidp hc
    obtain ⟨z, hz'⟩ : ∃ z, f.ok = z := ⟨_, rfl⟩
    have HZ := hidp hz'
    clear hc hall hso hz'
    cases z
    · have HE : Hid (addE l f = 70) := by show _ = _; rw [addE, HC.out, HZ.out]; rfl
      go_enter Try.func13, Try.ntmps13
      go_wp2_with fail
      refine (fCheck_any A n c l _ (hl.keep fStable (by simp) (fun b hb => Below.heap_alloc _ _ _ hb))).mono ?_
      rintro e w1 ⟨rfl, hb1⟩
      rw [HC.out]
      have hB1 : Below w.heap.size w w1 := ((Below.refl _ w).alloc (Nat.le_refl _) _).trans (hb1.mono (by simp))
      have hbox := (hb1.block _ (by simp)).trans (World.alloc_heap_new w (.cells #[.int .i64 f.key.kind, .int .i64 f.key.subj, .int .i64 f.key.obj, .int .i64 f.val, .int .i64 f.fr, .int .i64 f.to, .int .i64 f.known, .int .i64 f.no] 28))
      have hc1 := (bcell hb1).1
      simp only [World.size_alloc] at hc1
      go_wp2_with fail
      refine (fits_any f _).mono ?_
      rintro e w2 ⟨rfl, hb2⟩
      rw [HZ.out]
      go_wp2_with fail
      go_ret2
      exact addPost_no HE.out (by decide) (hB1.trans (hb2.mono hB1.size))
    · go_enter Try.func13, Try.ntmps13
      go_wp2_with fail
      refine (fCheck_any A n c l _ (hl.keep fStable (by simp) (fun b hb => Below.heap_alloc _ _ _ hb))).mono ?_
      rintro e w1 ⟨rfl, hb1⟩
      rw [HC.out]
      have hB1 : Below w.heap.size w w1 := ((Below.refl _ w).alloc (Nat.le_refl _) _).trans (hb1.mono (by simp))
      have hbox := (hb1.block _ (by simp)).trans (World.alloc_heap_new w (.cells #[.int .i64 f.key.kind, .int .i64 f.key.subj, .int .i64 f.key.obj, .int .i64 f.val, .int .i64 f.fr, .int .i64 f.to, .int .i64 f.known, .int .i64 f.no] 28))
      have hc1 := (bcell hb1).1
      simp only [World.size_alloc] at hc1
      have HBox := hidp hbox
      clear hbox
      go_wp2_with fail
      refine (fits_any f _).mono ?_
      rintro e w2 ⟨rfl, hb2⟩
      rw [HZ.out]
      have hB2 := hB1.trans (hb2.mono hB1.size)
      have HB2 := hidp ((hb2.block _ (lt_of_heap HBox.out)).trans HBox.out)
      clear hc1 hb1 hb2 hB1 HBox
      have region8 : ∀ (wr : World) (a : Act) (K : Act → World → Prop) (Q : Exit → Act → World → Prop), True → True := fun _ _ _ _ h => h
      clear region8
      by_cases hn0 : n = 0
      · subst hn0
        have hl0 : l = [] := List.eq_nil_of_length_eq_zero HN.out.symm
        have HE : Hid (addE l f = 0) := addE_ok HC.out HZ.out (by rw [hl0]; intro x hx; cases hx)
        clear hl0
        go_wp2_with fail
        go_quiet (fail)
        have hB3 := below_drewN hB2 nq
        have hb3 := below_drewN (Below.refl w2.heap.size w2) nq
        have HB3 := hidp ((hb3.block _ (lt_of_heap HB2.out)).trans HB2.out)
        have hl3 := hl.keep fStable hB3.size hB3.block
        clear hb3 hB2 HB2
        generalize w2.drewN nq = wr at hB3 HB3 hl3 ⊢
        go_wp2_with fail
        refine wp_region_rel wr.heap.size (fun _ => false) (fun _ => true) (Nat.le_refl _) (by kernel_rfl) (by kernel_rfl) (by kernel_rfl) ?_
        apply rel_det
        · repeat (first | refine obl_skip (by rfl) ?_ | refine obl_det (by rfl) ?_ | refine obl_var (by rfl) fun _ => ?_)
          intro w9 hw9
          refine relAt_wanted (by rfl) ?_
          go_simp
          exact ⟨Below.refl _ _, rfl⟩
        refine rel_det (x := .slice A 0 0) ?_ ?_
        · repeat (first | refine obl_skip (by rfl) ?_ | refine obl_det (by rfl) ?_ | refine obl_var (by rfl) fun _ => ?_)
          intro w9 hw9
          refine relAt_wanted (by rfl) ?_
          go_simp
          refine (fClip_any A 0 c w9 (by omega)).mono ?_
          rintro e w1 ⟨rfl, rfl⟩
          exact ⟨_, rfl, Below.refl _ _, rfl⟩
        refine rel_det (x := .agg #[.int .i64 f.key.kind, .int .i64 f.key.subj, .int .i64 f.key.obj, .int .i64 f.val, .int .i64 f.fr, .int .i64 f.to, .int .i64 f.known, .int .i64 f.no]) ?_ ?_
        · repeat (first | refine obl_skip (by rfl) ?_ | refine obl_det (by rfl) ?_ | refine obl_var (by rfl) fun _ => ?_)
          rintro w9 hw
          have hh := (hw.block _ (lt_of_heap HB3.out)).trans HB3.out
          have hl9 := lt_of_heap hh
          refine relAt_wanted (by rfl) ?_
          have e0 := cell_of_heap (o := 0) hh
          have e1 := cell_of_heap (o := 1) hh
          have e2 := cell_of_heap (o := 2) hh
          have e3 := cell_of_heap (o := 3) hh
          have e4 := cell_of_heap (o := 4) hh
          have e5 := cell_of_heap (o := 5) hh
          have e6 := cell_of_heap (o := 6) hh
          have e7 := cell_of_heap (o := 7) hh
          simp only [List.getElem?_toArray, List.getElem?_cons_zero, List.getElem?_cons_succ] at e0 e1 e2 e3 e4 e5 e6 e7
          go_simp
          exact ⟨Below.refl _ _, rfl⟩
        refine rel_any (fun v w => ∃ A c, v = .slice A 1 c ∧ fSl w w.heap.size A 1 c [f]) rfl (rows_stable fStable _ _) ?_ ?_
        · repeat (first | refine obl_skip (by rfl) ?_ | refine obl_det (by rfl) ?_ | refine obl_var (by rfl) fun _ => ?_)
          rintro w9 hw
          refine relAt_cps (by rfl) fun T' hT' => ?_
          go_simp
          exact ⟨(Below.refl _ w9).alloc (Nat.le_refl _) _, hT' _ _ ⟨_, _, rfl, rows_of_heap (l := [f]) fEnc_len (World.alloc_heap_new w9 _) (Nat.le_refl _) (by decide) rfl⟩⟩
        refine rel_any (fun v w => w.ownsRow wr.heap.size 28 8 v (0 + 1) ((l ++ [f]).flatMap fEnc)) rfl (own_stable _ _ _ _ _) ?_ ?_
        · repeat (first | refine obl_skip (by rfl) ?_ | refine obl_det (by rfl) ?_ | refine obl_var (by rfl) fun _ => ?_)
          rintro w9 ⟨hw, A1, c1, rfl, hone⟩
          refine relAt_wanted (by rfl) ?_
          obtain ⟨v', w', hrun, hown', hb'⟩ := run_append_clip (P := Try.prog) (ty := 22) (enc := fEnc) Try.underlying22 hi hz hs hbb rfl fEnc_len (by decide) fEnc_one (hl3.keep fStable hw.size hw.block) hone (by omega) (by omega) (by omega)
          refine relUpon_append (.tmp 29) (.tmp 31) 22 rfl rfl rfl hrun hb' ⟨hown'.1, hown'.2.imp id ?_⟩
          rintro ⟨g, cap, cur, hv, hg, h3⟩
          exact ⟨g, cap, cur, hv, Nat.le_trans hw.size hg, h3⟩
        refine rel_any (fun v w => w.ownsRow wr.heap.size 28 8 v (0 + 1) ((l ++ [f]).flatMap fEnc)) rfl (own_stable _ _ _ _ _) ?_ ?_
        · repeat (first | refine obl_skip (by rfl) ?_ | refine obl_det (by rfl) ?_ | refine obl_var (by rfl) fun _ => ?_)
          rintro w9 ⟨hw, hown⟩
          refine relAt_cps (by rfl) fun T' hT' => ?_
          go_simp
          exact ⟨Below.refl _ _, hT' _ _ hown⟩
        apply rel_det
        · repeat (first | refine obl_skip (by rfl) ?_ | refine obl_det (by rfl) ?_ | refine obl_var (by rfl) fun _ => ?_)
          intro w9 hw9
          refine relAt_wanted (by rfl) ?_
          go_simp
          exact ⟨Below.refl _ _, rfl⟩
        refine fin_dead fun v1 => fin_dead fun v2 => fin_dead fun v3 => fin_dead fun v4 => fin_dead fun v5 => fin_var rfl fun v6 => fin_det rfl ?_
        rintro w4 ⟨hb4, hown⟩
        go_frame
        obtain ⟨A4, c4, rfl, r4⟩ := own_rows fEnc_len (by decide) hown
        clear hown
        go_wp2_with fail
        go_ret2
        exact ⟨A4, 0 + 1, c4, by rw [HE.out]; rfl, by rw [addL, HE.out, if_pos rfl]; exact r4, hB3.trans (hb4.mono hB3.size)⟩
      · obtain ⟨b, off, x, rfl, hb, hzx, c0, c1, c2, c3, c4, c5, c6, c7⟩ := fSl.get (hl.below fStable hB2) (k := n - 1) (by omega)
        have hlast : l.getLast? = some x := by
          rw [List.getLast?_eq_getElem?, ← HN.out]; exact hzx
        have HL := hidp hlast
        have hh := HB2.out
        have hwb := lt_of_cell c0
        have hl2 := lt_of_heap hh
        have e0 := cell_of_heap (o := 0) hh
        have e1 := cell_of_heap (o := 1) hh
        have e2 := cell_of_heap (o := 2) hh
        have e3 := cell_of_heap (o := 3) hh
        have e4 := cell_of_heap (o := 4) hh
        have e5 := cell_of_heap (o := 5) hh
        have e6 := cell_of_heap (o := 6) hh
        have e7 := cell_of_heap (o := 7) hh
        simp only [List.getElem?_toArray, List.getElem?_cons_zero, List.getElem?_cons_succ] at e0 e1 e2 e3 e4 e5 e6 e7
        have hpos0 : 0 < n := by omega
        have hpd : decide (0 < n) = true := by simpa using hpos0
        have hpos : (1 : Int) ≤ n := by omega
        have hin1 : (n : Int) - 1 < n := by omega
        have hwrap : IntKind.i64.wrap ((n : Int) - 1) = (n : Int) - 1 := IntWalk.i64_in _ (by omega)
        have hto : ((n : Int) - 1).toNat = n - 1 := by omega
        clear hzx hlast hh
        obtain ⟨z, hz0⟩ : ∃ z, x.bef f = z := ⟨_, rfl⟩
        have HV := hidp hz0
        have HW := hidp (bef_cmp hz0)
        clear hz0
        go_wp2_with fail
        refine wp_region_below w2.heap.size (by kernel_rfl) (by kernel_rfl) ?_
        repeat
          refine q_step (by rfl) ?_
          apply Exists.intro
          refine ⟨fun w9 h9 => ?_, ?_⟩
          · have hc9 := (bcell h9).1
            go_simp
            first | done | rfl | exact calls_below h9 (Nat.le_refl _) ((fcmp_any x f w9).mono fun _ _ ⟨he, hd⟩ => ⟨he, hd.b⟩)
          go_simp
        refine wpQuiet_nil ?_
        intro w3 hb3
        have hB3 := hB2.trans (hb3.mono hB2.size)
        clear c0 c1 c2 c3 c4 c5 c6 c7 e0 e1 e2 e3 e4 e5 e6 e7 hwrap hto hpos hpos0 hin1 hn0 hpd
        rw [HW.out]
        cases z
        · have HE : Hid (addE l f = 71) := addE_order HC.out HZ.out HL.out HV.out
          go_wp2_with fail
          go_ret2
          exact addPost_no HE.out (by decide) hB3
        · have HE : Hid (addE l f = 0) := addE_ok HC.out HZ.out (fun y hy => by rw [HL.out] at hy; cases hy; exact HV.out)
          have HB3 := hidp ((hb3.block _ (lt_of_heap HB2.out)).trans HB2.out)
          have hl3 := hl.keep fStable hB3.size hB3.block
          clear hb3 hB2 HB2
          generalize w3 = wr at hB3 HB3 hl3 ⊢
          go_wp2_with fail
          refine wp_region_rel wr.heap.size (fun _ => false) (fun _ => true) (Nat.le_refl _) (by kernel_rfl) (by kernel_rfl) (by kernel_rfl) ?_
          apply rel_det
          · repeat (first | refine obl_skip (by rfl) ?_ | refine obl_det (by rfl) ?_ | refine obl_var (by rfl) fun _ => ?_)
            intro w9 hw9
            refine relAt_wanted (by rfl) ?_
            go_simp
            exact ⟨Below.refl _ _, rfl⟩
          refine rel_det (x := .slice (some ⟨b, off, none⟩) n n) ?_ ?_
          · repeat (first | refine obl_skip (by rfl) ?_ | refine obl_det (by rfl) ?_ | refine obl_var (by rfl) fun _ => ?_)
            intro w9 hw9
            refine relAt_wanted (by rfl) ?_
            go_simp
            refine (fClip_any _ n c w9 (by omega)).mono ?_
            rintro e w1 ⟨rfl, rfl⟩
            exact ⟨_, rfl, Below.refl _ _, rfl⟩
          refine rel_det (x := .agg #[.int .i64 f.key.kind, .int .i64 f.key.subj, .int .i64 f.key.obj, .int .i64 f.val, .int .i64 f.fr, .int .i64 f.to, .int .i64 f.known, .int .i64 f.no]) ?_ ?_
          · repeat (first | refine obl_skip (by rfl) ?_ | refine obl_det (by rfl) ?_ | refine obl_var (by rfl) fun _ => ?_)
            rintro w9 hw
            have hh := (hw.block _ (lt_of_heap HB3.out)).trans HB3.out
            have hl9 := lt_of_heap hh
            refine relAt_wanted (by rfl) ?_
            have e0 := cell_of_heap (o := 0) hh
            have e1 := cell_of_heap (o := 1) hh
            have e2 := cell_of_heap (o := 2) hh
            have e3 := cell_of_heap (o := 3) hh
            have e4 := cell_of_heap (o := 4) hh
            have e5 := cell_of_heap (o := 5) hh
            have e6 := cell_of_heap (o := 6) hh
            have e7 := cell_of_heap (o := 7) hh
            simp only [List.getElem?_toArray, List.getElem?_cons_zero, List.getElem?_cons_succ] at e0 e1 e2 e3 e4 e5 e6 e7
            go_simp
            exact ⟨Below.refl _ _, rfl⟩
          refine rel_any (fun v w => ∃ A c, v = .slice A 1 c ∧ fSl w w.heap.size A 1 c [f]) rfl (rows_stable fStable _ _) ?_ ?_
          · repeat (first | refine obl_skip (by rfl) ?_ | refine obl_det (by rfl) ?_ | refine obl_var (by rfl) fun _ => ?_)
            rintro w9 hw
            refine relAt_cps (by rfl) fun T' hT' => ?_
            go_simp
            exact ⟨(Below.refl _ w9).alloc (Nat.le_refl _) _, hT' _ _ ⟨_, _, rfl, rows_of_heap (l := [f]) fEnc_len (World.alloc_heap_new w9 _) (Nat.le_refl _) (by decide) rfl⟩⟩
          refine rel_any (fun v w => w.ownsRow wr.heap.size 28 8 v (n + 1) ((l ++ [f]).flatMap fEnc)) rfl (own_stable _ _ _ _ _) ?_ ?_
          · repeat (first | refine obl_skip (by rfl) ?_ | refine obl_det (by rfl) ?_ | refine obl_var (by rfl) fun _ => ?_)
            rintro w9 ⟨hw, A1, c1, rfl, hone⟩
            refine relAt_wanted (by rfl) ?_
            obtain ⟨v', w', hrun, hown', hb'⟩ := run_append_clip (P := Try.prog) (ty := 22) (enc := fEnc) Try.underlying22 hi hz hs hbb rfl fEnc_len (by decide) fEnc_one (hl3.keep fStable hw.size hw.block) hone (by omega) (by omega) (by omega)
            refine relUpon_append (.tmp 29) (.tmp 31) 22 rfl rfl rfl hrun hb' ⟨hown'.1, hown'.2.imp id ?_⟩
            rintro ⟨g, cap, cur, hv, hg, h3⟩
            exact ⟨g, cap, cur, hv, Nat.le_trans hw.size hg, h3⟩
          refine rel_any (fun v w => w.ownsRow wr.heap.size 28 8 v (n + 1) ((l ++ [f]).flatMap fEnc)) rfl (own_stable _ _ _ _ _) ?_ ?_
          · repeat (first | refine obl_skip (by rfl) ?_ | refine obl_det (by rfl) ?_ | refine obl_var (by rfl) fun _ => ?_)
            rintro w9 ⟨hw, hown⟩
            refine relAt_cps (by rfl) fun T' hT' => ?_
            go_simp
            exact ⟨Below.refl _ _, hT' _ _ hown⟩
          apply rel_det
          · repeat (first | refine obl_skip (by rfl) ?_ | refine obl_det (by rfl) ?_ | refine obl_var (by rfl) fun _ => ?_)
            intro w9 hw9
            refine relAt_wanted (by rfl) ?_
            go_simp
            exact ⟨Below.refl _ _, rfl⟩
          refine fin_dead fun v1 => fin_dead fun v2 => fin_dead fun v3 => fin_dead fun v4 => fin_dead fun v5 => fin_var rfl fun v6 => fin_det rfl ?_
          rintro w4 ⟨hb4, hown⟩
          go_frame
          obtain ⟨A4, c4, rfl, r4⟩ := own_rows fEnc_len (by decide) hown
          clear hown
          go_wp2_with fail
          go_ret2
          exact ⟨A4, n + 1, c4, by rw [HE.out]; rfl, by rw [addL, HE.out, if_pos rfl]; exact r4, hB3.trans (hb4.mono hB3.size)⟩
end Go.Proofs.Ytoalmffhiinbbaa
