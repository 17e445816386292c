/- Several texts in one: J30 D30. -/
import Derived.Test.YtbegdcjofnfkiaaDoorJM
import Derived.Test.YtbegdcjofnfkiaaDoorJN
import Derived.Test.YtbegdcjofnfkiaaDoorJ24
import Derived.Deep.DeepCutAuto
import Derived.Test.YtbegdcjofnfkiaaDoorMA
import Derived.Test.YtbegdcjofnfkiaaDoorCards
import Derived.Test.YtbegdcjofnfkiaaDoorTie
import Derived.LaidMore
import Derived.Stop.Joined
import Derived.SevenTiedAt
section
/- JoinTurned walked (printed by tools/gen115.py). -/
namespace Go.Proofs.YtbegdcjofnfkiaaDoor
open Go.RowKit Go.Shelf Go.Sort

theorem u64_in {n : Int} (h : 0 ≤ n ∧ n ≤ 18446744073709551615) : IntKind.u64.wrap n = n := by
  simp [IntKind.wrap, IntKind.bits, IntKind.signed]; omega
theorem rowsE_eq (q y : Qu) (h : checkJ wdJ q = checkJ wdJ y) : rowsE q = rowsE y := by unfold rowsE; rw [h]
set_option maxRecDepth 100000 in
set_option maxHeartbeats 8000000 in
theorem turned_any (q : Qu) (FA : Option Addr) (fn fc : Nat) (l : List Fc) (z : Int) (w : World) (hq : QuIn q w w.heap.size) (hw : WordsAt w) (hl : fSl w w.heap.size FA fn fc l) (hz0 : 0 ≤ z ∧ z ≤ 18446744073709551615) :
    Calls Tryd.prog 6 #[.agg #[.slice q.nA q.nn q.nc, .slice q.sA q.sn q.sc, .slice q.aA q.an q.ac, .slice q.tA q.tn q.tc], .slice FA fn fc, .int .u64 z] w fun e w' => e = .returned (.bool true) ∧ Below w.heap.size w w' := by
  obtain ⟨i0, hi, hz, hs, hbb⟩ := info_parts fInfoJ
  obtain ⟨j0, hji, hjz, hjs, hjb⟩ := info_parts amInfo
  obtain ⟨t0, hti, htz, hts, htb⟩ := info_parts teInfo
  have HQu : Hid (∀ W, Below w.heap.size w W → QuIn q W W.heap.size) := fun W hb => hq.keep hb.size hb.block
  have HWd : Hid (∀ W, Below w.heap.size w W → WordsAt W) := fun W hb => hw.below hb
  have HFa : Hid (∀ W, Below w.heap.size w W → fSl W W.heap.size FA fn fc l) := fun W h => hl.keep (Rep.flat_stable _) h.size h.block
  have HLen : Hid (q.nn = q.names.length ∧ q.sn = q.shows.length ∧ q.an = q.atoms.length ∧ q.tn = q.tests.length) := ⟨hq.1.1, hq.2.1.1, hq.2.2.1.1, hq.2.2.2.1⟩
  have HIn := hidp hq
  have HFn := hidp hl.1
  have hfc := hl.2.1
  have hfcc := hl.2.2.1
  have hac := hq.2.2.1.2.1
  have hacc := hq.2.2.1.2.2.1
  have htc := hq.2.2.2.2.1
  have htcc := hq.2.2.2.2.2.1
  obtain ⟨W0, hW0⟩ : ∃ W0, w.alloc (.cells #[.slice q.nA q.nn q.nc, .slice q.sA q.sn q.sc, .slice q.aA q.an q.ac, .slice q.tA q.tn q.tc] 27) = W0 := ⟨_, rfl⟩
  have hBW : Below w.heap.size w W0 := hW0 ▸ (Below.refl _ w).alloc (Nat.le_refl _) _
  have hb0 : QBox q w.heap.size W0 := ⟨hW0 ▸ World.alloc_heap_new _ _⟩
  have HBW := hidp hBW
  have HB0 := hidp hb0
  have HW0 := hidp hW0
  have HFl := hidp hl
  clear hBW hb0 hq hw hl hW0
  go_enter Tryd.func6, Tryd.ntmps6
  go_wp2_with fail
  rw [HW0.out]
  refine (sane_any _ (HWd.out _ HBW.out)).mono ?_
  rintro e w1 ⟨rfl, hb1⟩
  have HB1 := hidp (HBW.out.trans (hb1.mono HBW.out.size))
  have HQ1 := hidp (HB0.out.later hb1)
  obtain ⟨x0, x1, x2, x3, l0⟩ := HQ1.out.cells
  clear hb1
  go_wp2_with fail
  refine (few_any q FA fn fc l _ (HQu.out _ HB1.out) (HFa.out _ HB1.out)).mono ?_
  rintro e w5 ⟨rfl, hb5⟩
  have HB5 := hidp (HB1.out.trans (hb5.mono HB1.out.size))
  have HQ5 := hidp (HQ1.out.later hb5)
  clear x0 x1 x2 x3 l0 hb5
  obtain ⟨x0, x1, x2, x3, l0⟩ := HQ5.out.cells
  obtain ⟨fw, hfw⟩ : ∃ b, fewJ q l = b := ⟨_, rfl⟩
  rw [hfw]
  have HFw := hidp hfw
  clear hfw
  cases fw
  · go_wp2_with fail
    go_ret
    exact ⟨rfl, HB5.out⟩
  go_wp2_with fail
  refine (qCheck_any q _ (HQu.out _ HB5.out) (HWd.out _ HB5.out)).mono ?_
  rintro e w6 ⟨rfl, hb6⟩
  have HB6 := hidp (HB5.out.trans (hb6.mono HB5.out.size))
  have HQ6 := hidp (HQ5.out.later hb6)
  clear x0 x1 x2 x3 l0 hb6
  obtain ⟨x0, x1, x2, x3, l0⟩ := HQ6.out.cells
  obtain ⟨ck, hck⟩ : ∃ b, checkJ wdJ q = b := ⟨_, rfl⟩
  rw [hck]
  have HCk := hidp hck
  clear hck
  cases ck
  · simp only [okE]
    go_wp2_with fail
    go_ret
    exact ⟨rfl, HB6.out⟩
  simp only [okE]
  have hfew : fn ≤ 10 ∧ q.nn ≤ 4 ∧ q.sn ≤ 8 ∧ q.an ≤ 6 ∧ q.tn ≤ 6 ∧ (domR l).length ^ q.names.length ≤ 4096 := by
    have h := HFw.out
    unfold fewJ at h
    simp only [Bool.and_eq_true, decide_eq_true_eq] at h
    have h1 := HFn.out; obtain ⟨h2, h3, h4, h5⟩ := HLen.out
    exact ⟨by omega, by omega, by omega, by omega, by omega, h.2⟩
  obtain ⟨hx10, hn4, hs8, ha6, ht6, hpw⟩ := hfew
  have HPw := hidp hpw
  obtain ⟨X, hX⟩ : ∃ X, w6.heap.size = X := ⟨_, rfl⟩
  have hbX : w.heap.size ≤ X := by have := HB6.out.size; omega
  have hbX1 : w.heap.size < X := by omega
  obtain ⟨W7, hW7⟩ : ∃ W7, w6.alloc (.cells #[.slice q.nA q.nn q.nc, .slice q.sA q.sn q.sc, .slice q.aA q.an q.ac, .slice q.tA q.tn q.tc] 27) = W7 := ⟨_, rfl⟩
  have b7 : Below w6.heap.size w6 W7 := by rw [← hW7]; exact (Below.refl _ _).alloc (Nat.le_refl _) _
  have HBx : Hid (TuB q w.heap.size X (.slice q.aA q.an q.ac) (.slice q.tA q.tn q.tc) w W7) := ⟨HQ6.out.later b7, by rw [← hW7, ← hX]; exact World.alloc_heap_new _ _, HB6.out.trans (b7.mono HB6.out.size), hbX1⟩
  have HW7 := hidp hW7
  clear hpw b7 hW7
  go_upto_if 35 with fail
  rw [HW7.out]
  clear x0 x1 x2 x3 l0 HW7 HQ6 HQ5 HQ1 HB0 HBW
  go_cut [] (fun wx => ∃ u la, TuB q w.heap.size X u (.slice q.tA q.tn q.tc) w wx ∧ InM 46 9 amEnc w w.heap.size u q.an la wx ∧ la.Perm q.atoms)
  case first =>
    obtain ⟨x0, x1, x2, x3, l0⟩ := HBx.out.qb.cells
    by_cases hn : 0 < q.an
    · have hn' : (0 : Int) < q.an := by omega
      obtain ⟨k, hk, hrem⟩ := rem_nat (n := q.an) hz0.1 hn
      have hw1 : IntKind.u64.wrap (q.an : Int) = q.an := u64_in (by omega)
      have hw2 : IntKind.i64.wrap (k : Int) = k := IntWalk.i64_in _ (by omega)
      have hw3 : IntKind.u64.wrap (k : Int) = k := u64_in (by omega)
      have hcut := fun W => run_cut_low (P := Tryd.prog) W Tryd.underlying24 hji q.aA q.an q.ac k .i64 (k : Int) rfl (by omega)
      have hcut2 := fun W => run_cut_high (P := Tryd.prog) W Tryd.underlying24 hji q.aA q.an q.ac k .i64 (k : Int) rfl (by omega)
      rw [hjs] at hcut
      have hbr : w.heap.size ≤ W7.heap.size := HBx.out.bel.size
      have hXr : X < W7.heap.size := lt_of_heap HBx.out.xb
      have HCut : Hid (∀ W', Below W7.heap.size W7 W' → Rows 9 (Rep.flat amEnc) W' W'.heap.size (cutA q.aA q.ac k 9) (q.an - k) (q.ac - k) (q.atoms.drop k)) := fun W' h => ((HQu.out _ (HBx.out.bel.trans (h.mono hbr))).2.2.1).cut (by omega)
      have HTake : Hid (∀ W', Below W7.heap.size W7 W' → Rows 9 (Rep.flat amEnc) W' W'.heap.size q.aA k q.ac (q.atoms.take k)) := fun W' h => ((HQu.out _ (HBx.out.bel.trans (h.mono hbr))).2.2.1).take (by omega)
      have HOt : Hid (InM 48 5 teEnc w w.heap.size (.slice q.tA q.tn q.tc) q.tn q.tests W7) := .inl ⟨_, _, rfl, HIn.out.2.2.2⟩
      go_wp2_with fail

      refine wp_region_QS (w.heap.size) (fun k => k == 10 || k == 12) (fun k => k == 0 || k == 5 || k == 10 || k == 12) (fun k => k == 0 || k == 1 || k == 2 || k == 3 || k == 4 || k == 5 || k == 6 || k == 7 || k == 8 || k == 9 || k == 10) (hbr) (by kernel_rfl) (by kernel_rfl) (by kernel_rfl) (by kernel_rfl) ?_
      apply qs_any (mask := []) (S := (Below W7.heap.size W7)) (m := (fun w => w.heap.size)) (T := fun v W => ∃ g, v = .slice (some ⟨g, 0, none⟩) 0 0 ∧ W7.heap.size ≤ g ∧ W.heap[g]? = some (.cells #[] 46 (0, 0))) (hT := fun v w w' hb ⟨g, hv, hg, hh⟩ => ⟨g, hv, hg, (hb.block _ (lt_of_heap hh)).trans hh⟩) (hf := by kernel_rfl) (hS := by rfl) (hm := by rfl) (hg := by kernel_rfl) (hk := by kernel_rfl)
      · dsimp only [oblS]
        rintro w9 h9 T' hT'
        go_simp
        exact ⟨(Below.refl _ w9).alloc (Nat.le_refl _) _, hT' _ _ ⟨_, rfl, h9.size, World.alloc_heap_new w9 _⟩⟩
      dsimp only [List.nil_append, List.cons_append]
      apply qs_det (mask := [false]) (S := (Below W7.heap.size W7)) (m := (fun w => w.heap.size)) (hS := by rfl) (hm := by rfl) (hg := by kernel_rfl) (hk := by kernel_rfl)
      · dsimp only [oblS]
        rintro w9 h9
        go_simp
        exact ⟨Below.refl _ _, rfl⟩
      dsimp only [List.nil_append, List.cons_append]
      apply qs_det (mask := [false, true]) (S := (Below W7.heap.size W7)) (m := (fun w => w.heap.size)) (hS := by rfl) (hm := by rfl) (hg := by kernel_rfl) (hk := by kernel_rfl)
      · dsimp only [oblS]
        rintro w9 h9
        have hc9 := (bcell h9).1
        go_simp
        exact ⟨Below.refl _ _, rfl⟩
      dsimp only [List.nil_append, List.cons_append]
      apply qs_det (mask := [false, false, false]) (S := (Below W7.heap.size W7)) (m := (fun w => w.heap.size)) (hS := by rfl) (hm := by rfl) (hg := by kernel_rfl) (hk := by kernel_rfl)
      · dsimp only [oblS]
        rintro w9 h9
        go_simp
        exact ⟨Below.refl _ _, rfl⟩
      dsimp only [List.nil_append, List.cons_append]
      apply qs_det (mask := [false, false, true, true]) (S := (Below W7.heap.size W7)) (m := (fun w => w.heap.size)) (hS := by rfl) (hm := by rfl) (hg := by kernel_rfl) (hk := by kernel_rfl)
      · dsimp only [oblS]
        rintro w9 h9
        go_simp
        exact ⟨Below.refl _ _, rfl⟩
      dsimp only [List.nil_append, List.cons_append]
      apply qs_any (mask := [true, false, false, false, true]) (S := (Below W7.heap.size W7)) (m := (fun w => w.heap.size)) (T := fun v W => W.ownsRow W7.heap.size 46 9 v (q.an - k) ((q.atoms.drop k).flatMap amEnc)) (hT := fun v w w' hb h => own_keepB h fun g hg => hb.block g (h.lt g hg).2) (hf := by kernel_rfl) (hS := by rfl) (hm := by rfl) (hg := by kernel_rfl) (hk := by kernel_rfl)
      · dsimp only [oblS]
        intro v41
        rintro w9 ⟨h9, t41⟩ T' hT'
        obtain ⟨g, e0, hg0, hh0⟩ := t41
        subst e0
        obtain ⟨v', w', hrun, hown', hb'⟩ := run_append_empty (P := Tryd.prog) (ty := 24) (enc := amEnc) Tryd.underlying24 hji hjz hjs hjb rfl amEnc_len (by decide) amEnc_one hh0 hg0 (HCut.out w9 h9) (by omega) (by omega)
        exact relUpon_append (.tmp 41) (.tmp 45) 24 rfl rfl rfl hrun hb' (hT' _ _ hown')
      dsimp only [List.nil_append, List.cons_append]
      apply qs_det (mask := [false, false, false, false, false, false]) (S := (Below W7.heap.size W7)) (m := (fun w => w.heap.size)) (hS := by rfl) (hm := by rfl) (hg := by kernel_rfl) (hk := by kernel_rfl)
      · dsimp only [oblS]
        rintro w9 h9
        go_simp
        exact ⟨Below.refl _ _, rfl⟩
      dsimp only [List.nil_append, List.cons_append]
      apply qs_det (mask := [false, false, false, false, false, false, true]) (S := (Below W7.heap.size W7)) (m := (fun w => w.heap.size)) (hS := by rfl) (hm := by rfl) (hg := by kernel_rfl) (hk := by kernel_rfl)
      · dsimp only [oblS]
        rintro w9 h9
        have hc9 := (bcell h9).1
        go_simp
        exact ⟨Below.refl _ _, rfl⟩
      dsimp only [List.nil_append, List.cons_append]
      apply qs_det (mask := [false, false, false, false, false, false, false, false]) (S := (Below W7.heap.size W7)) (m := (fun w => w.heap.size)) (hS := by rfl) (hm := by rfl) (hg := by kernel_rfl) (hk := by kernel_rfl)
      · dsimp only [oblS]
        rintro w9 h9
        go_simp
        exact ⟨Below.refl _ _, rfl⟩
      dsimp only [List.nil_append, List.cons_append]
      apply qs_det (mask := [false, false, false, false, false, false, false, true, true]) (S := (Below W7.heap.size W7)) (m := (fun w => w.heap.size)) (hS := by rfl) (hm := by rfl) (hg := by kernel_rfl) (hk := by kernel_rfl)
      · dsimp only [oblS]
        rintro w9 h9
        go_simp
        exact ⟨Below.refl _ _, rfl⟩
      dsimp only [List.nil_append, List.cons_append]
      apply qs_any (mask := [false, false, false, false, false, true, false, false, false, true]) (S := (Below W7.heap.size W7)) (m := (fun _ => w.heap.size)) (T := fun v W => TuB q w.heap.size X (.slice q.aA q.an q.ac) (.slice q.tA q.tn q.tc) w W ∧ InM 48 5 teEnc w w.heap.size (.slice q.tA q.tn q.tc) q.tn q.tests W ∧ W.ownsRow W7.heap.size 46 9 v q.an ((q.atoms.drop k ++ q.atoms.take k).flatMap amEnc)) (hT := fun v w w' hb h => ⟨h.1.keep hb, h.2.1.keep hb, own_keepB h.2.2 fun g hg => hb.block g (h.2.2.lt g hg).2⟩) (hf := by kernel_rfl) (hS := by rfl) (hm := by rfl) (hg := by kernel_rfl) (hk := by kernel_rfl)
      · dsimp only [oblS]
        intro v46
        rintro w9 ⟨h9, t46⟩ T' hT'
        have hl5 := t46.lt
        obtain ⟨v', w', hrun, hown', hg', hat⟩ := run_append_rows (P := Tryd.prog) (ty := 24) (enc := amEnc) Tryd.underlying24 hji hjz hjs hjb rfl amEnc_len (by decide) amEnc_one t46 (HTake.out w9 h9) (by omega) (by omega) h9.size
        rw [show q.an - k + k = q.an by omega] at hown'
        have hk9 : ∀ x, x < W7.heap.size → w'.heap[x]? = W7.heap[x]? := fun x hx => (hg'.block x (by have := h9.size; omega) (fun e => by have := (hl5 x e.symm).1; omega)).trans (h9.block x hx)
        have hb9 : Below w.heap.size w9 w' := (Below.refl _ _).grown hg' (by have := h9.size; omega) fun g e => by have := (hl5 g e).1; omega
        exact relUpon_append (.tmp 46) (.tmp 50) 24 rfl rfl rfl hrun hb9 (hT' _ _ ⟨HBx.out.keepN hXr hk9 ((h9.mono hbr).trans hb9), HOt.out.keepN hk9, hown'⟩)
      dsimp only [List.nil_append, List.cons_append]
      apply qs_det (mask := [false, false, false, false, false, false, false, false, false, false, false]) (S := (Below (w.heap.size) W7)) (m := (fun w => w.heap.size)) (hS := by rfl) (hm := by rfl) (hg := by kernel_rfl) (hk := by kernel_rfl)
      · dsimp only [oblS]
        rintro w9 h9
        go_simp
        exact ⟨Below.refl _ _, rfl⟩
      dsimp only [List.nil_append, List.cons_append]
      apply qs_any (mask := [false, false, false, false, false, false, false, false, false, false, true, true]) (S := (Below (w.heap.size) W7)) (m := (fun _ => w.heap.size)) (T := fun _ W => ∃ A c, TuB q w.heap.size X (.slice A q.an c) (.slice q.tA q.tn q.tc) w W ∧ InM 48 5 teEnc w w.heap.size (.slice q.tA q.tn q.tc) q.tn q.tests W ∧ W.ownsRow W7.heap.size 46 9 (.slice A q.an c) q.an ((q.atoms.drop k ++ q.atoms.take k).flatMap amEnc)) (hT := fun v w w' hb ⟨A, c, h⟩ => ⟨A, c, h.1.keep hb, h.2.1.keep hb, own_keepB h.2.2 fun g hg => hb.block g (h.2.2.lt g hg).2⟩) (hf := by kernel_rfl) (hS := by rfl) (hm := by rfl) (hg := by kernel_rfl) (hk := by kernel_rfl)
      · dsimp only [oblS]
        intro v51
        rintro w9 ⟨h9, t51⟩ T' hT'
        obtain ⟨hbx, hot, ho⟩ := t51
        obtain ⟨A, c, e0, _⟩ := own_rows amEnc_len (by decide) ho
        subst e0
        have x9 := cell_of_heap (o := 2) hbx.xb
        have f9 := frozen_of_heap (o := 2) hbx.xb
        simp only [List.getElem?_toArray, List.getElem?_cons_zero, List.getElem?_cons_succ] at x9
        have l9 := lt_of_cell x9
        have HB := hidp hbx
        have HO := hidp ho
        have HT := hidp hot
        clear hbx hot ho
        go_simp
        exact ⟨(Below.refl _ _).setCell (p := ⟨X, 2, none⟩) hbX _, hT' _ _ ⟨A, c, HB.out.setU _, HT.out.set HB.out.xb (by decide), own_set_box HO.out HB.out.xb (by decide)⟩⟩
      dsimp only [List.nil_append, List.cons_append]
      refine qs_end [true, false, false, false, false, true, false, false, false, false, true, false, false] (by kernel_rfl) (by kernel_rfl) ?_
      dsimp only [finQ]
      -- rintro v41 v46 v51 vn12 w8 ⟨hb, tn12⟩
      rintro v41 v46 v51 vn12 w8 ⟨hb8, A8, c8, htu8, hot8, ho8⟩
      have HTu8 := hidp htu8
      have HO8 := hidp ho8
      clear htu8 hot8 ho8 hb8 x0 x1 x2 x3 l0 hcut hcut2
      go_simp
      go_wp2_with fail
      go_meet
      exact ⟨_, _, HTu8.out, .inr (own_lower HO8.out (by omega)), drop_take_perm _ _⟩
    · have hn' : ¬ ((0 : Int) < q.an) := by omega
      go_wp2_with fail
      go_meet
      exact ⟨_, _, HBx.out, .inl ⟨_, _, rfl, HIn.out.2.2.1⟩, List.Perm.refl _⟩
  case rest =>
  obtain ⟨u, la, htu, hin, hpe⟩ := hcut
  rename World => wa
  have HPe := hidp hpe
  clear hpe HBx
  have HBx := hidp htu
  have HOt := hidp hin
  clear htu hin
  obtain ⟨x0, x1, x2, x3, l0⟩ := HBx.out.qb.cells
  go_upto_if 57 with fail
  go_cut [] (fun wx => ∃ v lt, TuB q w.heap.size X u v w wx ∧ InM 46 9 amEnc w w.heap.size u q.an la wx ∧ InM 48 5 teEnc w w.heap.size v q.tn lt wx ∧ lt.Perm q.tests)
  case first =>
    by_cases hn : 0 < q.tn
    · have hn' : (0 : Int) < q.tn := by omega
      obtain ⟨k, hk, hrem⟩ := rem_nat (n := q.tn) hz0.1 hn
      have hw1 : IntKind.u64.wrap (q.tn : Int) = q.tn := u64_in (by omega)
      have hw2 : IntKind.i64.wrap (k : Int) = k := IntWalk.i64_in _ (by omega)
      have hw3 : IntKind.u64.wrap (k : Int) = k := u64_in (by omega)
      have hcut := fun W => run_cut_low (P := Tryd.prog) W Tryd.underlying25 hti q.tA q.tn q.tc k .i64 (k : Int) rfl (by omega)
      have hcut2 := fun W => run_cut_high (P := Tryd.prog) W Tryd.underlying25 hti q.tA q.tn q.tc k .i64 (k : Int) rfl (by omega)
      rw [hts] at hcut
      have hbr : w.heap.size ≤ wa.heap.size := HBx.out.bel.size
      have hXr : X < wa.heap.size := lt_of_heap HBx.out.xb
      have HCut : Hid (∀ W', Below wa.heap.size wa W' → Rows 5 (Rep.flat teEnc) W' W'.heap.size (cutA q.tA q.tc k 5) (q.tn - k) (q.tc - k) (q.tests.drop k)) := fun W' h => ((HQu.out _ (HBx.out.bel.trans (h.mono hbr))).2.2.2).cut (by omega)
      have HTake : Hid (∀ W', Below wa.heap.size wa W' → Rows 5 (Rep.flat teEnc) W' W'.heap.size q.tA k q.tc (q.tests.take k)) := fun W' h => ((HQu.out _ (HBx.out.bel.trans (h.mono hbr))).2.2.2).take (by omega)
      go_wp2_with fail

      refine wp_region_QS (w.heap.size) (fun k => k == 10 || k == 12) (fun k => k == 0 || k == 5 || k == 10 || k == 12) (fun k => k == 0 || k == 1 || k == 2 || k == 3 || k == 4 || k == 5 || k == 6 || k == 7 || k == 8 || k == 9 || k == 10) (hbr) (by kernel_rfl) (by kernel_rfl) (by kernel_rfl) (by kernel_rfl) ?_
      apply qs_any (mask := []) (S := (Below wa.heap.size wa)) (m := (fun w => w.heap.size)) (T := fun v W => ∃ g, v = .slice (some ⟨g, 0, none⟩) 0 0 ∧ wa.heap.size ≤ g ∧ W.heap[g]? = some (.cells #[] 48 (0, 0))) (hT := fun v w w' hb ⟨g, hv, hg, hh⟩ => ⟨g, hv, hg, (hb.block _ (lt_of_heap hh)).trans hh⟩) (hf := by kernel_rfl) (hS := by rfl) (hm := by rfl) (hg := by kernel_rfl) (hk := by kernel_rfl)
      · dsimp only [oblS]
        rintro w9 h9 T' hT'
        go_simp
        exact ⟨(Below.refl _ w9).alloc (Nat.le_refl _) _, hT' _ _ ⟨_, rfl, h9.size, World.alloc_heap_new w9 _⟩⟩
      dsimp only [List.nil_append, List.cons_append]
      apply qs_det (mask := [false]) (S := (Below wa.heap.size wa)) (m := (fun w => w.heap.size)) (hS := by rfl) (hm := by rfl) (hg := by kernel_rfl) (hk := by kernel_rfl)
      · dsimp only [oblS]
        rintro w9 h9
        go_simp
        exact ⟨Below.refl _ _, rfl⟩
      dsimp only [List.nil_append, List.cons_append]
      apply qs_det (mask := [false, true]) (S := (Below wa.heap.size wa)) (m := (fun w => w.heap.size)) (hS := by rfl) (hm := by rfl) (hg := by kernel_rfl) (hk := by kernel_rfl)
      · dsimp only [oblS]
        rintro w9 h9
        have hc9 := (bcell h9).1
        go_simp
        exact ⟨Below.refl _ _, rfl⟩
      dsimp only [List.nil_append, List.cons_append]
      apply qs_det (mask := [false, false, false]) (S := (Below wa.heap.size wa)) (m := (fun w => w.heap.size)) (hS := by rfl) (hm := by rfl) (hg := by kernel_rfl) (hk := by kernel_rfl)
      · dsimp only [oblS]
        rintro w9 h9
        go_simp
        exact ⟨Below.refl _ _, rfl⟩
      dsimp only [List.nil_append, List.cons_append]
      apply qs_det (mask := [false, false, true, true]) (S := (Below wa.heap.size wa)) (m := (fun w => w.heap.size)) (hS := by rfl) (hm := by rfl) (hg := by kernel_rfl) (hk := by kernel_rfl)
      · dsimp only [oblS]
        rintro w9 h9
        go_simp
        exact ⟨Below.refl _ _, rfl⟩
      dsimp only [List.nil_append, List.cons_append]
      apply qs_any (mask := [true, false, false, false, true]) (S := (Below wa.heap.size wa)) (m := (fun w => w.heap.size)) (T := fun v W => W.ownsRow wa.heap.size 48 5 v (q.tn - k) ((q.tests.drop k).flatMap teEnc)) (hT := fun v w w' hb h => own_keepB h fun g hg => hb.block g (h.lt g hg).2) (hf := by kernel_rfl) (hS := by rfl) (hm := by rfl) (hg := by kernel_rfl) (hk := by kernel_rfl)
      · dsimp only [oblS]
        intro v63
        rintro w9 ⟨h9, t63⟩ T' hT'
        obtain ⟨g, e0, hg0, hh0⟩ := t63
        subst e0
        obtain ⟨v', w', hrun, hown', hb'⟩ := run_append_empty (P := Tryd.prog) (ty := 25) (enc := teEnc) Tryd.underlying25 hti htz hts htb rfl teEnc_len (by decide) teEnc_one hh0 hg0 (HCut.out w9 h9) (by omega) (by omega)
        exact relUpon_append (.tmp 63) (.tmp 67) 25 rfl rfl rfl hrun hb' (hT' _ _ hown')
      dsimp only [List.nil_append, List.cons_append]
      apply qs_det (mask := [false, false, false, false, false, false]) (S := (Below wa.heap.size wa)) (m := (fun w => w.heap.size)) (hS := by rfl) (hm := by rfl) (hg := by kernel_rfl) (hk := by kernel_rfl)
      · dsimp only [oblS]
        rintro w9 h9
        go_simp
        exact ⟨Below.refl _ _, rfl⟩
      dsimp only [List.nil_append, List.cons_append]
      apply qs_det (mask := [false, false, false, false, false, false, true]) (S := (Below wa.heap.size wa)) (m := (fun w => w.heap.size)) (hS := by rfl) (hm := by rfl) (hg := by kernel_rfl) (hk := by kernel_rfl)
      · dsimp only [oblS]
        rintro w9 h9
        have hc9 := (bcell h9).1
        go_simp
        exact ⟨Below.refl _ _, rfl⟩
      dsimp only [List.nil_append, List.cons_append]
      apply qs_det (mask := [false, false, false, false, false, false, false, false]) (S := (Below wa.heap.size wa)) (m := (fun w => w.heap.size)) (hS := by rfl) (hm := by rfl) (hg := by kernel_rfl) (hk := by kernel_rfl)
      · dsimp only [oblS]
        rintro w9 h9
        go_simp
        exact ⟨Below.refl _ _, rfl⟩
      dsimp only [List.nil_append, List.cons_append]
      apply qs_det (mask := [false, false, false, false, false, false, false, true, true]) (S := (Below wa.heap.size wa)) (m := (fun w => w.heap.size)) (hS := by rfl) (hm := by rfl) (hg := by kernel_rfl) (hk := by kernel_rfl)
      · dsimp only [oblS]
        rintro w9 h9
        go_simp
        exact ⟨Below.refl _ _, rfl⟩
      dsimp only [List.nil_append, List.cons_append]
      apply qs_any (mask := [false, false, false, false, false, true, false, false, false, true]) (S := (Below wa.heap.size wa)) (m := (fun _ => w.heap.size)) (T := fun v W => TuB q w.heap.size X u (.slice q.tA q.tn q.tc) w W ∧ InM 46 9 amEnc w w.heap.size u q.an la W ∧ W.ownsRow wa.heap.size 48 5 v q.tn ((q.tests.drop k ++ q.tests.take k).flatMap teEnc)) (hT := fun v w w' hb h => ⟨h.1.keep hb, h.2.1.keep hb, own_keepB h.2.2 fun g hg => hb.block g (h.2.2.lt g hg).2⟩) (hf := by kernel_rfl) (hS := by rfl) (hm := by rfl) (hg := by kernel_rfl) (hk := by kernel_rfl)
      · dsimp only [oblS]
        intro v68
        rintro w9 ⟨h9, t68⟩ T' hT'
        have hl5 := t68.lt
        obtain ⟨v', w', hrun, hown', hg', hat⟩ := run_append_rows (P := Tryd.prog) (ty := 25) (enc := teEnc) Tryd.underlying25 hti htz hts htb rfl teEnc_len (by decide) teEnc_one t68 (HTake.out w9 h9) (by omega) (by omega) h9.size
        rw [show q.tn - k + k = q.tn by omega] at hown'
        have hk9 : ∀ x, x < wa.heap.size → w'.heap[x]? = wa.heap[x]? := fun x hx => (hg'.block x (by have := h9.size; omega) (fun e => by have := (hl5 x e.symm).1; omega)).trans (h9.block x hx)
        have hb9 : Below w.heap.size w9 w' := (Below.refl _ _).grown hg' (by have := h9.size; omega) fun g e => by have := (hl5 g e).1; omega
        exact relUpon_append (.tmp 68) (.tmp 72) 25 rfl rfl rfl hrun hb9 (hT' _ _ ⟨HBx.out.keepN hXr hk9 ((h9.mono hbr).trans hb9), HOt.out.keepN hk9, hown'⟩)
      dsimp only [List.nil_append, List.cons_append]
      apply qs_det (mask := [false, false, false, false, false, false, false, false, false, false, false]) (S := (Below (w.heap.size) wa)) (m := (fun w => w.heap.size)) (hS := by rfl) (hm := by rfl) (hg := by kernel_rfl) (hk := by kernel_rfl)
      · dsimp only [oblS]
        rintro w9 h9
        go_simp
        exact ⟨Below.refl _ _, rfl⟩
      dsimp only [List.nil_append, List.cons_append]
      apply qs_any (mask := [false, false, false, false, false, false, false, false, false, false, true, true]) (S := (Below (w.heap.size) wa)) (m := (fun _ => w.heap.size)) (T := fun _ W => ∃ A c, TuB q w.heap.size X u (.slice A q.tn c) w W ∧ InM 46 9 amEnc w w.heap.size u q.an la W ∧ W.ownsRow wa.heap.size 48 5 (.slice A q.tn c) q.tn ((q.tests.drop k ++ q.tests.take k).flatMap teEnc)) (hT := fun v w w' hb ⟨A, c, h⟩ => ⟨A, c, h.1.keep hb, h.2.1.keep hb, own_keepB h.2.2 fun g hg => hb.block g (h.2.2.lt g hg).2⟩) (hf := by kernel_rfl) (hS := by rfl) (hm := by rfl) (hg := by kernel_rfl) (hk := by kernel_rfl)
      · dsimp only [oblS]
        intro v73
        rintro w9 ⟨h9, t73⟩ T' hT'
        obtain ⟨hbx, hot, ho⟩ := t73
        obtain ⟨A, c, e0, _⟩ := own_rows teEnc_len (by decide) ho
        subst e0
        have x9 := cell_of_heap (o := 3) hbx.xb
        have f9 := frozen_of_heap (o := 3) hbx.xb
        simp only [List.getElem?_toArray, List.getElem?_cons_zero, List.getElem?_cons_succ] at x9
        have l9 := lt_of_cell x9
        have HB := hidp hbx
        have HO := hidp ho
        have HT := hidp hot
        clear hbx hot ho
        go_simp
        exact ⟨(Below.refl _ _).setCell (p := ⟨X, 3, none⟩) hbX _, hT' _ _ ⟨A, c, HB.out.setV _, HT.out.set HB.out.xb (by decide), own_set_box HO.out HB.out.xb (by decide)⟩⟩
      dsimp only [List.nil_append, List.cons_append]
      refine qs_end [true, false, false, false, false, true, false, false, false, false, true, false, false] (by kernel_rfl) (by kernel_rfl) ?_
      dsimp only [finQ]
      -- rintro v63 v68 v73 vn12 w8 ⟨hb, tn12⟩
      rintro v63 v68 v73 vn12 w8 ⟨hb8, A8, c8, htu8, hot8, ho8⟩
      have HTu8 := hidp htu8
      have HA8 := hidp hot8
      have HO8 := hidp ho8
      clear htu8 hot8 ho8 hb8 x0 x1 x2 x3 l0 hcut hcut2
      go_simp
      go_wp2_with fail
      go_meet
      exact ⟨_, _, HTu8.out, HA8.out, .inr (own_lower HO8.out (by have := HBx.out.lt; omega)), drop_take_perm _ _⟩
    · have hn' : ¬ ((0 : Int) < q.tn) := by omega
      go_wp2_with fail
      go_meet
      exact ⟨_, _, HBx.out, HOt.out, .inl ⟨_, _, rfl, HIn.out.2.2.2⟩, List.Perm.refl _⟩
  case rest =>
  obtain ⟨v, lt, htu, hin, hin2, hpe2⟩ := hcut
  rename World => wb
  have HPe2 := hidp hpe2
  clear hpe2 HBx HOt x0 x1 x2 x3 l0
  have HBx := hidp htu
  have HAt := hidp hin
  have HTe := hidp hin2
  clear htu hin hin2
  go_upto_region 16 with fail
  go_cut [84] (fun s84 wx => s84 = .bool (decide (0 < fn ∧ checkF l = 0)) ∧ TuB q w.heap.size X u v w wx ∧ InM 46 9 amEnc w w.heap.size u q.an la wx ∧ InM 48 5 teEnc w w.heap.size v q.tn lt wx)
  case first =>
    by_cases hn : 0 < fn
    · have hn' : (0 : Int) < fn := by omega
      go_wp2_with fail
      refine (fCheck_any FA fn fc l _ (HFa.out _ HBx.out.bel)).mono ?_
      rintro e w8 ⟨rfl, hb8⟩
      have HB8 := hidp hb8
      clear hb8
      by_cases hc : checkF l = 0
      · have hcb : (checkF l == 0) = true := by simp [hc]
        have HC := hidp hc
        clear hc
        go_wp2_with fail
        go_meet
        exact ⟨congrArg Value.bool (decide_eq_true (p := 0 < fn ∧ checkF l = 0) ⟨hn, HC.out⟩).symm, HBx.out.keep HB8.out, HAt.out.keep HB8.out, HTe.out.keep HB8.out⟩
      · have hcb : (checkF l == 0) = false := by simp [hc]
        have HC := hidp hc
        clear hc
        go_wp2_with fail
        go_meet
        exact ⟨congrArg Value.bool (decide_eq_false (p := 0 < fn ∧ checkF l = 0) (fun h => HC.out h.2)).symm, HBx.out.keep HB8.out, HAt.out.keep HB8.out, HTe.out.keep HB8.out⟩
    · have hn' : ¬ ((0 : Int) < fn) := by omega
      go_wp2_with fail
      go_meet
      exact ⟨congrArg Value.bool (decide_eq_false (p := 0 < fn ∧ checkF l = 0) (fun h => hn h.1)).symm, HBx.out, HAt.out, HTe.out⟩
  case rest =>
  obtain ⟨rfl, htu, hin, hin2⟩ := hcut
  rename World => wd
  clear HBx HAt HTe
  have HBx := hidp htu
  have HAt := hidp hin
  have HTe := hidp hin2
  clear htu hin hin2
  go_upto_if 84 with fail
  go_cut [12] (fun s12 wx => ∃ MA mc m, s12 = .slice MA fn mc ∧ fSl wx wx.heap.size MA fn mc m ∧ (∀ f, f ∈ l ↔ f ∈ m) ∧ (∀ k t known, atF l k t known = atF m k t known) ∧ Below wd.heap.size wd wx)
  case first =>
    by_cases hc : 0 < fn ∧ checkF l = 0
    · rw [decide_eq_true hc]
      obtain ⟨hn, hc0⟩ := hc
      have HC0 := hidp hc0
      have hn' : (0 : Int) < fn := by omega
      obtain ⟨k, hk, hrem⟩ := rem_nat (n := fn) hz0.1 hn
      have hw1 : IntKind.u64.wrap (fn : Int) = fn := u64_in (by omega)
      have hw2 : IntKind.i64.wrap (k : Int) = k := IntWalk.i64_in _ (by omega)
      have hw3 : IntKind.u64.wrap (k : Int) = k := u64_in (by omega)
      have hcut := fun W => run_cut_low (P := Tryd.prog) W Tryd.underlying28 hi FA fn fc k .i64 (k : Int) rfl (by omega)
      have hcut2 := fun W => run_cut_high (P := Tryd.prog) W Tryd.underlying28 hi FA fn fc k .i64 (k : Int) rfl (by omega)
      rw [hs] at hcut
      have hbr : w.heap.size ≤ wd.heap.size := HBx.out.bel.size
      have HCut : Hid (∀ W', Below wd.heap.size wd W' → Rows 8 (Rep.flat fEnc) W' W'.heap.size (cutA FA fc k 8) (fn - k) (fc - k) (l.drop k)) := fun W' h => (HFa.out _ (HBx.out.bel.trans (h.mono hbr))).cut (by omega)
      have HTake : Hid (∀ W', Below wd.heap.size wd W' → Rows 8 (Rep.flat fEnc) W' W'.heap.size FA k fc (l.take k)) := fun W' h => (HFa.out _ (HBx.out.bel.trans (h.mono hbr))).take (by omega)
      clear hc0
      go_wp2_with fail

      refine wp_region_QS (wd.heap.size) (fun k => k == 8) (fun k => k == 0 || k == 4 || k == 8 || k == 9) (fun k => false) (Nat.le_refl _) (by kernel_rfl) (by kernel_rfl) (by kernel_rfl) (by kernel_rfl) ?_
      apply qs_any (mask := []) (S := (Below (wd.heap.size) wd)) (m := (fun w => w.heap.size)) (T := fun v W => ∃ g, v = .slice (some ⟨g, 0, none⟩) 0 0 ∧ wd.heap.size ≤ g ∧ W.heap[g]? = some (.cells #[] 57 (0, 0))) (hT := fun v w w' hb ⟨g, hv, hg, hh⟩ => ⟨g, hv, hg, (hb.block _ (lt_of_heap hh)).trans hh⟩) (hf := by kernel_rfl) (hS := by rfl) (hm := by rfl) (hg := by kernel_rfl) (hk := by kernel_rfl)
      · dsimp only [oblS]
        rintro w9 h9 T' hT'
        go_simp
        exact ⟨(Below.refl _ w9).alloc (Nat.le_refl _) _, hT' _ _ ⟨_, rfl, h9.size, World.alloc_heap_new w9 _⟩⟩
      dsimp only [List.nil_append, List.cons_append]
      apply qs_det (mask := [false]) (S := (Below (wd.heap.size) wd)) (m := (fun w => w.heap.size)) (hS := by rfl) (hm := by rfl) (hg := by kernel_rfl) (hk := by kernel_rfl)
      · dsimp only [oblS]
        rintro w9 h9
        go_simp
        exact ⟨Below.refl _ _, rfl⟩
      dsimp only [List.nil_append, List.cons_append]
      apply qs_det (mask := [false, false]) (S := (Below (wd.heap.size) wd)) (m := (fun w => w.heap.size)) (hS := by rfl) (hm := by rfl) (hg := by kernel_rfl) (hk := by kernel_rfl)
      · dsimp only [oblS]
        rintro w9 h9
        go_simp
        exact ⟨Below.refl _ _, rfl⟩
      dsimp only [List.nil_append, List.cons_append]
      apply qs_det (mask := [false, true, true]) (S := (Below (wd.heap.size) wd)) (m := (fun w => w.heap.size)) (hS := by rfl) (hm := by rfl) (hg := by kernel_rfl) (hk := by kernel_rfl)
      · dsimp only [oblS]
        rintro w9 h9
        go_simp
        exact ⟨Below.refl _ _, rfl⟩
      dsimp only [List.nil_append, List.cons_append]
      apply qs_any (mask := [true, false, false, true]) (S := (Below (wd.heap.size) wd)) (m := (fun w => w.heap.size)) (T := fun v W => W.ownsRow wd.heap.size 57 8 v (fn - k) ((l.drop k).flatMap fEnc)) (hT := fun v w w' hb h => own_keepB h fun g hg => hb.block g (h.lt g hg).2) (hf := by kernel_rfl) (hS := by rfl) (hm := by rfl) (hg := by kernel_rfl) (hk := by kernel_rfl)
      · dsimp only [oblS]
        intro v90
        rintro w9 ⟨h9, t90⟩ T' hT'
        obtain ⟨g, e0, hg0, hh0⟩ := t90
        subst e0
        obtain ⟨v', w', hrun, hown', hb'⟩ := run_append_empty (P := Tryd.prog) (ty := 28) (enc := fEnc) Tryd.underlying28 hi hz hs hbb rfl fEnc_len (by decide) fEnc_one hh0 hg0 (HCut.out w9 h9) (by omega) (by omega)
        exact relUpon_append (.tmp 90) (.tmp 93) 28 rfl rfl rfl hrun hb' (hT' _ _ hown')
      dsimp only [List.nil_append, List.cons_append]
      apply qs_det (mask := [false, false, false, false, false]) (S := (Below (wd.heap.size) wd)) (m := (fun w => w.heap.size)) (hS := by rfl) (hm := by rfl) (hg := by kernel_rfl) (hk := by kernel_rfl)
      · dsimp only [oblS]
        rintro w9 h9
        go_simp
        exact ⟨Below.refl _ _, rfl⟩
      dsimp only [List.nil_append, List.cons_append]
      apply qs_det (mask := [false, false, false, false, false, false]) (S := (Below (wd.heap.size) wd)) (m := (fun w => w.heap.size)) (hS := by rfl) (hm := by rfl) (hg := by kernel_rfl) (hk := by kernel_rfl)
      · dsimp only [oblS]
        rintro w9 h9
        go_simp
        exact ⟨Below.refl _ _, rfl⟩
      dsimp only [List.nil_append, List.cons_append]
      apply qs_det (mask := [false, false, false, false, false, true, true]) (S := (Below (wd.heap.size) wd)) (m := (fun w => w.heap.size)) (hS := by rfl) (hm := by rfl) (hg := by kernel_rfl) (hk := by kernel_rfl)
      · dsimp only [oblS]
        rintro w9 h9
        go_simp
        exact ⟨Below.refl _ _, rfl⟩
      dsimp only [List.nil_append, List.cons_append]
      apply qs_any (mask := [false, false, false, false, true, false, false, true]) (S := (Below (wd.heap.size) wd)) (m := (fun _ => wd.heap.size)) (T := fun v W => W.ownsRow wd.heap.size 57 8 v fn ((l.drop k ++ l.take k).flatMap fEnc)) (hT := fun v w w' hb h => own_keepB h fun g hg => hb.block g (h.lt g hg).2) (hf := by kernel_rfl) (hS := by rfl) (hm := by rfl) (hg := by kernel_rfl) (hk := by kernel_rfl)
      · dsimp only [oblS]
        intro v94
        rintro w9 ⟨h9, t94⟩ T' hT'
        obtain ⟨v', w', hrun, hown', hg', hat⟩ := run_append_rows (P := Tryd.prog) (ty := 28) (enc := fEnc) Tryd.underlying28 hi hz hs hbb rfl fEnc_len (by decide) fEnc_one t94 (HTake.out w9 h9) (by omega) (by omega) h9.size
        rw [show fn - k + k = fn by omega] at hown'
        exact relUpon_append (.tmp 94) (.tmp 97) 28 rfl rfl rfl hrun ((Below.refl _ _).grown hg' h9.size fun g e => (t94.lt g e).1) (hT' _ _ hown')
      dsimp only [List.nil_append, List.cons_append]
      apply qs_any (mask := [false, false, false, false, false, false, false, false, true]) (S := (Below (wd.heap.size) wd)) (m := (fun w => w.heap.size)) (T := fun v W => W.ownsRow wd.heap.size 57 8 v fn ((l.drop k ++ l.take k).flatMap fEnc)) (hT := fun v w w' hb h => own_keepB h fun g hg => hb.block g (h.lt g hg).2) (hf := by kernel_rfl) (hS := by rfl) (hm := by rfl) (hg := by kernel_rfl) (hk := by kernel_rfl)
      · dsimp only [oblS]
        intro v98
        rintro w9 ⟨h9, t98⟩ T' hT'
        go_simp
        exact ⟨Below.refl _ _, hT' _ _ t98⟩
      dsimp only [List.nil_append, List.cons_append]
      refine qs_end [true, false, false, false, true, false, false, false, false, false] (by kernel_rfl) (by kernel_rfl) ?_
      dsimp only [finQ]
      -- rintro v90 v94 v98 v12 w8 ⟨⟨hb, t98⟩, t12⟩
      rintro v90 v94 v98 v12 w8 ⟨⟨hb8, ho8⟩, ho12⟩
      obtain ⟨A8, c8, rfl, hr8⟩ := own_rows fEnc_len (by decide) ho12
      have HR8 := hidp hr8
      have HB8 := hidp hb8
      clear hr8 ho8 ho12 hb8 hcut hcut2
      go_simp
      go_wp2_with fail
      go_meet
      have hm : ∀ f, f ∈ l ↔ f ∈ l.drop k ++ l.take k := fun f => (drop_take_perm l k).mem_iff.symm
      exact ⟨_, _, _, rfl, HR8.out, hm, fun _ _ _ => atF_perm (checkF_tot HC0.out) hm _ _ _, HB8.out⟩
    · rw [decide_eq_false hc]
      clear hc
      go_wp2_with fail
      go_meet
      exact ⟨_, _, _, rfl, HFa.out _ HBx.out.bel, fun _ => Iff.rfl, fun _ _ _ => rfl, Below.refl _ _⟩
  case rest =>
  obtain ⟨MA, mc, m, rfl, hfm, hme, hat, hbd⟩ := hcut
  rename World => we
  have HMe := hidp hme
  have HAtF := hidp hat
  have HBe : Hid (TuB q w.heap.size X u v w we) := HBx.out.keep hbd
  have HAe : Hid (InM 46 9 amEnc w w.heap.size u q.an la we) := HAt.out.keep hbd
  have HTE : Hid (InM 48 5 teEnc w w.heap.size v q.tn lt we) := HTe.out.keep hbd
  have HFm := hidp hfm
  clear hme hat hbd hfm HBx HAt HTe
  obtain ⟨x0, x1, x2, x3, l0⟩ := HBe.out.qb.cells
  go_wp2_with fail
  refine (rows_any q FA fn fc l _ (HQu.out _ HBe.out.bel) (HWd.out _ HBe.out.bel) (HFa.out _ HBe.out.bel) (by omega) (fun _ => few_ful HPw.out rfl)).mono ?_
  rintro e z1 ⟨A1, n1, c1, rfl, hr1, hb1⟩
  have HB1 := hidp (HBe.out.keep hb1)
  have HA1 := hidp (HAe.out.keep hb1)
  have HT1 := hidp (HTE.out.keep hb1)
  have HM1 : Hid (fSl z1 z1.heap.size MA fn mc m) := HFm.out.keep (Rep.flat_stable _) hb1.size hb1.block
  have HR1 := hidp hr1
  clear hb1 hr1 x0 x1 x2 x3 l0 HBe HAe HTE HFm
  obtain ⟨UA, uc, hu, hru⟩ := HA1.out.rows amEnc_len (by decide) HB1.out.bel
  obtain ⟨VA, vc, hv, hrv⟩ := HT1.out.rows teEnc_len (by decide) HB1.out.bel
  subst hu hv
  obtain ⟨X0, X1, X2, X3, lX⟩ := HB1.out.cells
  have hqi := HQu.out _ HB1.out.bel
  have HQx : Hid (QuIn (⟨q.nA, q.nn, q.nc, q.names, q.sA, q.sn, q.sc, q.shows, UA, q.an, uc, la, VA, q.tn, vc, lt⟩ : Qu) z1 z1.heap.size) := ⟨hqi.1, hqi.2.1, hru, hrv⟩
  have HTurn : Hid (TurnedJ q (⟨q.nA, q.nn, q.nc, q.names, q.sA, q.sn, q.sc, q.shows, UA, q.an, uc, la, VA, q.tn, vc, lt⟩ : Qu)) := ⟨rfl, rfl, HPe.out, HPe2.out⟩
  have hl8 : q.names.length ≤ 100 ∧ q.shows.length ≤ 100 ∧ la.length ≤ 100 ∧ lt.length ≤ 100 := by
    obtain ⟨h1, h2, h3, h4⟩ := HLen.out
    have h5 := HPe.out.length_eq
    have h6 := HPe2.out.length_eq
    exact ⟨by omega, by omega, by omega, by omega⟩
  have HL8 := hidp hl8
  clear hru hrv hqi hl8
  go_wp2_with fail
  refine (normal_any (⟨q.nA, q.nn, q.nc, q.names, q.sA, q.sn, q.sc, q.shows, UA, q.an, uc, la, VA, q.tn, vc, lt⟩ : Qu) _ HQx.out HL8.out).mono ?_
  rintro e z2 ⟨y, rfl, hqy, hren, hb2⟩
  have HB2 := hidp (HB1.out.bel.trans (hb2.mono HB1.out.bel.size))
  have HM2 : Hid (fSl z2 z2.heap.size MA fn mc m) := HM1.out.keep (Rep.flat_stable _) hb2.size hb2.block
  have HR2 := hidp (HR1.out.keep hb2)
  have HQy := hidp hqy
  have HRen := hidp hren
  have hym : (fulJ y m).length ≤ 65535 := by
    refine few_ful (q := q) ?_ (renamed_len HTurn.out hren HCk.out)
    have hd : domR m = domR l := str_ext linJ (domR_str m) (domR_str l) fun k => by
      rw [domR_mem, domR_mem]
      unfold DomOf
      simp only [HMe.out]
    rw [hd]
    exact HPw.out
  have HYm := hidp hym
  have hyc : checkJ wdJ y = true := renamed_check HTurn.out hren HCk.out
  have HLaw : Hid (rowsV q l = rowsV y m) := by
    show _ = _
    rw [rowsV_ok HCk.out, rowsV_ok hyc]
    exact turned_law HTurn.out hren HCk.out HAtF.out HMe.out
  have HEq : Hid (rowsE q = 0 ∧ rowsE y = 0) := by
    show _ ∧ _
    unfold rowsE
    rw [HCk.out, hyc]
    exact ⟨rfl, rfl⟩
  clear X0 X1 X2 X3 lX hb2 hqy hren hym hyc
  go_wp2_with fail
  refine (rows_any y MA fn mc m _ HQy.out (HWd.out _ HB2.out) HM2.out (by omega) (fun _ => HYm.out)).mono ?_
  rintro e z3 ⟨A3, n3, c3, rfl, hr3, hb3⟩
  have HB3 := hidp (HB2.out.trans (hb3.mono HB2.out.size))
  have HR3 := hidp hr3
  have HR2' := hidp (HR2.out.keep hb3)
  rw [HEq.out.1, HEq.out.2]
  clear hb3 hr3
  go_wp2_with fail
  refine (r51Same_any A1 A3 n1 n3 c1 c3 (rowsV q l) (rowsV y m) _ HR2'.out HR3.out).mono ?_
  rintro e z4 ⟨rfl, hb4⟩
  have HB4 := hidp (HB3.out.trans (hb4.mono HB3.out.size))
  rw [decide_eq_true HLaw.out]
  clear hb4
  go_wp2_with fail
  go_ret
  exact ⟨rfl, HB4.out⟩
end Go.Proofs.YtbegdcjofnfkiaaDoor

end
section
/- The order of atoms and tests, with the variables in their order, and that of facts in a valid list have no effect on the rows of a valid query. -/
namespace Go.Proofs.YtbegdcjofnfkiaaDoor
open Go.RowKit Go.Shelf Go.ChangeShapes Go.WideShapes Go.ChangeAt

theorem joinTurned_door_met (os : Os) (args : Array Value) : laidMetH Tryd.prog [("sizar/query.kindWords", Rows.laid_sizar_query_kindWords)] ((World.doorLaid Tryd.prog 600 os).forCall (fun _ _ => 0) ⟨#[], args, []⟩).memory :=
  laidMetH_of_parts3 (fuel := 8) (laidMet_of_run' 8 (by kernel_rfl) (by kernel_rfl)) (by kernel_rfl) (by kernel_rfl)
set_option maxRecDepth 100000 in
theorem joinTurned_lifted (os : Os) (started : os.Started) (H : Type) (enc : TypeId × Value → H) :
    ReturnsInHanded {} Tryd.checked os 6 .any (fun w args => (Rows.joinTurnedSpec.pre enc Tryd.prog Tryd.f6 [] false w args ∧ laidMetH Tryd.prog [("sizar/query.kindWords", Rows.laid_sizar_query_kindWords)] w) ∧ sizedMet enc Tryd.prog Tryd.f6 (OpenSpec.ofChange Rows.joinTurnedSpec) false w args)
      (Rows.joinTurnedSpec.post enc Tryd.prog Tryd.f6 false true false false) := by
  have hc := turned_any
  refine returnsInHanded_of_change_and (C := Tryd.checked) (X := fun w _ => laidMetH Tryd.prog [("sizar/query.kindWords", Rows.laid_sizar_query_kindWords)] w) (fun _ _ _ hh h => h.of_heap hh) Tryd.own started (by kernel_rfl) Tryd.func6
    (ChangeSpec.witness_shaped (enc := enc) (C := Tryd.checked) (os := os) (X := fun w _ => laidMetH Tryd.prog [("sizar/query.kindWords", Rows.laid_sizar_query_kindWords)] w) false (World.doorLaid Tryd.prog 600 os) #[.agg #[.slice none 0 0, .slice none 0 0, .slice none 0 0, .slice none 0 0], .slice none 0 0, .int .u64 0] 8 rfl (World.shaped_of_RefB (by kernel_rfl) (by kernel_rfl)) (by kernel_rfl) (by kernel_rfl) (by kernel_rfl) (joinTurned_door_met os _)) ?_
  intro W base args ds gs before hval0 hW hcnd hsz hL _
  have hval : ∀ (j : Nat) t v, Tryd.f6.params[j]? = some t → args[j]? = some v → Value.okWide Tryd.prog W .any base t v := hval0
  have hW' := hW
  obtain ⟨p, q, hA0, hV, rfl, hfz, hnd⟩ := hW
  obtain ⟨rfl, rfl⟩ := trodVars_none hV
  have hA : DataW.TrodAll enc Tryd.prog W 0 (fun _ => true) true Tryd.f6.params.toList args.toList ds p := hA0
  have hT0 := hA
  have hkk := words_of_laid hL
  simp only [List.append_nil] at hW'
  rw [Tryd.params6] at hT0 hval
  obtain ⟨v0, vs0, d0, ds0, p0, q0, e0, f0, g0, h0, hT1⟩ := trodAll_cons hT0
  obtain ⟨v1, vs1, d1, ds1, p1, q1, e1, f1, g1, h1, hT2⟩ := trodAll_cons hT1
  subst e1 f1 g1
  obtain ⟨v2, vs2, d2, ds2, p2, q2, e2, f2, g2, h2, hT3⟩ := trodAll_cons hT2
  subst e2 f2 g2
  obtain ⟨e9, f9, g9⟩ := trodAll_nil hT3
  subst e9 f9 g9
  obtain rfl : args = #[v0, v1, v2] := by cases args; simp_all
  subst f0 g0
  clear e0
  obtain ⟨q0, rfl, r0⟩ := open_query (hval 0 27 v0 rfl rfl) h0 (light_arg hsz (j := 0) rfl rfl)
  obtain ⟨A1, n1, c1, l1, rfl, r1, z1⟩ := open_facts (hval 1 28 v1 rfl rfl) h1 (light_arg hsz (j := 1) rfl rfl)
  obtain ⟨z2, rfl, rfl, rfl, wf2⟩ := open_int Tryd.underlying60 (hval 2 60 v2 rfl rfl) h2
  refine (hc q0 A1 n1 c1 l1 z2 W r0 hkk r1 (u64_wf wf2)).mono fun e W' ⟨he, hb⟩ => ?_
  subst he
  exact ⟨_, rfl, law_post Tryd.laidOut hW' hA (by rfl) rfl (by kernel_rfl) Tryd.underlying4 (of_decide_eq_true (by kernel_rfl)) hb⟩

theorem joinTurned_holds : Rows.JoinTurnedSaid :=
  OpenClaim.holds_of_wide 6 Tryd.f6 rfl rfl rfl rfl rfl rfl rfl ⟨rfl, rfl, rfl, rfl, rfl⟩ rfl rfl rfl rfl rfl (by kernel_rfl) Tryd.func6 (by kernel_rfl)
    (of_decide_eq_true (by kernel_rfl)) (by unfold Func.isWrapper; first | (rw [if_pos (by decide +kernel)]; kernel_rfl) | (rw [if_neg (by decide +kernel)]; exact ⟨rfl, rfl⟩))
    (fun os started H enc _ => joinTurned_lifted os started H enc)
theorem joinTurned_plain (f : FuncId) (fn : Func) (hf : Tryd.pinned.checked.prog.funcNamed "sizar/sizarlaw51.JoinTurned" = some f) (hfn : Tryd.pinned.checked.prog.funcs[f]? = some fn) :
    false = Tryd.pinned.checked.prog.looks [] ∧ ∀ (j : Nat) t, fn.params[j]? = some t → Tryd.pinned.checked.prog.wantsStandIn t = false := by
  obtain rfl : f = 6 := Option.some.inj ((show Tryd.prog.funcNamed "sizar/sizarlaw51.JoinTurned" = some 6 by kernel_rfl).symm.trans hf) |>.symm
  obtain rfl : fn = Tryd.f6 := (Option.some.inj (Tryd.func6.symm.trans hfn)).symm
  refine ⟨by kernel_rfl, fun j t ht => ?_⟩
  rw [Tryd.params6] at ht
  have hm : t ∈ [27, 28, 60] := by simpa using Array.mem_of_getElem? ht
  have hall : ([27, 28, 60].all fun u => !Tryd.prog.wantsStandIn u) = true := by kernel_rfl
  exact (show Tryd.prog.wantsStandIn t = false by simpa using List.all_eq_true.1 hall t hm)
theorem turned : Rows.JoinTurnedCardSaid :=
  Claim7.holds_tied_plain_at .later [] _ _ _ _ joinTurned_holds (fun _ h => by cases h) (by kernel_rfl) (fun _ h => by cases h) joinTurned_row_tie rfl ⟨rfl, rfl⟩ (by kernel_rfl) rfl joinTurned_plain (by kernel_rfl)
#print axioms turned
end Go.Proofs.YtbegdcjofnfkiaaDoor

end
