/- PagesTurned walked (printed by tools/gen144.py). -/
import Derived.Test.YtpnfpdkoeednhaaAP14
import Derived.Test.YtpnfpdkoeednhaaA29
import Derived.Test.YtpnfpdkoeednhaaME
import Derived.Deep.DeepCutAuto
import Derived.Deep.CutBlock
import Derived.Deep.CutRange
import Derived.BigRegion
namespace Go.Proofs.Ytpnfpdkoeednhaa
open Go.RowKit Go.Shelf Go.Sort

set_option maxRecDepth 100000 in
set_option maxHeartbeats 8000000 in
theorem turnedP_any (FA : Option Addr) (fn fc : Nat) (l : List Fc) (z : Int) (w : World) (hl : fSl w w.heap.size FA fn fc l) (hz0 : 0 ≤ z ∧ z ≤ 18446744073709551615) :
    Calls Try.prog 8 #[.slice FA fn fc, .int .u64 z] w fun e w' => e = .returned (.bool true) ∧ Below w.heap.size w w' := by
  obtain ⟨i0, hi, hz, hs, hbb⟩ := info_parts fInfo
  have HFa : Hid (∀ W, Below w.heap.size w W → fSl W W.heap.size FA fn fc l) := fun W h => hl.keep (Rep.flat_stable _) h.size h.block
  have HFn := hidp hl.1
  have hfc := hl.2.1
  have hfc2 := hl.2.2.1
  go_enter Try.func8, Try.ntmps8
  go_wp2_with fail
  refine (sane_any w).mono ?_
  rintro e w1 ⟨rfl, hb1⟩
  have HB1 := hidp hb1
  clear hb1 hl
  by_cases h24 : 24 < fn
  · have hc : (24 : Int) < fn := by omega
    go_wp2_with fail
    go_ret
    exact ⟨rfl, HB1.out⟩
  · have hc : ¬ ((24 : Int) < fn) := by omega
    obtain ⟨k, hk, hrem⟩ := rem_natP (n := fn) hz0.1
    have hw0 : IntKind.i64.wrap ((fn : Int) + 1) = (fn : Int) + 1 := IntWalk.i64_in _ (by omega)
    have hw1 : IntKind.u64.wrap ((fn : Int) + 1) = (fn : Int) + 1 := u64_inP (by omega)
    have hw2 : IntKind.i64.wrap (k : Int) = k := IntWalk.i64_in _ (by omega)
    have hw3 : IntKind.u64.wrap (k : Int) = k := u64_inP (by omega)
    have hne : ¬ ((fn : Int) + 1 = 0) := by omega
    have hpos : (0 : Int) < (fn : Int) + 1 := by omega
    go_wp2_with fail
    refine (pgNew_any w1).mono ?_
    rintro e w2 ⟨s0, rfl, hs0, hps0, hro0, hb2, -, -⟩
    have HB2 := hidp (HB1.out.trans (hb2.mono HB1.out.size))
    have HS0 : Hid (FlS fst0 s0 w2) := ⟨hs0, hps0, hro0⟩
    clear hs0 hps0 hro0 hb2
    go_wp2_with fail
    refine (filled_any s0 FA fn fc l w2 HS0.out (HFa.out _ HB2.out) (by omega)).mono ?_
    rintro e w3 ⟨s, rfl, hf3, hb3, -, -⟩
    obtain ⟨n1, hn1⟩ : ∃ n, (fillF l).acc.length = n := ⟨_, rfl⟩
    rw [hn1]
    obtain ⟨b, hb⟩ : ∃ b, w3.heap.size = b := ⟨_, rfl⟩
    obtain ⟨W3, hW3⟩ : ∃ W, w3.alloc (.cells #[.slice s.pA s.pn s.pc, .slice s.rA s.rn s.rc] 25) = W := ⟨_, rfl⟩
    have c3 : Below w3.heap.size w3 W3 := hW3 ▸ (Below.refl _ w3).alloc (Nat.le_refl _) _
    have g3 : W3.heap[b]? = some (.cells #[.slice s.pA s.pn s.pc, .slice s.rA s.rn s.rc] 25 (0, 0)) := by rw [← hW3, ← hb]; exact World.alloc_heap_new _ _
    have b3 := HB2.out.trans (hb3.mono HB2.out.size)
    have HB3 := hidp (b3.trans (c3.mono b3.size))
    have HS3 := hidp (hf3.later c3)
    have HG3 := hidp g3
    have HN1 := hidp hn1
    have HBs := hidp hb
    clear hf3 hb3 c3 g3 b3 hn1
    go_wp2_with fail
    clear hb hW3
    have hkn : k ≤ fn := by omega
    have hcut := fun W => run_cut_low (P := Try.prog) W Try.underlying41 hi FA fn fc k .i64 (k : Int) rfl (by omega)
    have hcut2 := fun W => run_cut_high (P := Try.prog) W Try.underlying41 hi FA fn fc k .i64 (k : Int) rfl (by omega)
    rw [hs] at hcut
    have hbr : w.heap.size ≤ W3.heap.size := HB3.out.size
    have HCut : Hid (∀ W', Below W3.heap.size W3 W' → Rows 8 (Rep.flat fEnc) W' W'.heap.size (cutA FA fc k 8) (fn - k) (fc - k) (l.drop k)) := fun W' h => (HFa.out _ (HB3.out.trans (h.mono hbr))).cut (by omega)
    have HTake : Hid (∀ W', Below W3.heap.size W3 W' → Rows 8 (Rep.flat fEnc) W' W'.heap.size FA k fc (l.take k)) := fun W' h => (HFa.out _ (HB3.out.trans (h.mono hbr))).take (by omega)
    obtain ⟨L, hL⟩ : ∃ L, l.drop k ++ l.take k = L := ⟨_, rfl⟩
    have HL := hidp hL
    have HC : Hid ((fillF L).acc.length = n1) := by rw [← HL.out, fill_count (drop_take_permP l k)]; exact HN1.out
    clear hL
    go_cut [8, 9] (fun s8 s9 wx => ∃ s2 X, s8 = .pointer (some ⟨X, 0, none⟩) ∧ s9 = .int .i64 (n1 : Nat) ∧ FlS (fillF L) s2 wx ∧ wx.heap[X]? = some (.cells #[.slice s2.pA s2.pn s2.pc, .slice s2.rA s2.rn s2.rc] 25 (0, 0)) ∧ Below W3.heap.size W3 wx)
    case first =>
      refine wp_region_XS (RF W3) 15 (fun k => k == 13) (fun k => k == 5 || k == 9) (fun k => k == 1 || k == 5 || k == 9 || k == 10 || k == 11 || k == 12) (fun k => k == 0 || k == 1 || k == 2 || k == 3 || k == 4) (RF.tr) (RF.of) (by kernel_rfl) (by kernel_rfl) (by kernel_rfl) (fun d _ _ _ _ h => by cases d <;> exact h) (by kernel_rfl) (by kernel_rfl) (by kernel_rfl) ?_
      dsimp only [List.take, List.drop]
      apply zs_rob (mask := []) (S := (Below W3.heap.size W3)) (m := (fun w => Below w.heap.size w)) (T := fun v w => ∃ s, v = psVal s ∧ FlS fst0 s w ∧ PsTy s w) (hT := fun v w w' hb ⟨s, e, h1, h2⟩ => ⟨s, e, h1.later hb, h2.later hb⟩) (hR := fun v w w' h ⟨s, e, h1, h2⟩ => ⟨s, e, ⟨(h.pages h1.inn h2).1, h1.ps, h1.roots⟩, (h.pages h1.inn h2).2⟩) (hS := by rfl) (hm := by rfl) (hg := by kernel_rfl) (hk := by kernel_rfl)
      · dsimp only [oblS]
        rintro w9 h9 T' hT'
        go_simp
        refine (pgNew_any w9).mono ?_
        rintro e w7 ⟨s, rfl, h1, h2, h3, hb7, _, h5⟩
        exact ⟨_, rfl, hb7, hT' _ _ ⟨s, rfl, ⟨h1, h2, h3⟩, h5⟩⟩
      dsimp only [List.nil_append, List.cons_append]
      apply zs_any (mask := [false]) (S := (Below W3.heap.size W3)) (m := (fun w => Below w.heap.size w)) (T := fun v W => ∃ g, v = .slice (some ⟨g, 0, none⟩) 0 0 ∧ W3.heap.size ≤ g ∧ W.heap[g]? = some (.cells #[] 31 (0, 0))) (hT := fun v w w' hb ⟨g, hv, hg, hh⟩ => ⟨g, hv, hg, (hb.block _ (lt_of_heap hh)).trans hh⟩) (hf := by kernel_rfl) (hS := by rfl) (hm := by rfl) (hg := by kernel_rfl) (hk := by kernel_rfl)
      · dsimp only [oblS]
        rintro w9 h9 T' hT'
        go_simp
        exact ⟨(Below.refl _ w9).alloc (Nat.le_refl _) _, hT' _ _ ⟨_, rfl, h9.size, World.alloc_heap_new w9 _⟩⟩
      dsimp only [List.nil_append, List.cons_append]
      apply zs_det (mask := [false, false]) (S := (Below W3.heap.size W3)) (m := (fun w => Below w.heap.size w)) (hS := by rfl) (hm := by rfl) (hg := by kernel_rfl) (hk := by kernel_rfl)
      · dsimp only [oblS]
        rintro w9 h9
        go_simp
        exact ⟨Below.refl _ _, rfl⟩
      dsimp only [List.nil_append, List.cons_append]
      apply zs_det (mask := [false, false, false]) (S := (Below W3.heap.size W3)) (m := (fun w => Below w.heap.size w)) (hS := by rfl) (hm := by rfl) (hg := by kernel_rfl) (hk := by kernel_rfl)
      · dsimp only [oblS]
        rintro w9 h9
        go_simp
        exact ⟨Below.refl _ _, rfl⟩
      dsimp only [List.nil_append, List.cons_append]
      apply zs_det (mask := [false, false, true, true]) (S := (Below W3.heap.size W3)) (m := (fun w => Below w.heap.size w)) (hS := by rfl) (hm := by rfl) (hg := by kernel_rfl) (hk := by kernel_rfl)
      · dsimp only [oblS]
        rintro w9 h9
        go_simp
        exact ⟨Below.refl _ _, rfl⟩
      dsimp only [List.nil_append, List.cons_append]
      apply zs_any (mask := [false, true, false, false, true]) (S := ((RF W3) W3)) (m := (RF W3)) (T := fun v W => W.ownsRow W3.heap.size 31 8 v (fn - k) ((l.drop k).flatMap fEnc)) (hT := fun v w w' hb h => own_keepB h fun g hg => hb.block g (h.lt g hg).2) (hf := by kernel_rfl) (hS := by rfl) (hm := by rfl) (hg := by kernel_rfl) (hk := by kernel_rfl)
      · dsimp only [oblS]
        intro v34
        rintro w9 ⟨h9, t34⟩ T' hT'
        obtain ⟨g, e0, hg0, hh0⟩ := t34
        subst e0
        have hown : w9.ownsRow W3.heap.size 31 8 (.slice (some ⟨g, 0, none⟩) 0 0) 0 (([] : List Fc).flatMap fEnc) := ⟨by simp, .inr ⟨g, 0, #[], rfl, hg0, hh0, Nat.le_refl _, by unfold maxLen; omega, by simp, by simp⟩⟩
        obtain ⟨v', w', hrun, hown', hg', hat⟩ := run_append_rows (P := Try.prog) (ty := 41) (enc := fEnc) Try.underlying41 hi hz hs hbb rfl fEnc_len (by decide) fEnc_one hown (HCut.out w9 h9.1) (by omega) (by omega) h9.1.size
        rw [Nat.zero_add, List.nil_append] at hown'
        exact relUponZ_append (.tmp 34) (.tmp 37) 41 rfl rfl rfl hrun (RF.grown hown hg' (Nat.le_refl _) h9.1.size) (hT' _ _ hown')
      dsimp only [List.nil_append, List.cons_append]
      apply zs_det (mask := [false, false, false, false, false, false]) (S := ((RF W3) W3)) (m := (fun w => Below w.heap.size w)) (hS := by rfl) (hm := by rfl) (hg := by kernel_rfl) (hk := by kernel_rfl)
      · dsimp only [oblS]
        rintro w9 h9
        go_simp
        exact ⟨Below.refl _ _, rfl⟩
      dsimp only [List.nil_append, List.cons_append]
      apply zs_det (mask := [false, false, false, false, false, false, false]) (S := ((RF W3) W3)) (m := (fun w => Below w.heap.size w)) (hS := by rfl) (hm := by rfl) (hg := by kernel_rfl) (hk := by kernel_rfl)
      · dsimp only [oblS]
        rintro w9 h9
        go_simp
        exact ⟨Below.refl _ _, rfl⟩
      dsimp only [List.nil_append, List.cons_append]
      apply zs_det (mask := [false, false, false, false, false, false, true, true]) (S := ((RF W3) W3)) (m := (fun w => Below w.heap.size w)) (hS := by rfl) (hm := by rfl) (hg := by kernel_rfl) (hk := by kernel_rfl)
      · dsimp only [oblS]
        rintro w9 h9
        go_simp
        exact ⟨Below.refl _ _, rfl⟩
      dsimp only [List.nil_append, List.cons_append]
      apply zs_any (mask := [false, false, false, false, false, true, false, false, true]) (S := ((RF W3) W3)) (m := (RF W3)) (T := fun v W => W.ownsRow W3.heap.size 31 8 v fn (L.flatMap fEnc)) (hT := fun v w w' hb h => own_keepB h fun g hg => hb.block g (h.lt g hg).2) (hf := by kernel_rfl) (hS := by rfl) (hm := by rfl) (hg := by kernel_rfl) (hk := by kernel_rfl)
      · dsimp only [oblS]
        intro v38
        rintro w9 ⟨h9, t38⟩ T' hT'
        obtain ⟨v', w', hrun, hown', hg', hat⟩ := run_append_rows (P := Try.prog) (ty := 41) (enc := fEnc) Try.underlying41 hi hz hs hbb rfl fEnc_len (by decide) fEnc_one t38 (HTake.out w9 h9.1) (by omega) (by omega) h9.1.size
        rw [show fn - k + k = fn by omega, HL.out] at hown'
        exact relUponZ_append (.tmp 38) (.tmp 41) 41 rfl rfl rfl hrun (RF.grown t38 hg' (Nat.le_refl _) h9.1.size) (hT' _ _ hown')
      dsimp only [List.nil_append, List.cons_append]
      apply zs_any (mask := [true, false, false, false, false, false, false, false, false, true]) (S := ((RF W3) W3)) (m := (fun w => Below w.heap.size w)) (T := fun v w => ∃ s, v = .tuple #[psVal s, .int .i64 (n1 : Nat)] ∧ FlS (fillF L) s w ∧ ((fillF L).acc = [] → PsTy s w)) (hT := fun v w w' hb ⟨s, e, h1, h2⟩ => ⟨s, e, h1.later hb, fun h => (h2 h).later hb⟩) (hf := by kernel_rfl) (hS := by rfl) (hm := by rfl) (hg := by kernel_rfl) (hk := by kernel_rfl)
      · dsimp only [oblS]
        intro v33 v42
        rintro w9 ⟨⟨h9, t33⟩, t42⟩ T' hT'
        obtain ⟨s0, rfl, hf0, hty⟩ := t33
        obtain ⟨A9, c9, rfl, hr9⟩ := own_rows fEnc_len (by decide) t42
        go_simp
        refine (filled_any s0 A9 fn c9 L w9 hf0 hr9 (by omega)).mono ?_
        rintro e w7 ⟨s, rfl, h1, hb7, h5, _⟩
        exact ⟨_, rfl, hb7, hT' _ _ ⟨s, by rw [HC.out], h1, fun h => by rw [h5 h]; exact hty.later hb7⟩⟩
      dsimp only [List.nil_append, List.cons_append]
      apply zs_any (mask := [false, false, false, false, false, false, false, false, false, false, true]) (S := ((RF W3) W3)) (m := (fun w => Below w.heap.size w)) (T := fun v w => ∃ s, v = .tuple #[psVal s, .int .i64 (n1 : Nat)] ∧ FlS (fillF L) s w ∧ ((fillF L).acc = [] → PsTy s w)) (hT := fun v w w' hb ⟨s, e, h1, h2⟩ => ⟨s, e, h1.later hb, fun h => (h2 h).later hb⟩) (hf := by kernel_rfl) (hS := by rfl) (hm := by rfl) (hg := by kernel_rfl) (hk := by kernel_rfl)
      · dsimp only [oblS]
        intro v43
        rintro w9 ⟨h9, t43⟩ T' hT'
        obtain ⟨s, rfl, h1, h2⟩ := t43
        go_simp
        exact ⟨Below.refl _ _, hT' _ _ ⟨s, rfl, h1, h2⟩⟩
      dsimp only [List.nil_append, List.cons_append]
      apply zs_any (mask := [false, false, false, false, false, false, false, false, false, false, false, true]) (S := ((RF W3) W3)) (m := (fun w => Below w.heap.size w)) (T := fun v w => ∃ s, v = psVal s ∧ FlS (fillF L) s w ∧ ((fillF L).acc = [] → PsTy s w)) (hT := fun v w w' hb ⟨s, e, h1, h2⟩ => ⟨s, e, h1.later hb, fun h => (h2 h).later hb⟩) (hf := by kernel_rfl) (hS := by rfl) (hm := by rfl) (hg := by kernel_rfl) (hk := by kernel_rfl)
      · dsimp only [oblS]
        intro v32
        rintro w9 ⟨h9, t32⟩ T' hT'
        obtain ⟨s, rfl, h1, h2⟩ := t32
        go_simp
        exact ⟨Below.refl _ _, hT' _ _ ⟨s, rfl, h1, h2⟩⟩
      dsimp only [List.nil_append, List.cons_append]
      apply zs_det (mask := [false, false, false, false, false, false, false, false, false, false, false, true, false]) (S := ((RF W3) W3)) (m := (fun w => Below w.heap.size w)) (x := .int .i64 (n1 : Nat)) (hS := by rfl) (hm := by rfl) (hg := by kernel_rfl) (hk := by kernel_rfl)
      · dsimp only [oblS]
        intro v32
        rintro w9 ⟨h9, t32⟩
        obtain ⟨s, rfl, h1, h2⟩ := t32
        go_simp
        exact ⟨Below.refl _ _, rfl⟩
      dsimp only [List.nil_append, List.cons_append]
      apply zs_rob (mask := [false, false, false, false, false, false, false, false, false, false, false, false, false, false]) (S := ((RF W3) W3)) (m := (fun w => Below w.heap.size w)) (T := fun v w => ∃ X, v = .pointer (some ⟨X, 0, none⟩) ∧ W3.heap.size ≤ X ∧ w.heap[X]? = some (.cells #[.slice none 0 0, .slice none 0 0] 25 (0, 0))) (hT := fun v w w' hb ⟨X, e, h1, h2⟩ => ⟨X, e, h1, (hb.block X (lt_of_heap h2)).trans h2⟩) (hR := fun v w w' h ⟨X, e, h1, h2⟩ => ⟨X, e, h1, h.2 X _ _ h2 (by decide)⟩) (hS := by rfl) (hm := by rfl) (hg := by kernel_rfl) (hk := by kernel_rfl)
      · dsimp only [oblS]
        rintro w9 h9 T' hT'
        go_simp
        exact ⟨(Below.refl _ w9).alloc (Nat.le_refl _) _, hT' _ _ ⟨_, rfl, h9.1.size, World.alloc_heap_new w9 _⟩⟩
      dsimp only [List.nil_append, List.cons_append]
      refine zs_end [false, true, false, false, false, true, false, false, false, false, false, false, false, false, false] (by kernel_rfl) (by kernel_rfl) ?_
      dsimp only [finQ]
      rintro v33 v34 v38 v42 v43 v32 v44 v8 w8 ⟨⟨⟨⟨⟨⟨hb, t33⟩, t42⟩, t43⟩, t32⟩, t44⟩, t8⟩
      obtain ⟨s2, rfl, hf2, hty2⟩ := t44
      obtain ⟨X, rfl, hX, hX8⟩ := t8
      have hb8 : Below W3.heap.size W3 w8 := hb.1
      have hfar : ∀ x, PsBl s2 x → x ≠ X := by
        by_cases h0 : (fillF L).acc = []
        · exact (hty2 h0).far hX8
        · refine hf2.inn.inn.unlike ?_ hX8
          have h1 := congrArg List.length hf2.ps
          rw [psV_len] at h1
          have h2 := fill_many L
          have h3 : 0 < (fillF L).acc.length := List.length_pos_iff.2 h0
          omega
      have u0 := lt_of_heap hX8
      have u3 := frozen_of_heap (o := 0) hX8
      have u4 := frozen_of_heap (o := 1) hX8
      have u1 := cell_of_heap (o := 0) hX8
      have u2 := cell_of_heap (o := 1) hX8
      simp only [List.getElem?_toArray, List.getElem?_cons_zero, List.getElem?_cons_succ] at u1 u2
      have HF2 := hidp hf2
      have HX8 := hidp hX8
      have HFar := hidp hfar
      have HB8 := hidp hb8
      clear t43 t32 t42 t33 hf2 hty2 hfar hX8 hb hb8
      go_wp2_with fail
      go_meet
      have hO : Only X w8 ((w8.setCell ⟨X, 0, none⟩ (.slice s2.pA s2.pn s2.pc)).setCell ⟨X, 1, none⟩ (.slice s2.rA s2.rn s2.rc)) := (Only.setCell _ _ _ _).trans (Only.setCell _ _ _ _)
      have hbx := heap_setN (heap_setN HX8.out 0 (.slice s2.pA s2.pn s2.pc)) 1 (.slice s2.rA s2.rn s2.rc)
      exact ⟨s2, X, rfl, rfl, ⟨⟨HF2.out.inn.inn.only hO HFar.out, HF2.out.inn.slim⟩, HF2.out.ps, HF2.out.roots⟩, by simpa using hbx, (HB8.out.setCell (p := ⟨X, 0, none⟩) hX _).setCell (p := ⟨X, 1, none⟩) hX _⟩
    case rest =>
    obtain ⟨s2, X, rfl, rfl, hf2, hX8, hb8⟩ := hcut
    rename World => w8
    have HS1 := hidp (HS3.out.later hb8)
    have hgb := (hb8.block b (lt_of_heap HG3.out)).trans HG3.out
    have HG1 := hidp hgb
    have HS2 := hidp hf2
    have HX8 := hidp hX8
    have HB8 := hidp (HB3.out.trans (hb8.mono hbr))
    clear hf2 hX8 hb8 hcut2 hgb
    by_cases hn : n1 = fn
    · have HE := hidp hn
      have hni : ((n1 : Int) != (fn : Int)) = false := by rw [hn]; simp
      clear hn
      have x0 := cell_of_heap (o := 0) HG1.out
      have x1 := cell_of_heap (o := 1) HG1.out
      have x2 := lt_of_heap HG1.out
      simp only [List.getElem?_toArray, List.getElem?_cons_zero, List.getElem?_cons_succ] at x0 x1
      go_wp2_with fail
      refine (all_any (fillF l) s (n1 : Nat) w8 HS1.out (by rw [← HN1.out, all_lenP, HN1.out, HE.out]; omega)).mono ?_
      rintro e wa ⟨A1, m1, d1, rfl, hr1, hba⟩
      rw [show verB (fillF l).ps (fillF l).roots (n1 : Nat) = true by rw [← HN1.out]; exact (all_ver (fill_inv l) _ (Nat.le_refl _)).1]
      rw [show errP true = 0 from rfl]
      have HR1 := hidp hr1
      have HBa := hidp hba
      have HSa := hidp (HS2.out.later hba)
      have y0 := cell_of_heap (o := 0) ((hba.block X (lt_of_heap HX8.out)).trans HX8.out)
      have y1 := cell_of_heap (o := 1) ((hba.block X (lt_of_heap HX8.out)).trans HX8.out)
      have y2 := lt_of_heap ((hba.block X (lt_of_heap HX8.out)).trans HX8.out)
      simp only [List.getElem?_toArray, List.getElem?_cons_zero, List.getElem?_cons_succ] at y0 y1
      clear x0 x1 x2 hr1 hba
      go_wp2_with fail
      refine (all_any (fillF L) s2 (n1 : Nat) wa HSa.out (by rw [← HC.out, all_lenP, HC.out, HE.out]; omega)).mono ?_
      rintro e wb ⟨A2, m2, d2, rfl, hr2, hbb2⟩
      rw [show verB (fillF L).ps (fillF L).roots (n1 : Nat) = true by rw [← HC.out]; exact (all_ver (fill_inv L) _ (Nat.le_refl _)).1]
      rw [show errP true = 0 from rfl]
      have HR2 := hidp hr2
      have HBb := hidp hbb2
      clear y0 y1 y2 hr2 hbb2
      go_wp2_with fail
      refine (fSame_any A1 A2 m1 m2 d1 d2 _ _ wb (HR1.out.keep fStable HBb.out.size HBb.out.block) HR2.out).mono ?_
      rintro e wc ⟨rfl, hbc⟩
      have HBc := hidp hbc
      clear hbc
      have heq : allB (fillF l).ps (fillF l).roots (n1 : Nat) = allB (fillF L).ps (fillF L).roots (n1 : Nat) := by
        have h1 : (fillF l).acc.length = l.length := by rw [HN1.out, HE.out]; exact HFn.out
        have h2 := fill_turn ((drop_take_permP l k).symm) h1
        rw [HL.out, HN1.out, HC.out] at h2
        exact h2
      rw [decide_eq_true heq]
      go_wp2_with fail
      go_ret
      have b1 := HB8.out.trans (HBa.out.mono HB8.out.size)
      have b2 := b1.trans (HBb.out.mono b1.size)
      exact ⟨rfl, b2.trans (HBc.out.mono b2.size)⟩
    · have hni : ((n1 : Int) != (fn : Int)) = true := by simp; omega
      clear hn
      go_wp2_with fail
      go_ret
      exact ⟨rfl, HB8.out⟩
end Go.Proofs.Ytpnfpdkoeednhaa
