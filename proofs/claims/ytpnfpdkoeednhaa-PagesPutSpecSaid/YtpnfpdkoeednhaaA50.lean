/- PagesPutSpec walked (printed by tools/gen158.py). -/
import Derived.Test.YtpnfpdkoeednhaaA49
import Derived.Test.YtpnfpdkoeednhaaA43
import Derived.Test.YtpnfpdkoeednhaaA46
import Derived.Test.YtpnfpdkoeednhaaA29
namespace Go.Proofs.Ytpnfpdkoeednhaa
open Go.RowKit Go.Shelf Go.Sort

/-- What both Puts hand back is the same. -/
theorem put_same {s x y : Ps} {f : Fc} (hx : putE (psV s) s.roots f = 0 → psV x = (putW (psV s) (lastR s.roots) f).1 ∧ x.roots = s.roots ++ [((putW (psV s) (lastR s.roots) f).2 : Int)]) (hx' : putE (psV s) s.roots f ≠ 0 → x.gs = [] ∧ x.roots = [])
    (hy : putErr s f = 0 → psV y = (putW (psV s) (lastR s.roots) f).1 ∧ y.roots = s.roots ++ [((putW (psV s) (lastR s.roots) f).2 : Int)]) (hy' : putErr s f ≠ 0 → y.gs = [] ∧ y.roots = []) : decide (psV x = psV y ∧ x.roots = y.roots) = true := by
  rw [decide_eq_true_eq]
  by_cases h : putErr s f = 0
  · have h1 := hx h
    have h2 := hy h
    exact ⟨h1.1.trans h2.1.symm, h1.2.trans h2.2.symm⟩
  · have h1 := hx' h
    have h2 := hy' h
    exact ⟨by unfold psV; rw [h1.1, h2.1], h1.2.trans h2.2.symm⟩
set_option maxRecDepth 100000 in
set_option maxHeartbeats 8000000 in
theorem putP_any (s : Ps) (f : Fc) (w : World) (hps : PsIn s w w.heap.size) :
    Calls Try.prog 3 #[psVal s, .agg #[.int .i64 f.key.kind, .int .i64 f.key.subj, .int .i64 f.key.obj, .int .i64 f.val, .int .i64 f.fr, .int .i64 f.to, .int .i64 f.known, .int .i64 f.no]] w fun e w' => e = .returned (.bool true) ∧ Below w.heap.size w w' := by
  obtain ⟨n, hn⟩ : ∃ n, w.heap.size = n := ⟨_, rfl⟩
  obtain ⟨V, hV⟩ : ∃ V, w.alloc (.cells #[.slice s.pA s.pn s.pc, .slice s.rA s.rn s.rc] 25) = V := ⟨_, rfl⟩
  obtain ⟨W, hW⟩ : ∃ W, V.alloc (.cells #[.int .i64 f.key.kind, .int .i64 f.key.subj, .int .i64 f.key.obj, .int .i64 f.val, .int .i64 f.fr, .int .i64 f.to, .int .i64 f.known, .int .i64 f.no] 31) = W := ⟨_, rfl⟩
  have c0 : Below w.heap.size w V := hV ▸ (Below.refl _ w).alloc (Nat.le_refl _) _
  have c1 : Below V.heap.size V W := hW ▸ (Below.refl _ V).alloc (Nat.le_refl _) _
  have z0 : V.heap.size = n + 1 := by rw [← hV]; simp [hn]
  have g0 : W.heap[n]? = some (.cells #[.slice s.pA s.pn s.pc, .slice s.rA s.rn s.rc] 25 (0, 0)) := (c1.block _ (by omega)).trans (by rw [← hV, ← hn]; exact World.alloc_heap_new _ _)
  have g1 : W.heap[n + 1]? = some (.cells #[.int .i64 f.key.kind, .int .i64 f.key.subj, .int .i64 f.key.obj, .int .i64 f.val, .int .i64 f.fr, .int .i64 f.to, .int .i64 f.known, .int .i64 f.no] 31 (0, 0)) := by rw [← hW, ← z0]; exact World.alloc_heap_new _ _
  have cW := c0.trans (c1.mono c0.size)
  have HPs : Hid (∀ W', Below W.heap.size W W' → PsIn s W' W'.heap.size) := fun W' h => hps.later (cW.trans (h.mono cW.size))
  have HP0 := hidp g0
  have HF0 := hidp g1
  have HCW := hidp cW
  have HPw := hidp hps
  clear c0 c1 cW g0 g1 hps
  go_enter Try.func3, Try.ntmps3
  go_wp2_with fail
  clear hV hW hn z0
  refine (sane_any W).mono ?_
  rintro e w1 ⟨rfl, hb1⟩
  have HB1 := hidp hb1
  have HP1 := hidp ((hb1.block _ (lt_of_heap HP0.out)).trans HP0.out)
  clear hb1
  have p0 := cell_of_heap (o := 0) HP1.out
  have p1 := cell_of_heap (o := 1) HP1.out
  have pl := lt_of_heap HP1.out
  simp only [List.getElem?_toArray, List.getElem?_cons_zero, List.getElem?_cons_succ] at p0 p1
  go_wp2_with fail
  refine (few_any s w1 (HPs.out _ HB1.out)).mono ?_
  rintro e w2 ⟨rfl, hb2⟩
  have HB2 := hidp (HB1.out.trans (hb2.mono HB1.out.size))
  obtain ⟨few, hfew⟩ : ∃ f, fewP (psV s) s.roots = f := ⟨_, rfl⟩
  have HF := hidp hfew
  rw [hfew]
  have HP2 := hidp ((HB2.out.block _ (lt_of_heap HP0.out)).trans HP0.out)
  have HF2 := hidp ((HB2.out.block _ (lt_of_heap HF0.out)).trans HF0.out)
  clear hb2 hfew p0 p1 pl
  have p0 := cell_of_heap (o := 0) HP2.out
  have p1 := cell_of_heap (o := 1) HP2.out
  have pl := lt_of_heap HP2.out
  simp only [List.getElem?_toArray, List.getElem?_cons_zero, List.getElem?_cons_succ] at p0 p1
  have f0 := cell_of_heap (o := 0) HF2.out
  have f1 := cell_of_heap (o := 1) HF2.out
  have f2 := cell_of_heap (o := 2) HF2.out
  have f3 := cell_of_heap (o := 3) HF2.out
  have f4 := cell_of_heap (o := 4) HF2.out
  have f5 := cell_of_heap (o := 5) HF2.out
  have f6 := cell_of_heap (o := 6) HF2.out
  have f7 := cell_of_heap (o := 7) HF2.out
  have fl := lt_of_heap HF2.out
  simp only [List.getElem?_toArray, List.getElem?_cons_zero, List.getElem?_cons_succ] at f0 f1 f2 f3 f4 f5 f6 f7
  cases few
  · go_wp2_with fail
    go_ret
    exact ⟨rfl, HCW.out.trans (HB2.out.mono HCW.out.size)⟩
  have HSlim := hidp (few_slim HPw.out HF.out)
  have HT := hidp (few_sum HF.out)
  go_wp2_with fail
  refine (put_any s f w2.heap.size w2 (HPs.out _ HB2.out) (Nat.le_refl _) HSlim.out.1 ⟨by have := HSlim.out.2.1; omega, by have := HSlim.out.2.2; omega⟩).mono ?_
  rintro e w3 ⟨x, rfl, hres, hb3, -⟩
  obtain ⟨pe, hpe⟩ : ∃ e, putE (psV s) s.roots f = e := ⟨_, rfl⟩
  have HPe := hidp hpe
  rw [hpe]
  obtain ⟨X, hX⟩ : ∃ X, w3.heap.size = X := ⟨_, rfl⟩
  obtain ⟨W3, hW3⟩ : ∃ W, w3.alloc (.cells #[.slice x.pA x.pn x.pc, .slice x.rA x.rn x.rc] 25) = W := ⟨_, rfl⟩
  have c3 : Below w3.heap.size w3 W3 := hW3 ▸ (Below.refl _ w3).alloc (Nat.le_refl _) _
  have g3 : W3.heap[X]? = some (.cells #[.slice x.pA x.pn x.pc, .slice x.rA x.rn x.rc] 25 (0, 0)) := by rw [← hW3, ← hX]; exact World.alloc_heap_new _ _
  have hb3' := hb3.trans (c3.mono hb3.size)
  have HB3 := hidp (HB2.out.trans (hb3'.mono HB2.out.size))
  have HX3 := hidp g3
  have HRx := hidp (hres.later c3)
  have HP3 := hidp ((HB3.out.block _ (lt_of_heap HP0.out)).trans HP0.out)
  have HF3 := hidp ((HB3.out.block _ (lt_of_heap HF0.out)).trans HF0.out)
  clear hb3 hb3' hpe c3 g3 hres
  go_upto_region 6 with fail
  clear p0 p1 pl f0 f1 f2 f3 f4 f5 f6 f7 fl hX hW3
  have p0 := cell_of_heap (o := 0) HP3.out
  have p1 := cell_of_heap (o := 1) HP3.out
  have pl := lt_of_heap HP3.out
  simp only [List.getElem?_toArray, List.getElem?_cons_zero, List.getElem?_cons_succ] at p0 p1
  have f0 := cell_of_heap (o := 0) HF3.out
  have f1 := cell_of_heap (o := 1) HF3.out
  have f2 := cell_of_heap (o := 2) HF3.out
  have f3 := cell_of_heap (o := 3) HF3.out
  have f4 := cell_of_heap (o := 4) HF3.out
  have f5 := cell_of_heap (o := 5) HF3.out
  have f6 := cell_of_heap (o := 6) HF3.out
  have f7 := cell_of_heap (o := 7) HF3.out
  have fl := lt_of_heap HF3.out
  simp only [List.getElem?_toArray, List.getElem?_cons_zero, List.getElem?_cons_succ] at f0 f1 f2 f3 f4 f5 f6 f7
  go_wp2_with fail
  refine (r47Put_any s f W3 (HPs.out _ HB3.out) HSlim.out.1 HT.out (by have := HSlim.out.2.1; omega) (by have := HSlim.out.2.2; have := HPw.out.roots.1; omega)).mono ?_
  rintro e w4 ⟨y, rfl, hin, hb4, hy1, hy2⟩
  have HErr : Hid (putErr s f = pe) := by show _ = _; rw [putErr_eq]; exact HPe.out
  rw [HErr.out]
  have HSame := hidp (put_same HRx.out.2.1 HRx.out.2.2 hy1 hy2)
  obtain ⟨Y, hY⟩ : ∃ X, w4.heap.size = X := ⟨_, rfl⟩
  obtain ⟨W4, hW4⟩ : ∃ W, w4.alloc (.cells #[.slice y.pA y.pn y.pc, .slice y.rA y.rn y.rc] 25) = W := ⟨_, rfl⟩
  have c4 : Below w4.heap.size w4 W4 := hW4 ▸ (Below.refl _ w4).alloc (Nat.le_refl _) _
  have g4 : W4.heap[Y]? = some (.cells #[.slice y.pA y.pn y.pc, .slice y.rA y.rn y.rc] 25 (0, 0)) := by rw [← hW4, ← hY]; exact World.alloc_heap_new _ _
  have hb4' := hb4.trans (c4.mono hb4.size)
  have HB4 := hidp (HB3.out.trans (hb4'.mono HB3.out.size))
  have HY4 := hidp g4
  have HX4 := hidp ((hb4'.block _ (lt_of_heap HX3.out)).trans HX3.out)
  have HIx : Hid (∀ W', Below W4.heap.size W4 W' → PsIn x W' W'.heap.size) := fun W' h => (HRx.out.1.inn.later hb4').later h
  have HIy : Hid (∀ W', Below W4.heap.size W4 W' → PsIn y W' W'.heap.size) := fun W' h => (hin.later c4).later h
  have HP4 := hidp ((HB4.out.block _ (lt_of_heap HP0.out)).trans HP0.out)
  clear hb4 hb4' c4 g4 hin hy1 hy2
  go_upto_region 7 with fail
  clear p0 p1 pl f0 f1 f2 f3 f4 f5 f6 f7 fl hY hW4
  have p0 := cell_of_heap (o := 0) HP4.out
  have p1 := cell_of_heap (o := 1) HP4.out
  have pl := lt_of_heap HP4.out
  simp only [List.getElem?_toArray, List.getElem?_cons_zero, List.getElem?_cons_succ] at p0 p1
  have x0 := cell_of_heap (o := 0) HX4.out
  have x1 := cell_of_heap (o := 1) HX4.out
  have xl := lt_of_heap HX4.out
  simp only [List.getElem?_toArray, List.getElem?_cons_zero, List.getElem?_cons_succ] at x0 x1
  have y0 := cell_of_heap (o := 0) HY4.out
  have y1 := cell_of_heap (o := 1) HY4.out
  have yl := lt_of_heap HY4.out
  simp only [List.getElem?_toArray, List.getElem?_cons_zero, List.getElem?_cons_succ] at y0 y1
  refine wp_region_S W4.heap.size 21 (fun _ => false) (Nat.le_refl _) (by kernel_rfl) (by kernel_rfl) (by kernel_rfl) ?_
  dsimp only [List.take, List.drop]
  apply relS_det (mask := []) (x := .agg #[.slice s.pA s.pn s.pc, .slice s.rA s.rn s.rc])
  · rfl
  · kernel_rfl
  · kernel_rfl
  · dsimp only [oblS]
    rintro w9 h9
    have hc9 := (bcell h9).1
    go_simp
    exact ⟨Below.refl _ _, rfl⟩
  dsimp only [List.nil_append, List.cons_append]
  apply relS_det (mask := [true]) (x := .int .i64 (errP (checkP (psV s) s.roots)))
  · rfl
  · kernel_rfl
  · kernel_rfl
  · dsimp only [oblS]
    rintro w9 h9
    have hc9 := (bcell h9).1
    go_simp
    refine (pgCheck_any s w9 (HPs.out w9 (HB4.out.trans (h9.mono HB4.out.size))) HSlim.out.1).mono ?_
    rintro e w7 ⟨rfl, hb7⟩
    exact ⟨_, rfl, hb7, rfl⟩
  dsimp only [List.nil_append, List.cons_append]
  apply relS_det (mask := [false, false]) (x := .agg #[.slice s.pA s.pn s.pc, .slice s.rA s.rn s.rc])
  · rfl
  · kernel_rfl
  · kernel_rfl
  · dsimp only [oblS]
    rintro w9 h9
    have hc9 := (bcell h9).1
    go_simp
    exact ⟨Below.refl _ _, rfl⟩
  dsimp only [List.nil_append, List.cons_append]
  apply relS_det (mask := [false, false, true]) (x := .int .i64 (errP (checkP (psV s) s.roots)))
  · rfl
  · kernel_rfl
  · kernel_rfl
  · dsimp only [oblS]
    rintro w9 h9
    have hc9 := (bcell h9).1
    go_simp
    refine (r47Check_any s w9 (HPs.out w9 (HB4.out.trans (h9.mono HB4.out.size))) HSlim.out.1 HT.out).mono ?_
    rintro e w7 ⟨rfl, hb7⟩
    exact ⟨_, rfl, hb7, rfl⟩
  dsimp only [List.nil_append, List.cons_append]
  apply relS_det (mask := [false, true, false, true]) (x := .bool true)
  · rfl
  · kernel_rfl
  · kernel_rfl
  · dsimp only [oblS]
    rintro w9 h9
    go_simp
    exact ⟨Below.refl _ _, rfl⟩
  dsimp only [List.nil_append, List.cons_append]
  apply relS_det (mask := [false, false, false, false, true]) (x := .bool true)
  · rfl
  · kernel_rfl
  · kernel_rfl
  · dsimp only [oblS]
    rintro w9 h9
    go_simp
    exact ⟨Below.refl _ _, rfl⟩
  dsimp only [List.nil_append, List.cons_append]
  apply relS_detg (mask := [false, false, false, false, false, true]) (t := 31) (want := true) (x := .agg #[.slice x.pA x.pn x.pc, .slice x.rA x.rn x.rc])
  · rfl
  · kernel_rfl
  · kernel_rfl
  · dsimp only [oblS]
    refine ⟨by rfl, ?_⟩
    rintro w9 h9
    have hc9 := (bcell h9).1
    go_simp
    exact ⟨Below.refl _ _, rfl⟩
  dsimp only [List.nil_append, List.cons_append]
  apply relS_detg (mask := [false, false, false, false, false, true, false]) (t := 31) (want := true) (x := .agg #[.slice y.pA y.pn y.pc, .slice y.rA y.rn y.rc])
  · rfl
  · kernel_rfl
  · kernel_rfl
  · dsimp only [oblS]
    refine ⟨by rfl, ?_⟩
    rintro w9 h9
    have hc9 := (bcell h9).1
    go_simp
    exact ⟨Below.refl _ _, rfl⟩
  dsimp only [List.nil_append, List.cons_append]
  apply relS_detg (mask := [false, false, false, false, false, true, true, true]) (t := 31) (want := true) (x := .bool true)
  · rfl
  · kernel_rfl
  · kernel_rfl
  · dsimp only [oblS]
    refine ⟨by rfl, ?_⟩
    rintro w9 h9
    have hc9 := (bcell h9).1
    go_simp
    refine (r47Same_any x y w9 (HIx.out w9 h9) (HIy.out w9 h9)).mono ?_
    rintro e w7 ⟨rfl, hb7⟩
    exact ⟨_, rfl, hb7, by show _ = _; rw [HSame.out]⟩
  dsimp only [List.nil_append, List.cons_append]
  apply relS_det (mask := [false, false, false, false, false, true, false, false, true]) (x := .bool true)
  · rfl
  · kernel_rfl
  · kernel_rfl
  · dsimp only [oblS]
    rintro w9 h9
    go_simp
    exact ⟨Below.refl _ _, rfl⟩
  dsimp only [List.nil_append, List.cons_append]
  apply relS_det (mask := [false, false, false, false, false, false, false, false, false, true]) (x := .bool true)
  · rfl
  · kernel_rfl
  · kernel_rfl
  · dsimp only [oblS]
    rintro w9 h9
    go_simp
    exact ⟨Below.refl _ _, rfl⟩
  dsimp only [List.nil_append, List.cons_append]
  apply relS_detg (mask := [false, false, false, false, false, false, false, false, false, false, true]) (t := 36) (want := true) (x := .int .i64 pe)
  · rfl
  · kernel_rfl
  · kernel_rfl
  · dsimp only [oblS]
    refine ⟨by rfl, ?_⟩
    rintro w9 h9
    go_simp
    exact ⟨Below.refl _ _, rfl⟩
  dsimp only [List.nil_append, List.cons_append]
  apply relS_detg (mask := [false, false, false, false, false, false, false, false, false, false, true, false]) (t := 36) (want := true) (x := .int .i64 pe)
  · rfl
  · kernel_rfl
  · kernel_rfl
  · dsimp only [oblS]
    refine ⟨by rfl, ?_⟩
    rintro w9 h9
    go_simp
    exact ⟨Below.refl _ _, rfl⟩
  dsimp only [List.nil_append, List.cons_append]
  apply relS_detg (mask := [false, false, false, false, false, false, false, false, false, false, true, true, true]) (t := 36) (want := true) (x := .bool true)
  · rfl
  · kernel_rfl
  · kernel_rfl
  · dsimp only [oblS]
    refine ⟨by rfl, ?_⟩
    rintro w9 h9
    go_simp
    exact ⟨Below.refl _ _, rfl⟩
  dsimp only [List.nil_append, List.cons_append]
  apply relS_det (mask := [false, false, false, false, false, false, false, false, false, false, true, false, false, true]) (x := .bool true)
  · rfl
  · kernel_rfl
  · kernel_rfl
  · dsimp only [oblS]
    rintro w9 h9
    go_simp
    exact ⟨Below.refl _ _, rfl⟩
  dsimp only [List.nil_append, List.cons_append]
  apply relS_det (mask := [false, false, false, false, false, false, false, false, false, false, false, false, false, false, true]) (x := .bool true)
  · rfl
  · kernel_rfl
  · kernel_rfl
  · dsimp only [oblS]
    rintro w9 h9
    go_simp
    exact ⟨Below.refl _ _, rfl⟩
  dsimp only [List.nil_append, List.cons_append]
  apply relS_anyg (mask := [false, false, false, false, false, false, false, false, false, false, false, false, false, false, false, true]) (t := 41) (want := true) (T := fun v w => ∃ s, v = psVal s ∧ PsS s w ∧ psV s = [⟨[], []⟩] ∧ s.roots = [0]) (hT := fun v w w' hb ⟨s, e, h1, h2, h3⟩ => ⟨s, e, h1.later hb, h2, h3⟩)
  · rfl
  · kernel_rfl
  · kernel_rfl
  · dsimp only [oblS]
    refine ⟨by rfl, ?_⟩
    rintro w9 h9 T' hT'
    go_simp
    refine (pgNew_any w9).mono ?_
    rintro e w7 ⟨s9, rfl, h1, h2, h3, hb7, -⟩
    exact ⟨_, rfl, hb7, hT' _ _ ⟨s9, rfl, h1, h2, h3⟩⟩
  dsimp only [List.nil_append, List.cons_append]
  apply relS_anyg (mask := [false, false, false, false, false, false, false, false, false, false, false, false, false, false, false, true, false]) (t := 41) (want := true) (T := fun v w => ∃ s, v = psVal s ∧ PsS s w ∧ psV s = [⟨[], []⟩] ∧ s.roots = [0]) (hT := fun v w w' hb ⟨s, e, h1, h2, h3⟩ => ⟨s, e, h1.later hb, h2, h3⟩)
  · rfl
  · kernel_rfl
  · kernel_rfl
  · dsimp only [oblS]
    refine ⟨by rfl, ?_⟩
    rintro w9 h9 T' hT'
    go_simp
    refine (r47New_any w9).mono ?_
    rintro e w7 ⟨s9, rfl, h1, h2, h3, hb7, -⟩
    exact ⟨_, rfl, hb7, hT' _ _ ⟨s9, rfl, h1, h2, h3⟩⟩
  dsimp only [List.nil_append, List.cons_append]
  apply relS_detg (mask := [false, false, false, false, false, false, false, false, false, false, false, false, false, false, false, true, true, true]) (t := 41) (want := true) (x := .bool true)
  · rfl
  · kernel_rfl
  · kernel_rfl
  · dsimp only [oblS]
    intro v42 v43
    refine ⟨by rfl, ?_⟩
    rintro w9 ⟨⟨h9, t42⟩, t43⟩
    obtain ⟨s1, rfl, a1, a2, a3⟩ := t42
    obtain ⟨s2, rfl, b1, b2, b3⟩ := t43
    go_simp
    refine (r47Same_any s1 s2 w9 a1.inn b1.inn).mono ?_
    rintro e w7 ⟨rfl, hb7⟩
    exact ⟨_, rfl, hb7, by show _ = _; rw [a2, a3, b2, b3]; simp⟩
  dsimp only [List.nil_append, List.cons_append]
  apply relS_det (mask := [false, false, false, false, false, false, false, false, false, false, false, false, false, false, false, true, false, false, true]) (x := .bool true)
  · rfl
  · kernel_rfl
  · kernel_rfl
  · dsimp only [oblS]
    rintro w9 h9
    go_simp
    exact ⟨Below.refl _ _, rfl⟩
  dsimp only [List.nil_append, List.cons_append]
  apply relS_det (mask := [false, false, false, false, false, false, false, false, false, false, false, false, false, false, false, false, false, false, false, true]) (x := .bool true)
  · rfl
  · kernel_rfl
  · kernel_rfl
  · dsimp only [oblS]
    rintro w9 h9
    go_simp
    exact ⟨Below.refl _ _, rfl⟩
  dsimp only [List.nil_append, List.cons_append]
  refine relS_end (by rfl) ?_
  dsimp only [finS]
  rintro v42 v43 w8 ⟨⟨hb, t42⟩, t43⟩
  go_simp
  go_wp2_with fail
  go_ret
  exact ⟨rfl, HCW.out.trans ((HB4.out.trans (hb.mono HB4.out.size)).mono HCW.out.size)⟩
end Go.Proofs.Ytpnfpdkoeednhaa

