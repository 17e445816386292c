/- sane walked: the chapter's examples. Regions printed by tools/gen58.py. -/
import Derived.Test.YtologegkbcedhaaH11
import Derived.Test.YtologegkbcedhaaG9
import Derived.Test.YtologegkbcedhaaG13
import Derived.Test.YtologegkbcedhaaRelI
import Derived.Test.YtologegkbcedhaaH3
namespace Go.Proofs.Ytologegkbcedhaa
open Go.RowKit Go.Shelf

def IxT (l : List Lk) : VT := fun v w => ∃ A n c, v = .agg #[.slice A n c] ∧ lSl w w.heap.size A n c l
theorem IxT_stable (l : List Lk) : (IxT l).Stable := by
  rintro v w w' hb ⟨A, n, c, rfl, h⟩; exact ⟨A, n, c, rfl, h.keep lStable hb.size hb.block⟩
def ChT (l : List Ch) : VT := fun v w => ∃ A n c raw, v = .slice A n c ∧ cSl w w.heap.size A n c raw ∧ ChOks w raw l
theorem ChT_stable (l : List Ch) : (ChT l).Stable := by
  rintro v w w' hb ⟨A, n, c, raw, rfl, h, h2⟩; exact ⟨A, n, c, raw, rfl, h.keep cStable hb.size hb.block, h2.below hb⟩
def InT (l : List Int) : VT := fun v w => ∃ A n c, v = .slice A n c ∧ iSl w w.heap.size A n c l
theorem InT_stable (l : List Int) : (InT l).Stable := by
  rintro v w w' hb ⟨A, n, c, rfl, h⟩; exact ⟨A, n, c, rfl, h.keep iStable hb.size hb.block⟩
def zDe : DeV := ⟨0, 0, 0, 0, 0, 0, 0, none, 0, 0, none, 0, 0, none, 0, 0⟩
theorem lInfo_parts : True := trivial

set_option maxRecDepth 100000 in
set_option maxHeartbeats 8000000 in
theorem sane35_any (w : World) : Calls Try.prog 10 #[] w fun e w' => e = .returned (.bool true) ∧ Below w.heap.size w w' := by
  have hfi := field_index
  go_enter Try.func10, Try.ntmps10
  go_wp2_with fail
  refine (read35_any 7 0 5 _).mono ?_
  rintro e w1 ⟨rfl, hb1⟩
  go_wp2_with fail
  refine (read35_any 7 0 5 _).mono ?_
  rintro e w2 ⟨rfl, hb2⟩
  have hB2 := hb1.trans (hb2.mono hb1.size)
  clear hb1 hb2
  obtain ⟨wa, hwa⟩ : ∃ wa, w2.alloc (.cells #[.int .i64 5, .int .i64 4, .int .i64 7, .int .i64 0, .int .i64 5, .int .i64 5, .int .i64 4, .int .i64 7, .int .i64 0, .int .i64 5] 47) = wa := ⟨_, rfl⟩
  have hza : wa.heap.size = w2.heap.size + 1 := by rw [← hwa]; simp
  have hBa : Below w2.heap.size w2 wa := by rw [← hwa]; exact (Below.refl _ w2).alloc (Nat.le_refl _) _
  have ga : wa.heap[w2.heap.size]? = some (.cells #[.int .i64 5, .int .i64 4, .int .i64 7, .int .i64 0, .int .i64 5, .int .i64 5, .int .i64 4, .int .i64 7, .int .i64 0, .int .i64 5] 47 (0, 0)) := by rw [← hwa]; exact World.alloc_heap_new _ _
  have HWA := hidp hwa
  have HGA := hidp ga
  clear hwa ga
  go_wp2_with fail
  rw [HWA.out]
  refine (read35_any 6 0 9 _).mono ?_
  rintro e w3 ⟨rfl, hb3⟩
  have hz3 := hb3.size
  have HG3 := hidp ((hb3.block _ (by omega)).trans HGA.out)
  have hB3 : Below w.heap.size w w3 := (hB2.trans (hBa.mono hB2.size)).trans (hb3.mono (by have := hB2.size; omega))
  obtain ⟨wb, hwb⟩ : ∃ wb, (w3.alloc (.cells #[.int .i64 5, .int .i64 4, .int .i64 6, .int .i64 0, .int .i64 9] 47)).alloc (.cells #[.int .i64 0, .int .i64 0, .int .i64 0, .int .i64 0, .int .i64 0, .int .i64 0, .int .i64 0, .slice none 0 0, .slice (some ⟨w2.heap.size, 0, none⟩) 2 2, .slice none 0 0, .int .i64 0, .int .i64 0, .int .i64 0, .int .i64 0, .int .i64 0, .int .i64 0, .int .i64 0, .slice none 0 0, .slice (some ⟨w3.heap.size, 0, none⟩) 1 1, .slice none 0 0] 35) = wb := ⟨_, rfl⟩
  have hzb : wb.heap.size = w3.heap.size + 1 + 1 := by rw [← hwb]; simp only [World.size_alloc]
  have hBb : Below w3.heap.size w3 wb := by rw [← hwb]; exact ((Below.refl _ w3).alloc (Nat.le_refl _) _).alloc (by simp) _
  have gb : wb.heap[w3.heap.size]? = some (.cells #[.int .i64 5, .int .i64 4, .int .i64 6, .int .i64 0, .int .i64 9] 47 (0, 0)) := by rw [← hwb]; exact (Below.heap_alloc _ _ _ (by simp)).trans (World.alloc_heap_new _ _)
  have gd : wb.heap[w3.heap.size + 1]? = some (.cells #[.int .i64 0, .int .i64 0, .int .i64 0, .int .i64 0, .int .i64 0, .int .i64 0, .int .i64 0, .slice none 0 0, .slice (some ⟨w2.heap.size, 0, none⟩) 2 2, .slice none 0 0, .int .i64 0, .int .i64 0, .int .i64 0, .int .i64 0, .int .i64 0, .int .i64 0, .int .i64 0, .slice none 0 0, .slice (some ⟨w3.heap.size, 0, none⟩) 1 1, .slice none 0 0] 35 (0, 0)) := by rw [← hwb]; have := World.alloc_heap_new (w3.alloc (.cells #[.int .i64 5, .int .i64 4, .int .i64 6, .int .i64 0, .int .i64 9] 47)) (.cells #[.int .i64 0, .int .i64 0, .int .i64 0, .int .i64 0, .int .i64 0, .int .i64 0, .int .i64 0, .slice none 0 0, .slice (some ⟨w2.heap.size, 0, none⟩) 2 2, .slice none 0 0, .int .i64 0, .int .i64 0, .int .i64 0, .int .i64 0, .int .i64 0, .int .i64 0, .int .i64 0, .slice none 0 0, .slice (some ⟨w3.heap.size, 0, none⟩) 1 1, .slice none 0 0] 35); rwa [World.size_alloc] at this
  have gr := (hBb.block _ (by omega)).trans HG3.out
  have HWB := hidp hwb
  have hde : deSl wb wb.heap.size (some ⟨w3.heap.size + 1, 0, none⟩) 2 2 [(⟨0, 0, 0, 0, 0, 0, 0, none, 0, 0, some ⟨w2.heap.size, 0, none⟩, 2, 2, none, 0, 0⟩, [exR 7 0 5, exR 7 0 5]), (⟨0, 0, 0, 0, 0, 0, 0, none, 0, 0, some ⟨w3.heap.size, 0, none⟩, 1, 1, none, 0, 0⟩, [exR 6 0 9])] := by
    have hfl : Rows 10 (Rep.flat DeV.enc) wb wb.heap.size (some ⟨w3.heap.size + 1, 0, none⟩) 2 2 [(⟨0, 0, 0, 0, 0, 0, 0, none, 0, 0, some ⟨w2.heap.size, 0, none⟩, 2, 2, none, 0, 0⟩ : DeV), (⟨0, 0, 0, 0, 0, 0, 0, none, 0, 0, some ⟨w3.heap.size, 0, none⟩, 1, 1, none, 0, 0⟩ : DeV)] := rows_of_heap (l := [(⟨0, 0, 0, 0, 0, 0, 0, none, 0, 0, some ⟨w2.heap.size, 0, none⟩, 2, 2, none, 0, 0⟩ : DeV), (⟨0, 0, 0, 0, 0, 0, 0, none, 0, 0, some ⟨w3.heap.size, 0, none⟩, 1, 1, none, 0, 0⟩ : DeV)]) deEnc_len gd (by simp) (by decide) rfl
    refine deSl_of_flat hfl fun x hx => ?_
    simp only [List.mem_cons, List.not_mem_nil, or_false] at hx
    rcases hx with rfl | rfl
    · exact rows_of_heap (l := [exR 7 0 5, exR 7 0 5]) rdEnc_len gr (by simp) (by simp) rfl
    · exact rows_of_heap (l := [exR 6 0 9]) rdEnc_len gb (by simp) (by simp) rfl
  have HDE := hidp hde
  have HBb := hidp hBb
  have HB3 := hidp hB3
  clear hwb gb gd gr hde hB2 hBa hb3 hBb hB3
  go_wp2_with fail
  rw [HWB.out]
  refine (xBuild_any _ 2 2 _ wb HDE.out (by decide) (show (allTo exDs 2).length ≤ 1000000 by decide +kernel)).mono ?_
  rintro e w4 ⟨A4, n4, c4, rfl, r4, hb4⟩
  have hr4 : lSl w4 w4.heap.size A4 n4 c4 exW := by rw [← ex_build]; exact r4
  have hB4 : Below w.heap.size w w4 := HB3.out.trans ((HBb.out.trans (hb4.mono HBb.out.size)).mono HB3.out.size)
  have HR4 := hidp hr4
  have HB4 := hidp hB4
  have hn4 : n4 = 2 := hr4.1
  subst hn4
  clear r4 hr4 hb4 hB4
  obtain ⟨wc, hwc⟩ : ∃ wc, w4.alloc (.cells #[.slice A4 2 c4] 28) = wc := ⟨_, rfl⟩
  have gc : wc.heap[w4.heap.size]? = some (.cells #[.slice A4 2 c4] 28 (0, 0)) := by rw [← hwc]; exact World.alloc_heap_new _ _
  have hBc : Below w4.heap.size w4 wc := by rw [← hwc]; exact (Below.refl _ w4).alloc (Nat.le_refl _) _
  have HWC := hidp hwc
  have HGC := hidp gc
  have HBC := hidp hBc
  have cc := cell_of_heap (o := 0) gc
  simp only [List.getElem?_toArray, List.getElem?_cons_zero] at cc
  have lc := lt_of_cell cc
  clear hwc gc hBc
  go_wp2_with fail
  rw [HWC.out]
  go_wp2_with fail
  refine (xReplace_any A4 2 c4 exW 0 zDe [] wc (HR4.out.keep lStable HBC.out.size HBC.out.block) (Rows.nil (by decide)) (by decide) (by decide)).mono ?_
  rintro e w5 ⟨A5, n5, c5, rfl, r5, hb5⟩
  rw [ex_repl] at r5
  have hn5 : n5 = 1 := r5.1
  subst hn5
  have HR5 := hidp r5
  have HGC5 := hidp ((hb5.block _ lc).trans HGC.out)
  have HR45 := hidp ((HR4.out.keep lStable HBC.out.size HBC.out.block).keep lStable hb5.size hb5.block)
  have HB5 := hidp (HB4.out.trans ((HBC.out.trans (hb5.mono HBC.out.size)).mono HB4.out.size))
  clear r5 hb5 cc lc
  obtain ⟨wd, hwd⟩ : ∃ wd, w5.alloc (.cells #[.slice A5 1 c5] 28) = wd := ⟨_, rfl⟩
  have gd : wd.heap[w5.heap.size]? = some (.cells #[.slice A5 1 c5] 28 (0, 0)) := by rw [← hwd]; exact World.alloc_heap_new _ _
  have hBd : Below w5.heap.size w5 wd := by rw [← hwd]; exact (Below.refl _ w5).alloc (Nat.le_refl _) _
  have HWD := hidp hwd
  have HGD := hidp gd
  have HBD := hidp hBd
  clear hwd gd hBd
  go_wp2_with fail
  rw [HWD.out]
  refine (read35_any 6 0 9 _).mono ?_
  rintro e w6 ⟨rfl, hb6⟩
  go_wp2_with fail
  refine (read35_any 7 0 5 _).mono ?_
  rintro e w7 ⟨rfl, hb7⟩
  have hB7 : Below wd.heap.size wd w7 := hb6.trans (hb7.mono hb6.size)
  clear hb6 hb7
  obtain ⟨we, hwe⟩ : ∃ we, w7.alloc (.cells #[.int .i64 5, .int .i64 4, .int .i64 6, .int .i64 0, .int .i64 9, .int .i64 1, .int .i64 5, .int .i64 4, .int .i64 7, .int .i64 0, .int .i64 5, .int .i64 0] 49) = we := ⟨_, rfl⟩
  have ge : we.heap[w7.heap.size]? = some (.cells #[.int .i64 5, .int .i64 4, .int .i64 6, .int .i64 0, .int .i64 9, .int .i64 1, .int .i64 5, .int .i64 4, .int .i64 7, .int .i64 0, .int .i64 5, .int .i64 0] 49 (0, 0)) := by rw [← hwe]; exact World.alloc_heap_new _ _
  have hBe : Below w7.heap.size w7 we := by rw [← hwe]; exact (Below.refl _ w7).alloc (Nat.le_refl _) _
  have hBde : Below wd.heap.size wd we := hB7.trans (hBe.mono hB7.size)
  have HWE := hidp hwe
  have hM : ∀ W, Below we.heap.size we W → (W.cell? ⟨w4.heap.size, 0, none⟩ = some (.slice A4 2 c4) ∧ w4.heap.size < W.heap.size ∧ W.cell? ⟨w5.heap.size, 0, none⟩ = some (.slice A5 1 c5) ∧ w5.heap.size < W.heap.size) ∧ lSl W W.heap.size A4 2 c4 exW ∧ lSl W W.heap.size A5 1 c5 [(exR 6 0 9, 1)] ∧ lSl W W.heap.size (some ⟨w7.heap.size, 0, none⟩) 2 2 exW ∧ lSl W W.heap.size (some ⟨w7.heap.size, 0, none⟩) 1 2 [(exR 6 0 9, 1)] := fun W hW => by
    have hD : Below wd.heap.size wd W := hBde.trans (hW.mono hBde.size)
    have h5 : Below w5.heap.size w5 W := HBD.out.trans (hD.mono HBD.out.size)
    have k4 := (h5.block _ (lt_of_heap HGC5.out)).trans HGC5.out
    have k5 := (hD.block _ (lt_of_heap HGD.out)).trans HGD.out
    have k7 := (hW.block _ (lt_of_heap ge)).trans ge
    exact ⟨⟨cell_of_heap k4, lt_of_heap k4, cell_of_heap k5, lt_of_heap k5⟩, HR45.out.keep lStable h5.size h5.block, HR5.out.keep lStable h5.size h5.block, rows_of_heap (l := exW) lEnc_len k7 (by decide) (by decide) rfl, rows_of_heap (l := [(exR 6 0 9, 1)]) lEnc_len k7 (by decide) (by decide) rfl⟩
  have HM := hidp hM
  have HBfin := hidp (HB5.out.trans ((HBD.out.trans (hBde.mono HBD.out.size)).mono HB5.out.size))
  obtain ⟨i0, hi, _, _, _⟩ := info_parts lInfo
  have hcut := fun W => run_cut_high (P := Try.prog) W Try.underlying26 hi (some (⟨w7.heap.size, 0, none⟩ : Addr)) 2 2 1 .i64 1 rfl (by decide)
  clear hwe ge hBe hBde hB7 hM
  go_wp2_with fail
  rw [HWE.out]
  go_wp2_with fail
  refine wp_region_S we.heap.size 19 (fun _ => false) (Nat.le_refl _) (by kernel_rfl) (by kernel_rfl) (by kernel_rfl) ?_
  dsimp only [List.take, List.drop]
  apply relS_det (mask := []) (x := .agg #[.slice A4 2 c4])
  · rfl
  · kernel_rfl
  · kernel_rfl
  · dsimp only [oblS]
    rintro w9 h9
    obtain ⟨⟨m0, m1, m2, m3⟩, ml4, ml5, mlw, mlw1⟩ := HM.out w9 h9
    go_simp
    exact ⟨Below.refl _ _, rfl⟩
  dsimp only [List.nil_append, List.cons_append]
  apply relS_det (mask := [false])
  · rfl
  · kernel_rfl
  · kernel_rfl
  · dsimp only [oblS]
    rintro w9 h9
    go_simp
    exact ⟨Below.refl _ _, rfl⟩
  dsimp only [List.nil_append, List.cons_append]
  apply relS_det (mask := [false, true])
  · rfl
  · kernel_rfl
  · kernel_rfl
  · dsimp only [oblS]
    rintro w9 h9
    go_simp
    exact ⟨Below.refl _ _, rfl⟩
  dsimp only [List.nil_append, List.cons_append]
  apply relS_det (mask := [true, false, true]) (x := .bool true)
  · rfl
  · kernel_rfl
  · kernel_rfl
  · dsimp only [oblS]
    rintro w9 h9
    obtain ⟨⟨m0, m1, m2, m3⟩, ml4, ml5, mlw, mlw1⟩ := HM.out w9 h9
    go_simp
    refine (qSame_any _ _ 2 2 _ _ exW exW w9 ml4 mlw).mono ?_
    rintro e w3 ⟨rfl, hb3⟩
    exact ⟨_, rfl, hb3, by rw [decide_eq_true rfl]; rfl⟩
  dsimp only [List.nil_append, List.cons_append]
  apply relS_det (mask := [false, false, false, true])
  · rfl
  · kernel_rfl
  · kernel_rfl
  · dsimp only [oblS]
    rintro w9 h9
    go_simp
    exact ⟨Below.refl _ _, rfl⟩
  dsimp only [List.nil_append, List.cons_append]
  apply relS_det (mask := [false, false, false, false, true])
  · rfl
  · kernel_rfl
  · kernel_rfl
  · dsimp only [oblS]
    rintro w9 h9
    go_simp
    exact ⟨Below.refl _ _, rfl⟩
  dsimp only [List.nil_append, List.cons_append]
  apply relS_detg (mask := [false, false, false, false, false, true]) (t := 29) (want := false) (x := .agg #[.slice A5 1 c5])
  · rfl
  · kernel_rfl
  · kernel_rfl
  · dsimp only [oblS]
    refine ⟨by rfl, ?_⟩
    rintro w9 h9
    obtain ⟨⟨m0, m1, m2, m3⟩, ml4, ml5, mlw, mlw1⟩ := HM.out w9 h9
    go_simp
    exact ⟨Below.refl _ _, rfl⟩
  dsimp only [List.nil_append, List.cons_append]
  apply relS_detg (mask := [false, false, false, false, false, true, false]) (t := 29) (want := false)
  · rfl
  · kernel_rfl
  · kernel_rfl
  · dsimp only [oblS]
    refine ⟨by rfl, ?_⟩
    rintro w9 h9
    go_simp
    exact ⟨Below.refl _ _, rfl⟩
  dsimp only [List.nil_append, List.cons_append]
  apply relS_detg (mask := [false, false, false, false, false, true, false, true]) (t := 29) (want := false) (x := .slice (some ⟨w7.heap.size, 0, none⟩) 1 2)
  · rfl
  · kernel_rfl
  · kernel_rfl
  · dsimp only [oblS]
    refine ⟨by rfl, ?_⟩
    rintro w9 h9
    go_simp
    exact ⟨Below.refl _ _, rfl⟩
  dsimp only [List.nil_append, List.cons_append]
  apply relS_detg (mask := [false, false, false, false, false, true, false, false, true]) (t := 29) (want := false)
  · rfl
  · kernel_rfl
  · kernel_rfl
  · dsimp only [oblS]
    refine ⟨by rfl, ?_⟩
    rintro w9 h9
    go_simp
    exact ⟨Below.refl _ _, rfl⟩
  dsimp only [List.nil_append, List.cons_append]
  apply relS_detg (mask := [false, false, false, false, false, true, true, false, false, true]) (t := 29) (want := false) (x := .bool true)
  · rfl
  · kernel_rfl
  · kernel_rfl
  · dsimp only [oblS]
    refine ⟨by rfl, ?_⟩
    rintro w9 h9
    obtain ⟨⟨m0, m1, m2, m3⟩, ml4, ml5, mlw, mlw1⟩ := HM.out w9 h9
    go_simp
    refine (qSame_any _ _ 1 1 _ _ [(exR 6 0 9, 1)] [(exR 6 0 9, 1)] w9 ml5 mlw1).mono ?_
    rintro e w3 ⟨rfl, hb3⟩
    exact ⟨_, rfl, hb3, by rw [decide_eq_true rfl]; rfl⟩
  dsimp only [List.nil_append, List.cons_append]
  apply relS_detg (mask := [false, false, false, false, false, true, false, false, false, false, true]) (t := 29) (want := false)
  · rfl
  · kernel_rfl
  · kernel_rfl
  · dsimp only [oblS]
    refine ⟨by rfl, ?_⟩
    rintro w9 h9
    go_simp
    exact ⟨Below.refl _ _, rfl⟩
  dsimp only [List.nil_append, List.cons_append]
  apply relS_det (mask := [false, false, false, false, false, true, false, false, false, false, false, true])
  · rfl
  · kernel_rfl
  · kernel_rfl
  · dsimp only [oblS]
    rintro w9 h9
    go_simp
    exact ⟨Below.refl _ _, rfl⟩
  dsimp only [List.nil_append, List.cons_append]
  apply relS_det (mask := [false, false, false, false, false, false, false, false, false, false, false, false, true])
  · rfl
  · kernel_rfl
  · kernel_rfl
  · dsimp only [oblS]
    rintro w9 h9
    go_simp
    exact ⟨Below.refl _ _, rfl⟩
  dsimp only [List.nil_append, List.cons_append]
  apply relS_anyg (mask := [false, false, false, false, false, false, false, false, false, false, false, false, false, true]) (t := 37) (want := false) (T := IxT []) (hT := IxT_stable _)
  · rfl
  · kernel_rfl
  · kernel_rfl
  · dsimp only [oblS]
    refine ⟨by rfl, ?_⟩
    rintro w9 h9 T' hT'
    go_simp
    refine (xBuild_any none 0 0 [] w9 (Rows.nil (by decide)) (by decide) (by decide +kernel)).mono ?_
    rintro e w3 ⟨A, n, c, rfl, h1, h2⟩
    rw [show buildL (List.map (fun x : De => x.2) []) = [] from ex_build0] at h1
    exact ⟨_, rfl, h2, hT' _ _ ⟨A, n, c, rfl, h1⟩⟩
  dsimp only [List.nil_append, List.cons_append]
  apply relS_anyg (mask := [false, false, false, false, false, false, false, false, false, false, false, false, false, true, true]) (t := 37) (want := false) (T := LT []) (hT := LT_stable _)
  · rfl
  · kernel_rfl
  · kernel_rfl
  · dsimp only [oblS]
    intro v38
    refine ⟨by rfl, ?_⟩
    rintro w9 ⟨h9, t38⟩ T' hT'
    obtain ⟨A, n, c, rfl, h1⟩ := t38
    go_simp
    exact ⟨Below.refl _ _, hT' _ _ ⟨A, n, c, rfl, h1⟩⟩
  dsimp only [List.nil_append, List.cons_append]
  apply relS_detg (mask := [false, false, false, false, false, false, false, false, false, false, false, false, false, true, false, true]) (t := 37) (want := false) (x := .int .i64 0)
  · rfl
  · kernel_rfl
  · kernel_rfl
  · dsimp only [oblS]
    intro v39
    refine ⟨by rfl, ?_⟩
    rintro w9 ⟨h9, t39⟩
    obtain ⟨A, n, c, rfl, h1⟩ := t39
    obtain rfl : n = 0 := h1.1
    go_simp
    exact ⟨Below.refl _ _, rfl⟩
  dsimp only [List.nil_append, List.cons_append]
  apply relS_detg (mask := [false, false, false, false, false, false, false, false, false, false, false, false, false, true, false, false, true]) (t := 37) (want := false)
  · rfl
  · kernel_rfl
  · kernel_rfl
  · dsimp only [oblS]
    refine ⟨by rfl, ?_⟩
    rintro w9 h9
    go_simp
    exact ⟨Below.refl _ _, rfl⟩
  dsimp only [List.nil_append, List.cons_append]
  apply relS_det (mask := [false, false, false, false, false, false, false, false, false, false, false, false, false, true, false, false, false, true])
  · rfl
  · kernel_rfl
  · kernel_rfl
  · dsimp only [oblS]
    rintro w9 h9
    go_simp
    exact ⟨Below.refl _ _, rfl⟩
  dsimp only [List.nil_append, List.cons_append]
  refine relS_end (by rfl) ?_
  dsimp only [finS]
  -- rintro v38 v39 w8 ⟨⟨hb, t38⟩, t39⟩
  rintro v38 v39 w8 ⟨⟨hb8, -⟩, -⟩
  go_frame
  have hM8 : ∀ W, Below w8.heap.size w8 W → (W.cell? ⟨w4.heap.size, 0, none⟩ = some (.slice A4 2 c4) ∧ w4.heap.size < W.heap.size) ∧ lSl W W.heap.size A4 2 c4 exW := fun W hW => by
    obtain ⟨⟨m0, m1, m2, m3⟩, ml4, -⟩ := HM.out W (hb8.trans (hW.mono hb8.size))
    exact ⟨⟨m0, m1⟩, ml4⟩
  have HM8 := hidp hM8
  have HB8 := hidp (HBfin.out.trans (hb8.mono HBfin.out.size))
  clear hM8 hb8 HM
  go_wp2_with fail
  refine wp_region_S w8.heap.size 38 (fun _ => false) (Nat.le_refl _) (by kernel_rfl) (by kernel_rfl) (by kernel_rfl) ?_
  dsimp only [List.take, List.drop]
  apply relS_det (mask := []) (x := .agg #[.slice A4 2 c4])
  · rfl
  · kernel_rfl
  · kernel_rfl
  · dsimp only [oblS]
    rintro w9 h9
    obtain ⟨⟨m0, m1⟩, ml4⟩ := HM8.out w9 h9
    go_simp
    exact ⟨Below.refl _ _, rfl⟩
  dsimp only [List.nil_append, List.cons_append]
  apply relS_det (mask := [true]) (x := .int .i64 0)
  · rfl
  · kernel_rfl
  · kernel_rfl
  · dsimp only [oblS]
    rintro w9 h9
    obtain ⟨⟨m0, m1⟩, ml4⟩ := HM8.out w9 h9
    go_simp
    refine (xCheck_any _ 2 _ exW 2 w9 ml4).mono ?_
    rintro e w3 ⟨rfl, hb3⟩
    exact ⟨_, rfl, hb3, by rw [ex_check2]; rfl⟩
  dsimp only [List.nil_append, List.cons_append]
  apply relS_det (mask := [false, true])
  · rfl
  · kernel_rfl
  · kernel_rfl
  · dsimp only [oblS]
    rintro w9 h9
    go_simp
    exact ⟨Below.refl _ _, rfl⟩
  dsimp only [List.nil_append, List.cons_append]
  apply relS_det (mask := [false, false, true])
  · rfl
  · kernel_rfl
  · kernel_rfl
  · dsimp only [oblS]
    rintro w9 h9
    go_simp
    exact ⟨Below.refl _ _, rfl⟩
  dsimp only [List.nil_append, List.cons_append]
  apply relS_detg (mask := [false, false, false, true]) (t := 46) (want := true) (x := .agg #[.slice A4 2 c4])
  · rfl
  · kernel_rfl
  · kernel_rfl
  · dsimp only [oblS]
    refine ⟨by rfl, ?_⟩
    rintro w9 h9
    obtain ⟨⟨m0, m1⟩, ml4⟩ := HM8.out w9 h9
    go_simp
    exact ⟨Below.refl _ _, rfl⟩
  dsimp only [List.nil_append, List.cons_append]
  apply relS_detg (mask := [false, false, false, true, true]) (t := 46) (want := true) (x := .int .i64 350)
  · rfl
  · kernel_rfl
  · kernel_rfl
  · dsimp only [oblS]
    refine ⟨by rfl, ?_⟩
    rintro w9 h9
    obtain ⟨⟨m0, m1⟩, ml4⟩ := HM8.out w9 h9
    go_simp
    refine (xCheck_any _ 2 _ exW 1 w9 ml4).mono ?_
    rintro e w3 ⟨rfl, hb3⟩
    exact ⟨_, rfl, hb3, by rw [ex_check1]; rfl⟩
  dsimp only [List.nil_append, List.cons_append]
  apply relS_detg (mask := [false, false, false, true, false, true]) (t := 46) (want := true)
  · rfl
  · kernel_rfl
  · kernel_rfl
  · dsimp only [oblS]
    refine ⟨by rfl, ?_⟩
    rintro w9 h9
    go_simp
    exact ⟨Below.refl _ _, rfl⟩
  dsimp only [List.nil_append, List.cons_append]
  apply relS_det (mask := [false, false, false, true, false, false, true])
  · rfl
  · kernel_rfl
  · kernel_rfl
  · dsimp only [oblS]
    rintro w9 h9
    go_simp
    exact ⟨Below.refl _ _, rfl⟩
  dsimp only [List.nil_append, List.cons_append]
  apply relS_det (mask := [false, false, false, false, false, false, false, true])
  · rfl
  · kernel_rfl
  · kernel_rfl
  · dsimp only [oblS]
    rintro w9 h9
    go_simp
    exact ⟨Below.refl _ _, rfl⟩
  dsimp only [List.nil_append, List.cons_append]
  apply relS_detg (mask := [false, false, false, false, false, false, false, false, true]) (t := 51) (want := true)
  · rfl
  · kernel_rfl
  · kernel_rfl
  · dsimp only [oblS]
    refine ⟨by rfl, ?_⟩
    rintro w9 h9
    go_simp
    exact ⟨Below.refl _ _, rfl⟩
  dsimp only [List.nil_append, List.cons_append]
  apply relS_detg (mask := [false, false, false, false, false, false, false, false, true, true]) (t := 51) (want := true) (x := .int .i64 0)
  · rfl
  · kernel_rfl
  · kernel_rfl
  · dsimp only [oblS]
    refine ⟨by rfl, ?_⟩
    rintro w9 h9
    go_simp
    refine (xCheck_any none 0 0 [] 0 w9 (Rows.nil (by decide))).mono ?_
    rintro e w3 ⟨rfl, hb3⟩
    exact ⟨_, rfl, hb3, by rw [ex_check0]; rfl⟩
  dsimp only [List.nil_append, List.cons_append]
  apply relS_detg (mask := [false, false, false, false, false, false, false, false, true, false, true]) (t := 51) (want := true)
  · rfl
  · kernel_rfl
  · kernel_rfl
  · dsimp only [oblS]
    refine ⟨by rfl, ?_⟩
    rintro w9 h9
    go_simp
    exact ⟨Below.refl _ _, rfl⟩
  dsimp only [List.nil_append, List.cons_append]
  apply relS_det (mask := [false, false, false, false, false, false, false, false, true, false, false, true])
  · rfl
  · kernel_rfl
  · kernel_rfl
  · dsimp only [oblS]
    rintro w9 h9
    go_simp
    exact ⟨Below.refl _ _, rfl⟩
  dsimp only [List.nil_append, List.cons_append]
  apply relS_det (mask := [false, false, false, false, false, false, false, false, false, false, false, false, true])
  · rfl
  · kernel_rfl
  · kernel_rfl
  · dsimp only [oblS]
    rintro w9 h9
    go_simp
    exact ⟨Below.refl _ _, rfl⟩
  dsimp only [List.nil_append, List.cons_append]
  apply relS_detg (mask := [false, false, false, false, false, false, false, false, false, false, false, false, false, true]) (t := 56) (want := true) (x := .agg #[.slice A4 2 c4])
  · rfl
  · kernel_rfl
  · kernel_rfl
  · dsimp only [oblS]
    refine ⟨by rfl, ?_⟩
    rintro w9 h9
    obtain ⟨⟨m0, m1⟩, ml4⟩ := HM8.out w9 h9
    go_simp
    exact ⟨Below.refl _ _, rfl⟩
  dsimp only [List.nil_append, List.cons_append]
  apply relS_detg (mask := [false, false, false, false, false, false, false, false, false, false, false, false, false, true, false]) (t := 56) (want := true)
  · rfl
  · kernel_rfl
  · kernel_rfl
  · dsimp only [oblS]
    refine ⟨by rfl, ?_⟩
    rintro w9 h9
    go_simp
    exact ⟨Below.refl _ _, rfl⟩
  dsimp only [List.nil_append, List.cons_append]
  apply relS_anyg (mask := [false, false, false, false, false, false, false, false, false, false, false, false, false, true, false, true]) (t := 56) (want := true) (T := ChT [(⟨5, 4, 7⟩, [(5, 6)])]) (hT := ChT_stable _)
  · rfl
  · kernel_rfl
  · kernel_rfl
  · dsimp only [oblS]
    refine ⟨by rfl, ?_⟩
    rintro w9 h9 T' hT'
    go_simp
    refine (sane35a_any 5 w9 (by decide)).mono ?_
    rintro e w3 ⟨A, n, c, raw, rfl, h1, h2, h3⟩
    exact ⟨_, rfl, h3, hT' _ _ ⟨A, n, c, raw, rfl, h1, h2⟩⟩
  dsimp only [List.nil_append, List.cons_append]
  apply relS_anyg (mask := [false, false, false, false, false, false, false, false, false, false, false, false, false, true, true, false, true]) (t := 56) (want := true) (T := InT []) (hT := InT_stable _)
  · rfl
  · kernel_rfl
  · kernel_rfl
  · dsimp only [oblS]
    intro v59
    refine ⟨by rfl, ?_⟩
    rintro w9 ⟨h9, t59⟩ T' hT'
    obtain ⟨A, n, c, raw, rfl, h1, h2⟩ := t59
    obtain ⟨⟨m0, m1⟩, ml4⟩ := HM8.out w9 h9
    go_simp
    have hn1 : n ≤ 1000 := by rw [h1.1, h2.1]; decide
    refine (xAffected_any A4 2 c4 exW A n c raw _ w9 ml4 h1 h2 (by decide) hn1).mono ?_
    rintro e w3 ⟨A9, n9, c9, rfl, q1, q2⟩
    rw [ex_aff5] at q1
    exact ⟨_, rfl, q2, hT' _ _ ⟨A9, n9, c9, rfl, q1⟩⟩
  dsimp only [List.nil_append, List.cons_append]
  apply relS_detg (mask := [false, false, false, false, false, false, false, false, false, false, false, false, false, true, false, false, false, true]) (t := 56) (want := true) (x := .int .i64 0)
  · rfl
  · kernel_rfl
  · kernel_rfl
  · dsimp only [oblS]
    intro v60
    refine ⟨by rfl, ?_⟩
    rintro w9 ⟨h9, t60⟩
    obtain ⟨A, n, c, rfl, h1⟩ := t60
    obtain rfl : n = 0 := h1.1
    go_simp
    exact ⟨Below.refl _ _, rfl⟩
  dsimp only [List.nil_append, List.cons_append]
  apply relS_detg (mask := [false, false, false, false, false, false, false, false, false, false, false, false, false, true, false, false, false, false, true]) (t := 56) (want := true)
  · rfl
  · kernel_rfl
  · kernel_rfl
  · dsimp only [oblS]
    refine ⟨by rfl, ?_⟩
    rintro w9 h9
    go_simp
    exact ⟨Below.refl _ _, rfl⟩
  dsimp only [List.nil_append, List.cons_append]
  apply relS_det (mask := [false, false, false, false, false, false, false, false, false, false, false, false, false, true, false, false, false, false, false, true])
  · rfl
  · kernel_rfl
  · kernel_rfl
  · dsimp only [oblS]
    rintro w9 h9
    go_simp
    exact ⟨Below.refl _ _, rfl⟩
  dsimp only [List.nil_append, List.cons_append]
  apply relS_det (mask := [false, false, false, false, false, false, false, false, false, false, false, false, false, false, false, false, false, false, false, false, true])
  · rfl
  · kernel_rfl
  · kernel_rfl
  · dsimp only [oblS]
    rintro w9 h9
    go_simp
    exact ⟨Below.refl _ _, rfl⟩
  dsimp only [List.nil_append, List.cons_append]
  apply relS_detg (mask := [false, false, false, false, false, false, false, false, false, false, false, false, false, false, false, false, false, false, false, false, false, true]) (t := 64) (want := true) (x := .agg #[.slice A4 2 c4])
  · rfl
  · kernel_rfl
  · kernel_rfl
  · dsimp only [oblS]
    refine ⟨by rfl, ?_⟩
    rintro w9 h9
    obtain ⟨⟨m0, m1⟩, ml4⟩ := HM8.out w9 h9
    go_simp
    exact ⟨Below.refl _ _, rfl⟩
  dsimp only [List.nil_append, List.cons_append]
  apply relS_detg (mask := [false, false, false, false, false, false, false, false, false, false, false, false, false, false, false, false, false, false, false, false, false, true, false]) (t := 64) (want := true)
  · rfl
  · kernel_rfl
  · kernel_rfl
  · dsimp only [oblS]
    refine ⟨by rfl, ?_⟩
    rintro w9 h9
    go_simp
    exact ⟨Below.refl _ _, rfl⟩
  dsimp only [List.nil_append, List.cons_append]
  apply relS_anyg (mask := [false, false, false, false, false, false, false, false, false, false, false, false, false, false, false, false, false, false, false, false, false, true, false, true]) (t := 64) (want := true) (T := ChT [(⟨5, 4, 7⟩, [(4, 5)])]) (hT := ChT_stable _)
  · rfl
  · kernel_rfl
  · kernel_rfl
  · dsimp only [oblS]
    refine ⟨by rfl, ?_⟩
    rintro w9 h9 T' hT'
    go_simp
    refine (sane35a_any 4 w9 (by decide)).mono ?_
    rintro e w3 ⟨A, n, c, raw, rfl, h1, h2, h3⟩
    exact ⟨_, rfl, h3, hT' _ _ ⟨A, n, c, raw, rfl, h1, h2⟩⟩
  dsimp only [List.nil_append, List.cons_append]
  apply relS_anyg (mask := [false, false, false, false, false, false, false, false, false, false, false, false, false, false, false, false, false, false, false, false, false, true, true, false, true]) (t := 64) (want := true) (T := InT [0]) (hT := InT_stable _)
  · rfl
  · kernel_rfl
  · kernel_rfl
  · dsimp only [oblS]
    intro v67
    refine ⟨by rfl, ?_⟩
    rintro w9 ⟨h9, t67⟩ T' hT'
    obtain ⟨A, n, c, raw, rfl, h1, h2⟩ := t67
    obtain ⟨⟨m0, m1⟩, ml4⟩ := HM8.out w9 h9
    go_simp
    have hn1 : n ≤ 1000 := by rw [h1.1, h2.1]; decide
    refine (xAffected_any A4 2 c4 exW A n c raw _ w9 ml4 h1 h2 (by decide) hn1).mono ?_
    rintro e w3 ⟨A9, n9, c9, rfl, q1, q2⟩
    rw [ex_aff4] at q1
    exact ⟨_, rfl, q2, hT' _ _ ⟨A9, n9, c9, rfl, q1⟩⟩
  dsimp only [List.nil_append, List.cons_append]
  apply relS_anyg (mask := [false, false, false, false, false, false, false, false, false, false, false, false, false, false, false, false, false, false, false, false, false, true, false, false, false, false]) (t := 64) (want := true) (T := InT [0]) (hT := InT_stable _)
  · rfl
  · kernel_rfl
  · kernel_rfl
  · dsimp only [oblS]
    refine ⟨by rfl, ?_⟩
    rintro w9 h9 T' hT'
    go_simp
    exact ⟨(Below.refl _ w9).alloc (Nat.le_refl _) _, hT' _ _ ⟨_, 1, 1, rfl, rows_of_heap (l := [0]) iEnc_len (World.alloc_heap_new w9 _) (Nat.le_refl _) (by decide) rfl⟩⟩
  dsimp only [List.nil_append, List.cons_append]
  apply relS_detg (mask := [false, false, false, false, false, false, false, false, false, false, false, false, false, false, false, false, false, false, false, false, false, true, false, false, false, true, true]) (t := 64) (want := true) (x := .bool true)
  · rfl
  · kernel_rfl
  · kernel_rfl
  · dsimp only [oblS]
    intro v68 v69
    refine ⟨by rfl, ?_⟩
    rintro w9 ⟨⟨h9, t68⟩, t69⟩
    obtain ⟨Aa, na, ca, rfl, h1⟩ := t68
    obtain ⟨Ab, nb, cb, rfl, h2⟩ := t69
    go_simp
    refine (qSameInts_any _ _ _ _ _ _ [0] [0] w9 h1 h2).mono ?_
    rintro e w3 ⟨rfl, hb3⟩
    exact ⟨_, rfl, hb3, by rw [decide_eq_true rfl]; rfl⟩
  dsimp only [List.nil_append, List.cons_append]
  apply relS_det (mask := [false, false, false, false, false, false, false, false, false, false, false, false, false, false, false, false, false, false, false, false, false, true, false, false, false, false, false, true])
  · rfl
  · kernel_rfl
  · kernel_rfl
  · dsimp only [oblS]
    rintro w9 h9
    go_simp
    exact ⟨Below.refl _ _, rfl⟩
  dsimp only [List.nil_append, List.cons_append]
  apply relS_det (mask := [false, false, false, false, false, false, false, false, false, false, false, false, false, false, false, false, false, false, false, false, false, false, false, false, false, false, false, false, true])
  · rfl
  · kernel_rfl
  · kernel_rfl
  · dsimp only [oblS]
    rintro w9 h9
    go_simp
    exact ⟨Below.refl _ _, rfl⟩
  dsimp only [List.nil_append, List.cons_append]
  apply relS_detg (mask := [false, false, false, false, false, false, false, false, false, false, false, false, false, false, false, false, false, false, false, false, false, false, false, false, false, false, false, false, false, true]) (t := 72) (want := true)
  · rfl
  · kernel_rfl
  · kernel_rfl
  · dsimp only [oblS]
    refine ⟨by rfl, ?_⟩
    rintro w9 h9
    go_simp
    exact ⟨Below.refl _ _, rfl⟩
  dsimp only [List.nil_append, List.cons_append]
  apply relS_detg (mask := [false, false, false, false, false, false, false, false, false, false, false, false, false, false, false, false, false, false, false, false, false, false, false, false, false, false, false, false, false, true, false]) (t := 72) (want := true)
  · rfl
  · kernel_rfl
  · kernel_rfl
  · dsimp only [oblS]
    refine ⟨by rfl, ?_⟩
    rintro w9 h9
    go_simp
    exact ⟨Below.refl _ _, rfl⟩
  dsimp only [List.nil_append, List.cons_append]
  apply relS_anyg (mask := [false, false, false, false, false, false, false, false, false, false, false, false, false, false, false, false, false, false, false, false, false, false, false, false, false, false, false, false, false, true, false, true]) (t := 72) (want := true) (T := ChT [(⟨5, 4, 7⟩, [(4, 5)])]) (hT := ChT_stable _)
  · rfl
  · kernel_rfl
  · kernel_rfl
  · dsimp only [oblS]
    refine ⟨by rfl, ?_⟩
    rintro w9 h9 T' hT'
    go_simp
    refine (sane35a_any 4 w9 (by decide)).mono ?_
    rintro e w3 ⟨A, n, c, raw, rfl, h1, h2, h3⟩
    exact ⟨_, rfl, h3, hT' _ _ ⟨A, n, c, raw, rfl, h1, h2⟩⟩
  dsimp only [List.nil_append, List.cons_append]
  apply relS_anyg (mask := [false, false, false, false, false, false, false, false, false, false, false, false, false, false, false, false, false, false, false, false, false, false, false, false, false, false, false, false, false, true, true, false, true]) (t := 72) (want := true) (T := InT []) (hT := InT_stable _)
  · rfl
  · kernel_rfl
  · kernel_rfl
  · dsimp only [oblS]
    intro v75
    refine ⟨by rfl, ?_⟩
    rintro w9 ⟨h9, t75⟩ T' hT'
    obtain ⟨A, n, c, raw, rfl, h1, h2⟩ := t75
    go_simp
    have hn1 : n ≤ 1000 := by rw [h1.1, h2.1]; decide
    refine (xAffected_any none 0 0 [] A n c raw _ w9 (Rows.nil (by decide)) h1 h2 (by decide) hn1).mono ?_
    rintro e w3 ⟨A9, n9, c9, rfl, q1, q2⟩
    rw [ex_aff0] at q1
    exact ⟨_, rfl, q2, hT' _ _ ⟨A9, n9, c9, rfl, q1⟩⟩
  dsimp only [List.nil_append, List.cons_append]
  apply relS_detg (mask := [false, false, false, false, false, false, false, false, false, false, false, false, false, false, false, false, false, false, false, false, false, false, false, false, false, false, false, false, false, true, false, false, false, true]) (t := 72) (want := true) (x := .int .i64 0)
  · rfl
  · kernel_rfl
  · kernel_rfl
  · dsimp only [oblS]
    intro v76
    refine ⟨by rfl, ?_⟩
    rintro w9 ⟨h9, t76⟩
    obtain ⟨A, n, c, rfl, h1⟩ := t76
    obtain rfl : n = 0 := h1.1
    go_simp
    exact ⟨Below.refl _ _, rfl⟩
  dsimp only [List.nil_append, List.cons_append]
  apply relS_detg (mask := [false, false, false, false, false, false, false, false, false, false, false, false, false, false, false, false, false, false, false, false, false, false, false, false, false, false, false, false, false, true, false, false, false, false, true]) (t := 72) (want := true)
  · rfl
  · kernel_rfl
  · kernel_rfl
  · dsimp only [oblS]
    refine ⟨by rfl, ?_⟩
    rintro w9 h9
    go_simp
    exact ⟨Below.refl _ _, rfl⟩
  dsimp only [List.nil_append, List.cons_append]
  apply relS_det (mask := [false, false, false, false, false, false, false, false, false, false, false, false, false, false, false, false, false, false, false, false, false, false, false, false, false, false, false, false, false, true, false, false, false, false, false, true])
  · rfl
  · kernel_rfl
  · kernel_rfl
  · dsimp only [oblS]
    rintro w9 h9
    go_simp
    exact ⟨Below.refl _ _, rfl⟩
  dsimp only [List.nil_append, List.cons_append]
  apply relS_det (mask := [false, false, false, false, false, false, false, false, false, false, false, false, false, false, false, false, false, false, false, false, false, false, false, false, false, false, false, false, false, false, false, false, false, false, false, false, true])
  · rfl
  · kernel_rfl
  · kernel_rfl
  · dsimp only [oblS]
    rintro w9 h9
    go_simp
    exact ⟨Below.refl _ _, rfl⟩
  dsimp only [List.nil_append, List.cons_append]
  refine relS_end (by rfl) ?_
  dsimp only [finS]
  -- rintro v59 v60 v67 v68 v69 v75 v76 w8 ⟨⟨⟨⟨⟨⟨⟨hb, t59⟩, t60⟩, t67⟩, t68⟩, t69⟩, t75⟩, t76⟩
  rintro v59 v60 v67 v68 v69 v75 v76 w10 ⟨⟨⟨⟨⟨⟨⟨hb10, -⟩, -⟩, -⟩, -⟩, -⟩, -⟩, -⟩
  go_frame
  go_wp2_with fail
  go_ret
  exact ⟨rfl, HB8.out.trans (hb10.mono HB8.out.size)⟩
end Go.Proofs.Ytologegkbcedhaa
