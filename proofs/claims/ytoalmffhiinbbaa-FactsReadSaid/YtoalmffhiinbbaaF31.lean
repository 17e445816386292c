/- sane walked: the chapter's examples. Regions printed by tools/gen31.py. -/
import Derived.Test.YtoalmffhiinbbaaF30
import Derived.Test.YtoalmffhiinbbaaRelT
namespace Go.Proofs.Ytoalmffhiinbbaa
open Go.RowKit Go.Shelf

def addT (l : List Fc) (f : Fc) : VT := fun v w => ∃ A n c, v = .tuple #[.slice A n c, .int .i64 (addE l f)] ∧ fSl w w.heap.size A n c (addL l f)
def rowsT (l : List Fc) : VT := fun v w => ∃ A n c, v = .slice A n c ∧ fSl w w.heap.size A n c l
def ptsT (l : List (Int × Int)) : VT := fun v w => ∃ A n c, v = .slice A n c ∧ pSl w w.heap.size A n c l
def chT (l : List Ch) : VT := fun v w => ∃ A n c raw, v = .slice A n c ∧ cSl w w.heap.size A n c raw ∧ ChOks w raw l
def spT (l : List (Int × Int)) : VT := fun v w => ∃ A n c, v = .slice A n c ∧ sSl w w.heap.size A n c l
def cT (ch : Ch) : VT := fun v w => ∃ r : Cr, v = .agg (cEnc r).toArray ∧ ChOk w r ch
def rdT (l : List Rd) : VT := fun v w => ∃ A n c, v = .slice A n c ∧ RdSl w w.heap.size A n c l
theorem addT_stable (l : List Fc) (f : Fc) : (addT l f).Stable := by
  rintro v w w' hb ⟨A, n, c, rfl, h⟩; exact ⟨A, n, c, rfl, h.keep fStable hb.size hb.block⟩
theorem rowsT_stable (l : List Fc) : (rowsT l).Stable := by
  rintro v w w' hb ⟨A, n, c, rfl, h⟩; exact ⟨A, n, c, rfl, h.keep fStable hb.size hb.block⟩
theorem ptsT_stable (l : List (Int × Int)) : (ptsT l).Stable := by
  rintro v w w' hb ⟨A, n, c, rfl, h⟩; exact ⟨A, n, c, rfl, h.keep pStable hb.size hb.block⟩
theorem chT_stable (l : List Ch) : (chT l).Stable := by
  rintro v w w' hb ⟨A, n, c, raw, rfl, h, h2⟩; exact ⟨A, n, c, raw, rfl, h.keep cStable hb.size hb.block, h2.below hb⟩
theorem spT_stable (l : List (Int × Int)) : (spT l).Stable := by
  rintro v w w' hb ⟨A, n, c, rfl, h⟩; exact ⟨A, n, c, rfl, h.keep sStable hb.size hb.block⟩
theorem cT_stable (ch : Ch) : (cT ch).Stable := by
  rintro v w w' hb ⟨r, rfl, h⟩; exact ⟨r, rfl, h.below hb⟩
theorem rdT_stable (l : List Rd) : (rdT l).Stable := by
  rintro v w w' hb ⟨A, n, c, rfl, h⟩; exact ⟨A, n, c, rfl, h.keep rdStable hb.size hb.block⟩

/-- What the examples' memory keeps: the list at block B, the key at block B + 1. -/
structure ExMem (W : World) (B : Nat) : Prop where
  l : W.heap[B]? = some (.cells #[.int .i64 5, .int .i64 4, .int .i64 9, .int .i64 7, .int .i64 2, .int .i64 6, .int .i64 10, .int .i64 0, .int .i64 5, .int .i64 4, .int .i64 9, .int .i64 (-1), .int .i64 3, .int .i64 4, .int .i64 20, .int .i64 0] 28 (0, 0))
  k : W.heap[B + 1]? = some (.cells #[.int .i64 5, .int .i64 4, .int .i64 9] 24 (0, 0))
namespace ExMem
variable {W W' : World} {B : Nat}
theorem below (h : ExMem W B) (hb : Below W.heap.size W W') : ExMem W' B := ⟨(hb.block _ (lt_of_heap h.l)).trans h.l, (hb.block _ (lt_of_heap h.k)).trans h.k⟩
theorem rows (h : ExMem W B) : fSl W W.heap.size (some ⟨B, 0, none⟩) 2 2 exL := rows_of_heap (k := 8) (l := exL) (c := 2) fEnc_len h.l (Nat.le_refl _) (by decide) rfl
theorem rows1 (h : ExMem W B) : fSl W W.heap.size (some ⟨B, 0, none⟩) 1 2 [gr 7 2 6 10 0] := rows_of_heap (k := 8) (l := [gr 7 2 6 10 0]) (c := 2) fEnc_len h.l (by decide) (by decide) rfl
theorem key (h : ExMem W B) : W.cell? ⟨B + 1, 0, none⟩ = some (.int .i64 5) ∧ W.cell? ⟨B + 1, 1, none⟩ = some (.int .i64 4) ∧ W.cell? ⟨B + 1, 2, none⟩ = some (.int .i64 9) := ⟨cell_of_heap h.k, cell_of_heap h.k, cell_of_heap h.k⟩
theorem second (h : ExMem W B) : W.cell? ⟨B, 8, none⟩ = some (.int .i64 5) ∧ W.cell? ⟨B, 9, none⟩ = some (.int .i64 4) ∧ W.cell? ⟨B, 10, none⟩ = some (.int .i64 9) ∧ W.cell? ⟨B, 11, none⟩ = some (.int .i64 (-1)) ∧ W.cell? ⟨B, 12, none⟩ = some (.int .i64 3) ∧ W.cell? ⟨B, 13, none⟩ = some (.int .i64 4) ∧ W.cell? ⟨B, 14, none⟩ = some (.int .i64 20) ∧ W.cell? ⟨B, 15, none⟩ = some (.int .i64 0) :=
  ⟨cell_of_heap h.l, cell_of_heap h.l, cell_of_heap h.l, cell_of_heap h.l, cell_of_heap h.l, cell_of_heap h.l, cell_of_heap h.l, cell_of_heap h.l⟩
end ExMem

set_option maxRecDepth 100000 in
set_option maxHeartbeats 4000000 in
theorem sane07_any (w : World) : Calls Try.prog 11 #[] w fun e w' => e = .returned (.bool true) ∧ Below w.heap.size w w' := by
  obtain ⟨i0, hi, hz, hs, hbb⟩ := info_parts fInfo
  go_enter Try.func11, Try.ntmps11
  go_wp2_with fail
  refine (grade_any _ _ _ _ _ _).mono ?_
  rintro e w1 ⟨rfl, hb1⟩
  go_wp2_with fail
  refine (grade_any _ _ _ _ _ _).mono ?_
  rintro e w2 ⟨rfl, hb2⟩
  have hB2 := hb1.trans (hb2.mono hb1.size)
  clear hb1 hb2
  go_wp2_with fail
  obtain ⟨W, hW⟩ : ∃ W, (w2.alloc (.cells #[.int .i64 5, .int .i64 4, .int .i64 9, .int .i64 7, .int .i64 2, .int .i64 6, .int .i64 10, .int .i64 0, .int .i64 5, .int .i64 4, .int .i64 9, .int .i64 (-1), .int .i64 3, .int .i64 4, .int .i64 20, .int .i64 0] 28)).alloc (.cells #[.int .i64 5, .int .i64 4, .int .i64 9] 24) = W := ⟨_, rfl⟩
  obtain ⟨B, hB⟩ : ∃ B, w2.heap.size = B := ⟨_, rfl⟩
  have hEx : ExMem W B := by
    rw [← hW, ← hB]
    refine ⟨(Below.heap_alloc _ _ _ (by simp)).trans (World.alloc_heap_new _ _), ?_⟩
    have := World.alloc_heap_new (w2.alloc (.cells #[.int .i64 5, .int .i64 4, .int .i64 9, .int .i64 7, .int .i64 2, .int .i64 6, .int .i64 10, .int .i64 0, .int .i64 5, .int .i64 4, .int .i64 9, .int .i64 (-1), .int .i64 3, .int .i64 4, .int .i64 20, .int .i64 0] 28)) (.cells #[.int .i64 5, .int .i64 4, .int .i64 9] 24)
    rwa [World.size_alloc] at this
  have hBW : Below w.heap.size w W := by rw [← hW]; exact (hB2.alloc hB2.size _).alloc (Nat.le_trans hB2.size (by simp)) _
  rw [hW, hB]
  have HW := hidp hW
  have HB := hidp hB
  have HBW := hidp hBW
  clear hW hB hB2 hBW
  obtain ⟨x0, x1, x2⟩ := hEx.key
  refine (fAt_any _ 2 2 exL exK 3 15 _ hEx.rows).mono ?_
  rintro e w3 ⟨rfl, hb3⟩
  rw [ex_at1]
  have hE3 := hEx.below hb3
  obtain ⟨y0, y1, y2⟩ := hE3.key
  clear x0 x1 x2
  go_wp2_with fail
  refine (fAt_any _ 2 2 exL exK 3 20 _ hE3.rows).mono ?_
  rintro e w4 ⟨rfl, hb4⟩
  rw [ex_at2]
  have hb34 := hb3.trans (hb4.mono hb3.size)
  have hE4 := hE3.below hb4
  clear hb3 hb4 hE3 y0 y1 y2
  obtain ⟨y0, y1, y2⟩ := hE4.key
  go_wp2_with fail
  refine (fAt_any _ 2 2 exL exK 2 20 _ hE4.rows).mono ?_
  rintro e w5 ⟨rfl, hb5⟩
  rw [ex_at3]
  have hb35 := hb34.trans (hb5.mono hb34.size)
  have hE5 := hE4.below hb5
  clear hb34 hb5 hE4 y0 y1 y2
  obtain ⟨y0, y1, y2⟩ := hE5.key
  go_wp2_with fail
  refine (fAt_any none 0 0 [] exK 0 0 _ (Rows.nil (by decide))).mono ?_
  rintro e w6 ⟨rfl, hb6⟩
  rw [ex_at4]
  have hb36 := hb35.trans (hb6.mono hb35.size)
  have hE6 := hE5.below hb6
  clear hb35 hb6 hE5 y0 y1 y2
  go_wp2_with fail
  have HE6 : Hid (∀ W', Below w6.heap.size w6 W' → ExMem W' B) := fun W' h => hE6.below h
  refine wp_region_S w6.heap.size 11 (fun _ => false) (Nat.le_refl _) (by kernel_rfl) (by kernel_rfl) (by kernel_rfl) ?_
  dsimp only [List.take, List.drop]
  apply relS_det (mask := [])
  · rfl
  · kernel_rfl
  · kernel_rfl
  · dsimp only [oblS]
    rintro w9 h9
    go_simp
    exact ⟨Below.refl _ _, rfl⟩
  dsimp only [List.nil_append, List.cons_append]
  apply relS_det (mask := [true]) (x := .slice (some ⟨B, 0, none⟩) 1 2)
  · rfl
  · kernel_rfl
  · kernel_rfl
  · dsimp only [oblS]
    rintro w9 h9
    go_simp
    exact ⟨Below.refl _ _, rfl⟩
  dsimp only [List.nil_append, List.cons_append]
  apply relS_det (mask := [false, false])
  · rfl
  · kernel_rfl
  · kernel_rfl
  · dsimp only [oblS]
    rintro w9 h9
    go_simp
    exact ⟨Below.refl _ _, rfl⟩
  dsimp only [List.nil_append, List.cons_append]
  apply relS_det (mask := [false, false, true])
  · rfl
  · kernel_rfl
  · kernel_rfl
  · dsimp only [oblS]
    rintro w9 h9
    go_simp
    exact ⟨Below.refl _ _, rfl⟩
  dsimp only [List.nil_append, List.cons_append]
  apply relS_det (mask := [false, false, false, true]) (x := .agg #[.int .i64 5, .int .i64 4, .int .i64 9, .int .i64 (-1), .int .i64 3, .int .i64 4, .int .i64 20, .int .i64 0])
  · rfl
  · kernel_rfl
  · kernel_rfl
  · dsimp only [oblS]
    rintro w9 h9
    obtain ⟨z0, z1, z2, z3, z4, z5, z6, z7⟩ := (HE6.out w9 h9).second
    go_simp
    exact ⟨Below.refl _ _, rfl⟩
  dsimp only [List.nil_append, List.cons_append]
  apply relS_any (mask := [false, true, false, false, true]) (T := addT [gr 7 2 6 10 0] (gr (-1) 3 4 20 0)) (hT := addT_stable _ _)
  · rfl
  · kernel_rfl
  · kernel_rfl
  · dsimp only [oblS]
    rintro w9 h9 T' hT'
    go_simp
    refine (fAdd_any _ 1 2 [gr 7 2 6 10 0] (gr (-1) 3 4 20 0) _ (HE6.out w9 h9).rows1 (by decide)).mono ?_
    rintro e w3 ⟨A, n, c, rfl, h1, h2⟩
    exact ⟨_, rfl, h2, hT' _ _ ⟨A, n, c, rfl, h1⟩⟩
  dsimp only [List.nil_append, List.cons_append]
  apply relS_any (mask := [false, false, false, false, false, true]) (T := addT [gr 7 2 6 10 0] (gr (-1) 3 4 20 0)) (hT := addT_stable _ _)
  · rfl
  · kernel_rfl
  · kernel_rfl
  · dsimp only [oblS]
    intro v52
    rintro w9 ⟨h9, t52⟩ T' hT'
    obtain ⟨A, n, c, rfl, h1⟩ := t52
    go_simp
    exact ⟨Below.refl _ _, hT' _ _ ⟨A, n, c, rfl, h1⟩⟩
  dsimp only [List.nil_append, List.cons_append]
  apply relS_any (mask := [false, false, false, false, false, false, true]) (T := rowsT exL) (hT := rowsT_stable _)
  · rfl
  · kernel_rfl
  · kernel_rfl
  · dsimp only [oblS]
    intro v46
    rintro w9 ⟨h9, t46⟩ T' hT'
    obtain ⟨A, n, c, rfl, h1⟩ := t46
    rw [ex_add2] at h1
    go_simp
    exact ⟨Below.refl _ _, hT' _ _ ⟨A, n, c, rfl, h1⟩⟩
  dsimp only [List.nil_append, List.cons_append]
  apply relS_det (mask := [false, false, false, false, false, false, true, false]) (x := .int .i64 0)
  · rfl
  · kernel_rfl
  · kernel_rfl
  · dsimp only [oblS]
    intro v46
    rintro w9 ⟨h9, t46⟩
    obtain ⟨A, n, c, rfl, h1⟩ := t46
    rw [ex_add1]
    go_simp
    exact ⟨Below.refl _ _, rfl⟩
  dsimp only [List.nil_append, List.cons_append]
  apply relS_any (mask := [false, false, false, false, false, false, false, true, false]) (T := rowsT exL) (hT := rowsT_stable _)
  · rfl
  · kernel_rfl
  · kernel_rfl
  · dsimp only [oblS]
    intro v53
    rintro w9 ⟨h9, t53⟩ T' hT'
    obtain ⟨A, n, c, rfl, h1⟩ := t53
    go_simp
    exact ⟨Below.refl _ _, hT' _ _ ⟨A, n, c, rfl, h1⟩⟩
  dsimp only [List.nil_append, List.cons_append]
  apply relS_det (mask := [false, false, false, false, false, false, false, false, true, false])
  · rfl
  · kernel_rfl
  · kernel_rfl
  · dsimp only [oblS]
    rintro w9 h9
    go_simp
    exact ⟨Below.refl _ _, rfl⟩
  dsimp only [List.nil_append, List.cons_append]
  refine relS_end (by rfl) ?_
  dsimp only [finS]
  -- rintro v52 v46 v53 v11 w8 ⟨⟨⟨⟨hb, t52⟩, t46⟩, t53⟩, t11⟩
  rintro v52 v46 v53 v11 w7 ⟨⟨⟨⟨hb7, -⟩, -⟩, -⟩, A11, n11, c11, rfl, r11⟩
  go_frame
  have hb37 := hb36.trans (hb7.mono hb36.size)
  have hE7 := hE6.below hb7
  clear hb36 hb7 hE6 HE6
  go_wp2_with fail
  refine (grade_any _ _ _ _ _ _).mono ?_
  rintro e w8 ⟨rfl, hb8⟩
  have hE8 := hE7.below hb8
  have hb38 := hb37.trans (hb8.mono hb37.size)
  have r8 := r11.keep fStable hb8.size hb8.block
  clear hE7 hb8 hb37 r11
  go_wp2_with fail
  refine (fAdd_any _ 2 2 exL (gr 7 2 6 20 0) _ hE8.rows (by decide)).mono ?_
  rintro e w9 ⟨A9, n9, c9, rfl, r9, hb9⟩
  rw [ex_add3]
  have hE9 := hE8.below hb9
  have hb39 := hb38.trans (hb9.mono hb38.size)
  have r9' := r8.keep fStable hb9.size hb9.block
  clear hE8 hb9 hb38 r9 r8
  go_wp2_with fail
  refine (fChanged_any _ 2 2 exL 15 20 _ hE9.rows (by decide)).mono ?_
  rintro e w10 ⟨A10, n10, c10, raw, rfl, rc, hch, hb10⟩
  rw [ex_changed] at hch
  have hE10 := hE9.below hb10
  have hb310 := hb39.trans (hb10.mono hb39.size)
  have r10 := r9'.keep fStable hb10.size hb10.block
  have HC10 := hidp hch
  have HR10 := hidp r10
  have HRC := hidp rc
  clear hE9 hb10 hb39 r9' rc hch r10
  go_wp2_with fail
  have hz8 : (w10.alloc (.cells #[.int .i64 0, .int .i64 0, .int .i64 0, .int .i64 0, .int .i64 0, .int .i64 0, .int .i64 0, .int .i64 0] 28)).heap[w10.heap.size]? = some (.cells #[.int .i64 0, .int .i64 0, .int .i64 0, .int .i64 0, .int .i64 0, .int .i64 0, .int .i64 0, .int .i64 0] 28 (0, 0)) := World.alloc_heap_new _ _
  have hba : Below w10.heap.size w10 (w10.alloc (.cells #[.int .i64 0, .int .i64 0, .int .i64 0, .int .i64 0, .int .i64 0, .int .i64 0, .int .i64 0, .int .i64 0] 28)) := (Below.refl _ _).alloc (Nat.le_refl _) _
  have rz : fSl (w10.alloc (.cells #[.int .i64 0, .int .i64 0, .int .i64 0, .int .i64 0, .int .i64 0, .int .i64 0, .int .i64 0, .int .i64 0] 28)) (w10.alloc (.cells #[.int .i64 0, .int .i64 0, .int .i64 0, .int .i64 0, .int .i64 0, .int .i64 0, .int .i64 0, .int .i64 0] 28)).heap.size (some ⟨w10.heap.size, 0, none⟩) 1 1 [⟨⟨0, 0, 0⟩, 0, 0, 0, 0, 0⟩] := rows_of_heap (k := 8) (l := [⟨⟨0, 0, 0⟩, 0, 0, 0, 0, 0⟩]) (c := 1) fEnc_len hz8 (Nat.le_refl _) (by decide) rfl
  refine (fCheck_any _ 1 1 _ _ rz).mono ?_
  rintro e w11 ⟨rfl, hb11⟩
  rw [ex_check1]
  have hb1011 : Below w10.heap.size w10 w11 := hba.trans (hb11.mono (by simp))
  have hE11 := hE10.below hb1011
  clear hz8 hba rz hb11
  go_wp2_with fail
  refine (fCheck_any _ 2 2 _ _ hE11.rows).mono ?_
  rintro e w12 ⟨rfl, hb12⟩
  rw [ex_check2]
  have hb1012 := hb1011.trans (hb12.mono hb1011.size)
  have hE12 := hE11.below hb12
  obtain ⟨y0, y1, y2⟩ := hE12.key
  clear hb1011 hb12 hE11
  go_wp2_with fail
  refine (fPoints_any _ 2 2 exL exK 5 5 20 _ hE12.rows).mono ?_
  rintro e w13 ⟨A13, n13, c13, rfl, r13, hb13⟩
  rw [ex_points1] at r13
  have hn13 : n13 = 0 := r13.1
  subst hn13
  have hb1013 := hb1012.trans (hb13.mono hb1012.size)
  have hE13 := hE12.below hb13
  have hb313 := hb310.trans (hb1013.mono hb310.size)
  have HB13 := hidp hb1013
  clear hb1012 hb13 hE12 y0 y1 y2 r13 hb1013 hb310
  go_wp2_with fail
  have HE : Hid (∀ W', Below w13.heap.size w13 W' → ExMem W' B) := fun W' h => hE13.below h
  have HR : Hid (∀ W', Below w13.heap.size w13 W' → fSl W' W'.heap.size A11 n11 c11 exL) := fun W' h => (HR10.out.keep fStable HB13.out.size HB13.out.block).keep fStable h.size h.block
  have HC : Hid (∀ W', Below w13.heap.size w13 W' → cSl W' W'.heap.size A10 n10 c10 raw ∧ ChOks W' raw [(exK, [(3, 4)])]) := fun W' h => ⟨(HRC.out.keep cStable HB13.out.size HB13.out.block).keep cStable h.size h.block, (HC10.out.below HB13.out).below h⟩
  clear HR10 HRC HC10 HB13
  refine wp_region_S w13.heap.size 61 (fun _ => false) (Nat.le_refl _) (by kernel_rfl) (by kernel_rfl) (by kernel_rfl) ?_
  dsimp only [List.take, List.drop]
  apply relS_det (mask := [])
  · rfl
  · kernel_rfl
  · kernel_rfl
  · dsimp only [oblS]
    rintro w9 h9
    go_simp
    exact ⟨Below.refl _ _, rfl⟩
  dsimp only [List.nil_append, List.cons_append]
  apply relS_det (mask := [true])
  · rfl
  · kernel_rfl
  · kernel_rfl
  · dsimp only [oblS]
    rintro w9 h9
    go_simp
    exact ⟨Below.refl _ _, rfl⟩
  dsimp only [List.nil_append, List.cons_append]
  apply relS_det (mask := [false, true])
  · rfl
  · kernel_rfl
  · kernel_rfl
  · dsimp only [oblS]
    rintro w9 h9
    go_simp
    exact ⟨Below.refl _ _, rfl⟩
  dsimp only [List.nil_append, List.cons_append]
  apply relS_detg (mask := [false, false, true]) (t := 89) (want := true)
  · rfl
  · kernel_rfl
  · kernel_rfl
  · dsimp only [oblS]
    refine ⟨by rfl, ?_⟩
    rintro w9 h9
    go_simp
    exact ⟨Below.refl _ _, rfl⟩
  dsimp only [List.nil_append, List.cons_append]
  apply relS_det (mask := [false, false, true, true])
  · rfl
  · kernel_rfl
  · kernel_rfl
  · dsimp only [oblS]
    rintro w9 h9
    go_simp
    exact ⟨Below.refl _ _, rfl⟩
  dsimp only [List.nil_append, List.cons_append]
  apply relS_det (mask := [false, false, false, false, true])
  · rfl
  · kernel_rfl
  · kernel_rfl
  · dsimp only [oblS]
    rintro w9 h9
    go_simp
    exact ⟨Below.refl _ _, rfl⟩
  dsimp only [List.nil_append, List.cons_append]
  apply relS_detg (mask := [false, false, false, false, false, true]) (t := 92) (want := true)
  · rfl
  · kernel_rfl
  · kernel_rfl
  · dsimp only [oblS]
    refine ⟨by rfl, ?_⟩
    rintro w9 h9
    go_simp
    exact ⟨Below.refl _ _, rfl⟩
  dsimp only [List.nil_append, List.cons_append]
  apply relS_detg (mask := [false, false, false, false, false, true, true]) (t := 92) (want := true)
  · rfl
  · kernel_rfl
  · kernel_rfl
  · dsimp only [oblS]
    refine ⟨by rfl, ?_⟩
    rintro w9 h9
    go_simp
    exact ⟨Below.refl _ _, rfl⟩
  dsimp only [List.nil_append, List.cons_append]
  apply relS_det (mask := [false, false, false, false, false, true, false, true])
  · rfl
  · kernel_rfl
  · kernel_rfl
  · dsimp only [oblS]
    rintro w9 h9
    go_simp
    exact ⟨Below.refl _ _, rfl⟩
  dsimp only [List.nil_append, List.cons_append]
  apply relS_det (mask := [false, false, false, false, false, false, false, false, true])
  · rfl
  · kernel_rfl
  · kernel_rfl
  · dsimp only [oblS]
    rintro w9 h9
    go_simp
    exact ⟨Below.refl _ _, rfl⟩
  dsimp only [List.nil_append, List.cons_append]
  apply relS_detg (mask := [false, false, false, false, false, false, false, false, false, true]) (t := 96) (want := true)
  · rfl
  · kernel_rfl
  · kernel_rfl
  · dsimp only [oblS]
    refine ⟨by rfl, ?_⟩
    rintro w9 h9
    go_simp
    exact ⟨Below.refl _ _, rfl⟩
  dsimp only [List.nil_append, List.cons_append]
  apply relS_detg (mask := [false, false, false, false, false, false, false, false, false, true, true]) (t := 96) (want := true)
  · rfl
  · kernel_rfl
  · kernel_rfl
  · dsimp only [oblS]
    refine ⟨by rfl, ?_⟩
    rintro w9 h9
    go_simp
    exact ⟨Below.refl _ _, rfl⟩
  dsimp only [List.nil_append, List.cons_append]
  apply relS_det (mask := [false, false, false, false, false, false, false, false, false, true, false, true])
  · rfl
  · kernel_rfl
  · kernel_rfl
  · dsimp only [oblS]
    rintro w9 h9
    go_simp
    exact ⟨Below.refl _ _, rfl⟩
  dsimp only [List.nil_append, List.cons_append]
  apply relS_det (mask := [false, false, false, false, false, false, false, false, false, false, false, false, true])
  · rfl
  · kernel_rfl
  · kernel_rfl
  · dsimp only [oblS]
    rintro w9 h9
    go_simp
    exact ⟨Below.refl _ _, rfl⟩
  dsimp only [List.nil_append, List.cons_append]
  apply relS_detg (mask := [false, false, false, false, false, false, false, false, false, false, false, false, false, true]) (t := 100) (want := true)
  · rfl
  · kernel_rfl
  · kernel_rfl
  · dsimp only [oblS]
    refine ⟨by rfl, ?_⟩
    rintro w9 h9
    go_simp
    exact ⟨Below.refl _ _, rfl⟩
  dsimp only [List.nil_append, List.cons_append]
  apply relS_det (mask := [false, false, false, false, false, false, false, false, false, false, false, false, false, true, true])
  · rfl
  · kernel_rfl
  · kernel_rfl
  · dsimp only [oblS]
    rintro w9 h9
    go_simp
    exact ⟨Below.refl _ _, rfl⟩
  dsimp only [List.nil_append, List.cons_append]
  apply relS_det (mask := [false, false, false, false, false, false, false, false, false, false, false, false, false, false, false, true])
  · rfl
  · kernel_rfl
  · kernel_rfl
  · dsimp only [oblS]
    rintro w9 h9
    go_simp
    exact ⟨Below.refl _ _, rfl⟩
  dsimp only [List.nil_append, List.cons_append]
  apply relS_detg (mask := [false, false, false, false, false, false, false, false, false, false, false, false, false, false, false, false, true]) (t := 103) (want := true)
  · rfl
  · kernel_rfl
  · kernel_rfl
  · dsimp only [oblS]
    refine ⟨by rfl, ?_⟩
    rintro w9 h9
    go_simp
    exact ⟨Below.refl _ _, rfl⟩
  dsimp only [List.nil_append, List.cons_append]
  apply relS_detg (mask := [false, false, false, false, false, false, false, false, false, false, false, false, false, false, false, false, true, true]) (t := 103) (want := true)
  · rfl
  · kernel_rfl
  · kernel_rfl
  · dsimp only [oblS]
    refine ⟨by rfl, ?_⟩
    rintro w9 h9
    go_simp
    exact ⟨Below.refl _ _, rfl⟩
  dsimp only [List.nil_append, List.cons_append]
  apply relS_det (mask := [false, false, false, false, false, false, false, false, false, false, false, false, false, false, false, false, true, false, true])
  · rfl
  · kernel_rfl
  · kernel_rfl
  · dsimp only [oblS]
    rintro w9 h9
    go_simp
    exact ⟨Below.refl _ _, rfl⟩
  dsimp only [List.nil_append, List.cons_append]
  apply relS_det (mask := [false, false, false, false, false, false, false, false, false, false, false, false, false, false, false, false, false, false, false, true])
  · rfl
  · kernel_rfl
  · kernel_rfl
  · dsimp only [oblS]
    rintro w9 h9
    go_simp
    exact ⟨Below.refl _ _, rfl⟩
  dsimp only [List.nil_append, List.cons_append]
  apply relS_detg (mask := [false, false, false, false, false, false, false, false, false, false, false, false, false, false, false, false, false, false, false, false, true]) (t := 107) (want := true)
  · rfl
  · kernel_rfl
  · kernel_rfl
  · dsimp only [oblS]
    refine ⟨by rfl, ?_⟩
    rintro w9 h9
    go_simp
    exact ⟨Below.refl _ _, rfl⟩
  dsimp only [List.nil_append, List.cons_append]
  apply relS_detg (mask := [false, false, false, false, false, false, false, false, false, false, false, false, false, false, false, false, false, false, false, false, true, false]) (t := 107) (want := true)
  · rfl
  · kernel_rfl
  · kernel_rfl
  · dsimp only [oblS]
    refine ⟨by rfl, ?_⟩
    rintro w9 h9
    go_simp
    exact ⟨Below.refl _ _, rfl⟩
  dsimp only [List.nil_append, List.cons_append]
  apply relS_detg (mask := [false, false, false, false, false, false, false, false, false, false, false, false, false, false, false, false, false, false, false, false, true, true, true]) (t := 107) (want := true) (x := .bool true)
  · rfl
  · kernel_rfl
  · kernel_rfl
  · dsimp only [oblS]
    refine ⟨by rfl, ?_⟩
    rintro w9 h9
    go_simp
    refine (fSame_any _ _ _ 2 _ 2 exL exL _ (HR.out w9 h9) (HE.out w9 h9).rows).mono ?_
    rintro e w3 ⟨rfl, hb3⟩
    exact ⟨_, rfl, hb3, by rw [decide_eq_true rfl]; rfl⟩
  dsimp only [List.nil_append, List.cons_append]
  apply relS_det (mask := [false, false, false, false, false, false, false, false, false, false, false, false, false, false, false, false, false, false, false, false, true, false, false, true])
  · rfl
  · kernel_rfl
  · kernel_rfl
  · dsimp only [oblS]
    rintro w9 h9
    go_simp
    exact ⟨Below.refl _ _, rfl⟩
  dsimp only [List.nil_append, List.cons_append]
  apply relS_det (mask := [false, false, false, false, false, false, false, false, false, false, false, false, false, false, false, false, false, false, false, false, false, false, false, false, true])
  · rfl
  · kernel_rfl
  · kernel_rfl
  · dsimp only [oblS]
    rintro w9 h9
    go_simp
    exact ⟨Below.refl _ _, rfl⟩
  dsimp only [List.nil_append, List.cons_append]
  apply relS_detg (mask := [false, false, false, false, false, false, false, false, false, false, false, false, false, false, false, false, false, false, false, false, false, false, false, false, false, true]) (t := 112) (want := true)
  · rfl
  · kernel_rfl
  · kernel_rfl
  · dsimp only [oblS]
    refine ⟨by rfl, ?_⟩
    rintro w9 h9
    go_simp
    exact ⟨Below.refl _ _, rfl⟩
  dsimp only [List.nil_append, List.cons_append]
  apply relS_detg (mask := [false, false, false, false, false, false, false, false, false, false, false, false, false, false, false, false, false, false, false, false, false, false, false, false, false, true, false]) (t := 112) (want := true) (x := .agg #[.int .i64 5, .int .i64 4, .int .i64 9])
  · rfl
  · kernel_rfl
  · kernel_rfl
  · dsimp only [oblS]
    refine ⟨by rfl, ?_⟩
    rintro w9 h9
    obtain ⟨z0, z1, z2⟩ := (HE.out w9 h9).key
    go_simp
    exact ⟨Below.refl _ _, rfl⟩
  dsimp only [List.nil_append, List.cons_append]
  apply relS_detg (mask := [false, false, false, false, false, false, false, false, false, false, false, false, false, false, false, false, false, false, false, false, false, false, false, false, false, true, false, false]) (t := 112) (want := true)
  · rfl
  · kernel_rfl
  · kernel_rfl
  · dsimp only [oblS]
    refine ⟨by rfl, ?_⟩
    rintro w9 h9
    go_simp
    exact ⟨Below.refl _ _, rfl⟩
  dsimp only [List.nil_append, List.cons_append]
  apply relS_anyg (mask := [false, false, false, false, false, false, false, false, false, false, false, false, false, false, false, false, false, false, false, false, false, false, false, false, false, true, false, false, true]) (t := 112) (want := true) (T := spT [(3, 4)]) (hT := spT_stable _)
  · rfl
  · kernel_rfl
  · kernel_rfl
  · dsimp only [oblS]
    refine ⟨by rfl, ?_⟩
    rintro w9 h9 T' hT'
    go_simp
    exact ⟨(Below.refl _ w9).alloc (Nat.le_refl _) _, hT' _ _ ⟨_, _, _, rfl, rows_of_heap (l := [(3, 4)]) pEnc_len (World.alloc_heap_new w9 _) (Nat.le_refl _) (by decide) rfl⟩⟩
  dsimp only [List.nil_append, List.cons_append]
  apply relS_anyg (mask := [false, false, false, false, false, false, false, false, false, false, false, false, false, false, false, false, false, false, false, false, false, false, false, false, false, true, false, true, false, true]) (t := 112) (want := true) (T := cT (exK, [(3, 4)])) (hT := cT_stable _)
  · rfl
  · kernel_rfl
  · kernel_rfl
  · dsimp only [oblS]
    intro v116
    refine ⟨by rfl, ?_⟩
    rintro w9 ⟨h9, t116⟩ T' hT'
    obtain ⟨A, n, c, rfl, hr⟩ := t116
    go_simp
    exact ⟨Below.refl _ _, hT' _ _ ⟨(exK, A, n, c), rfl, rfl, hr⟩⟩
  dsimp only [List.nil_append, List.cons_append]
  apply relS_anyg (mask := [false, false, false, false, false, false, false, false, false, false, false, false, false, false, false, false, false, false, false, false, false, false, false, false, false, true, false, false, false, false, true]) (t := 112) (want := true) (T := chT [(exK, [(3, 4)])]) (hT := chT_stable _)
  · rfl
  · kernel_rfl
  · kernel_rfl
  · dsimp only [oblS]
    intro v117
    refine ⟨by rfl, ?_⟩
    rintro w9 ⟨h9, t117⟩ T' hT'
    obtain ⟨⟨k', A, n, c⟩, rfl, h1, h2⟩ := t117
    simp only at h1 h2
    subst h1
    simp only [cEnc]
    go_simp
    refine ⟨(Below.refl _ w9).alloc (Nat.le_refl _) _, hT' _ _ ⟨_, _, _, [(exK, A, n, c)], rfl, rows_of_heap (l := [(exK, A, n, c)]) cEnc_len (World.alloc_heap_new w9 _) (Nat.le_refl _) (by decide) rfl, ?_⟩⟩
    exact (ChOks.nil _).snoc ⟨rfl, h2.keep sStable (by simp) (fun b hb => Below.heap_alloc _ _ _ hb)⟩
  dsimp only [List.nil_append, List.cons_append]
  apply relS_detg (mask := [false, false, false, false, false, false, false, false, false, false, false, false, false, false, false, false, false, false, false, false, false, false, false, false, false, true, true, false, false, false, false, true]) (t := 112) (want := true) (x := .bool true)
  · rfl
  · kernel_rfl
  · kernel_rfl
  · dsimp only [oblS]
    intro v118
    refine ⟨by rfl, ?_⟩
    rintro w9 ⟨h9, t118⟩
    obtain ⟨A, n, c, raw2, rfl, h1, h2⟩ := t118
    go_simp
    refine (rSameChanges_any _ _ _ _ _ _ _ _ _ _ _ (HC.out w9 h9).1 h1 (HC.out w9 h9).2 h2).mono ?_
    rintro e w3 ⟨rfl, hb3⟩
    exact ⟨_, rfl, hb3, by rw [decide_eq_true rfl]; rfl⟩
  dsimp only [List.nil_append, List.cons_append]
  apply relS_det (mask := [false, false, false, false, false, false, false, false, false, false, false, false, false, false, false, false, false, false, false, false, false, false, false, false, false, true, false, false, false, false, false, false, true])
  · rfl
  · kernel_rfl
  · kernel_rfl
  · dsimp only [oblS]
    rintro w9 h9
    go_simp
    exact ⟨Below.refl _ _, rfl⟩
  dsimp only [List.nil_append, List.cons_append]
  apply relS_det (mask := [false, false, false, false, false, false, false, false, false, false, false, false, false, false, false, false, false, false, false, false, false, false, false, false, false, false, false, false, false, false, false, false, false, true])
  · rfl
  · kernel_rfl
  · kernel_rfl
  · dsimp only [oblS]
    rintro w9 h9
    go_simp
    exact ⟨Below.refl _ _, rfl⟩
  dsimp only [List.nil_append, List.cons_append]
  apply relS_detg (mask := [false, false, false, false, false, false, false, false, false, false, false, false, false, false, false, false, false, false, false, false, false, false, false, false, false, false, false, false, false, false, false, false, false, false, true]) (t := 121) (want := true)
  · rfl
  · kernel_rfl
  · kernel_rfl
  · dsimp only [oblS]
    refine ⟨by rfl, ?_⟩
    rintro w9 h9
    go_simp
    exact ⟨Below.refl _ _, rfl⟩
  dsimp only [List.nil_append, List.cons_append]
  apply relS_detg (mask := [false, false, false, false, false, false, false, false, false, false, false, false, false, false, false, false, false, false, false, false, false, false, false, false, false, false, false, false, false, false, false, false, false, false, true, true]) (t := 121) (want := true) (x := .bool true)
  · rfl
  · kernel_rfl
  · kernel_rfl
  · dsimp only [oblS]
    refine ⟨by rfl, ?_⟩
    rintro w9 h9
    go_simp
    refine (fAlike_any _ none 2 2 0 0 exL [] 1 2 _ (HE.out w9 h9).rows (Rows.nil (by decide))).mono ?_
    rintro e w3 ⟨rfl, hb3⟩
    exact ⟨_, rfl, hb3, by rw [ex_alike1]; rfl⟩
  dsimp only [List.nil_append, List.cons_append]
  apply relS_det (mask := [false, false, false, false, false, false, false, false, false, false, false, false, false, false, false, false, false, false, false, false, false, false, false, false, false, false, false, false, false, false, false, false, false, false, true, false, true])
  · rfl
  · kernel_rfl
  · kernel_rfl
  · dsimp only [oblS]
    rintro w9 h9
    go_simp
    exact ⟨Below.refl _ _, rfl⟩
  dsimp only [List.nil_append, List.cons_append]
  apply relS_det (mask := [false, false, false, false, false, false, false, false, false, false, false, false, false, false, false, false, false, false, false, false, false, false, false, false, false, false, false, false, false, false, false, false, false, false, false, false, false, true])
  · rfl
  · kernel_rfl
  · kernel_rfl
  · dsimp only [oblS]
    rintro w9 h9
    go_simp
    exact ⟨Below.refl _ _, rfl⟩
  dsimp only [List.nil_append, List.cons_append]
  apply relS_detg (mask := [false, false, false, false, false, false, false, false, false, false, false, false, false, false, false, false, false, false, false, false, false, false, false, false, false, false, false, false, false, false, false, false, false, false, false, false, false, false, true]) (t := 125) (want := true)
  · rfl
  · kernel_rfl
  · kernel_rfl
  · dsimp only [oblS]
    refine ⟨by rfl, ?_⟩
    rintro w9 h9
    go_simp
    exact ⟨Below.refl _ _, rfl⟩
  dsimp only [List.nil_append, List.cons_append]
  apply relS_detg (mask := [false, false, false, false, false, false, false, false, false, false, false, false, false, false, false, false, false, false, false, false, false, false, false, false, false, false, false, false, false, false, false, false, false, false, false, false, false, false, true, false]) (t := 125) (want := true) (x := .agg #[.int .i64 5, .int .i64 4, .int .i64 9])
  · rfl
  · kernel_rfl
  · kernel_rfl
  · dsimp only [oblS]
    refine ⟨by rfl, ?_⟩
    rintro w9 h9
    obtain ⟨z0, z1, z2⟩ := (HE.out w9 h9).key
    go_simp
    exact ⟨Below.refl _ _, rfl⟩
  dsimp only [List.nil_append, List.cons_append]
  apply relS_detg (mask := [false, false, false, false, false, false, false, false, false, false, false, false, false, false, false, false, false, false, false, false, false, false, false, false, false, false, false, false, false, false, false, false, false, false, false, false, false, false, true, false, true]) (t := 125) (want := true)
  · rfl
  · kernel_rfl
  · kernel_rfl
  · dsimp only [oblS]
    refine ⟨by rfl, ?_⟩
    rintro w9 h9
    go_simp
    exact ⟨Below.refl _ _, rfl⟩
  dsimp only [List.nil_append, List.cons_append]
  apply relS_anyg (mask := [false, false, false, false, false, false, false, false, false, false, false, false, false, false, false, false, false, false, false, false, false, false, false, false, false, false, false, false, false, false, false, false, false, false, false, false, false, false, true, false, false, true]) (t := 125) (want := true) (T := rdT [(exK, 0, 9)]) (hT := rdT_stable _)
  · rfl
  · kernel_rfl
  · kernel_rfl
  · dsimp only [oblS]
    refine ⟨by rfl, ?_⟩
    rintro w9 h9 T' hT'
    go_simp
    exact ⟨(Below.refl _ w9).alloc (Nat.le_refl _) _, hT' _ _ ⟨_, _, _, rfl, rows_of_heap (l := [(exK, 0, 9)]) rdEnc_len (World.alloc_heap_new w9 _) (Nat.le_refl _) (by decide) rfl⟩⟩
  dsimp only [List.nil_append, List.cons_append]
  apply relS_detg (mask := [false, false, false, false, false, false, false, false, false, false, false, false, false, false, false, false, false, false, false, false, false, false, false, false, false, false, false, false, false, false, false, false, false, false, false, false, false, false, true, true, false, false, true]) (t := 125) (want := true) (x := .bool false)
  · rfl
  · kernel_rfl
  · kernel_rfl
  · dsimp only [oblS]
    intro v129
    refine ⟨by rfl, ?_⟩
    rintro w9 ⟨h9, t129⟩
    obtain ⟨A, n, c, rfl, hr⟩ := t129
    go_simp
    refine (fAlike_any _ _ 2 2 _ _ exL [(exK, 0, 9)] 15 20 _ (HE.out w9 h9).rows hr).mono ?_
    rintro e w3 ⟨rfl, hb3⟩
    exact ⟨_, rfl, hb3, by rw [ex_alike2]; rfl⟩
  dsimp only [List.nil_append, List.cons_append]
  apply relS_detg (mask := [false, false, false, false, false, false, false, false, false, false, false, false, false, false, false, false, false, false, false, false, false, false, false, false, false, false, false, false, false, false, false, false, false, false, false, false, false, false, true, false, false, false, false, true]) (t := 125) (want := true)
  · rfl
  · kernel_rfl
  · kernel_rfl
  · dsimp only [oblS]
    refine ⟨by rfl, ?_⟩
    rintro w9 h9
    go_simp
    exact ⟨Below.refl _ _, rfl⟩
  dsimp only [List.nil_append, List.cons_append]
  apply relS_det (mask := [false, false, false, false, false, false, false, false, false, false, false, false, false, false, false, false, false, false, false, false, false, false, false, false, false, false, false, false, false, false, false, false, false, false, false, false, false, false, true, false, false, false, false, false, true])
  · rfl
  · kernel_rfl
  · kernel_rfl
  · dsimp only [oblS]
    rintro w9 h9
    go_simp
    exact ⟨Below.refl _ _, rfl⟩
  dsimp only [List.nil_append, List.cons_append]
  apply relS_det (mask := [false, false, false, false, false, false, false, false, false, false, false, false, false, false, false, false, false, false, false, false, false, false, false, false, false, false, false, false, false, false, false, false, false, false, false, false, false, false, false, false, false, false, false, false, false, true])
  · rfl
  · kernel_rfl
  · kernel_rfl
  · dsimp only [oblS]
    rintro w9 h9
    go_simp
    exact ⟨Below.refl _ _, rfl⟩
  dsimp only [List.nil_append, List.cons_append]
  apply relS_detg (mask := [false, false, false, false, false, false, false, false, false, false, false, false, false, false, false, false, false, false, false, false, false, false, false, false, false, false, false, false, false, false, false, false, false, false, false, false, false, false, false, false, false, false, false, false, false, false, true]) (t := 133) (want := true)
  · rfl
  · kernel_rfl
  · kernel_rfl
  · dsimp only [oblS]
    refine ⟨by rfl, ?_⟩
    rintro w9 h9
    go_simp
    exact ⟨Below.refl _ _, rfl⟩
  dsimp only [List.nil_append, List.cons_append]
  apply relS_detg (mask := [false, false, false, false, false, false, false, false, false, false, false, false, false, false, false, false, false, false, false, false, false, false, false, false, false, false, false, false, false, false, false, false, false, false, false, false, false, false, false, false, false, false, false, false, false, false, true, false]) (t := 133) (want := true) (x := .agg #[.int .i64 5, .int .i64 4, .int .i64 9])
  · rfl
  · kernel_rfl
  · kernel_rfl
  · dsimp only [oblS]
    refine ⟨by rfl, ?_⟩
    rintro w9 h9
    obtain ⟨z0, z1, z2⟩ := (HE.out w9 h9).key
    go_simp
    exact ⟨Below.refl _ _, rfl⟩
  dsimp only [List.nil_append, List.cons_append]
  apply relS_anyg (mask := [false, false, false, false, false, false, false, false, false, false, false, false, false, false, false, false, false, false, false, false, false, false, false, false, false, false, false, false, false, false, false, false, false, false, false, false, false, false, false, false, false, false, false, false, false, false, true, true, true]) (t := 133) (want := true) (T := ptsT (pointsF exL exK 0 9 20)) (hT := ptsT_stable _)
  · rfl
  · kernel_rfl
  · kernel_rfl
  · dsimp only [oblS]
    refine ⟨by rfl, ?_⟩
    rintro w9 h9 T' hT'
    go_simp
    refine (fPoints_any _ 2 2 exL exK 0 9 20 _ (HE.out w9 h9).rows).mono ?_
    rintro e w3 ⟨A, n, c, rfl, hr, hb3⟩
    exact ⟨_, rfl, hb3, hT' _ _ ⟨A, n, c, rfl, hr⟩⟩
  dsimp only [List.nil_append, List.cons_append]
  apply relS_detg (mask := [false, false, false, false, false, false, false, false, false, false, false, false, false, false, false, false, false, false, false, false, false, false, false, false, false, false, false, false, false, false, false, false, false, false, false, false, false, false, false, false, false, false, false, false, false, false, true, false, false, true]) (t := 133) (want := true) (x := .int .i64 3)
  · rfl
  · kernel_rfl
  · kernel_rfl
  · dsimp only [oblS]
    intro v136
    refine ⟨by rfl, ?_⟩
    rintro w9 ⟨h9, t136⟩
    obtain ⟨A, n, c, rfl, hr⟩ := t136
    obtain rfl : n = 3 := by rw [hr.1, ex_points2]
    go_simp
    exact ⟨Below.refl _ _, rfl⟩
  dsimp only [List.nil_append, List.cons_append]
  apply relS_detg (mask := [false, false, false, false, false, false, false, false, false, false, false, false, false, false, false, false, false, false, false, false, false, false, false, false, false, false, false, false, false, false, false, false, false, false, false, false, false, false, false, false, false, false, false, false, false, false, true, false, false, false, true]) (t := 133) (want := true)
  · rfl
  · kernel_rfl
  · kernel_rfl
  · dsimp only [oblS]
    refine ⟨by rfl, ?_⟩
    rintro w9 h9
    go_simp
    exact ⟨Below.refl _ _, rfl⟩
  dsimp only [List.nil_append, List.cons_append]
  apply relS_det (mask := [false, false, false, false, false, false, false, false, false, false, false, false, false, false, false, false, false, false, false, false, false, false, false, false, false, false, false, false, false, false, false, false, false, false, false, false, false, false, false, false, false, false, false, false, false, false, true, false, false, false, false, true])
  · rfl
  · kernel_rfl
  · kernel_rfl
  · dsimp only [oblS]
    rintro w9 h9
    go_simp
    exact ⟨Below.refl _ _, rfl⟩
  dsimp only [List.nil_append, List.cons_append]
  apply relS_det (mask := [false, false, false, false, false, false, false, false, false, false, false, false, false, false, false, false, false, false, false, false, false, false, false, false, false, false, false, false, false, false, false, false, false, false, false, false, false, false, false, false, false, false, false, false, false, false, false, false, false, false, false, false, true])
  · rfl
  · kernel_rfl
  · kernel_rfl
  · dsimp only [oblS]
    rintro w9 h9
    go_simp
    exact ⟨Below.refl _ _, rfl⟩
  dsimp only [List.nil_append, List.cons_append]
  apply relS_detg (mask := [false, false, false, false, false, false, false, false, false, false, false, false, false, false, false, false, false, false, false, false, false, false, false, false, false, false, false, false, false, false, false, false, false, false, false, false, false, false, false, false, false, false, false, false, false, false, false, false, false, false, false, false, false, true]) (t := 140) (want := true)
  · rfl
  · kernel_rfl
  · kernel_rfl
  · dsimp only [oblS]
    refine ⟨by rfl, ?_⟩
    rintro w9 h9
    go_simp
    exact ⟨Below.refl _ _, rfl⟩
  dsimp only [List.nil_append, List.cons_append]
  apply relS_anyg (mask := [false, false, false, false, false, false, false, false, false, false, false, false, false, false, false, false, false, false, false, false, false, false, false, false, false, false, false, false, false, false, false, false, false, false, false, false, false, false, false, false, false, false, false, false, false, false, false, false, false, false, false, false, false, true, true]) (t := 140) (want := true) (T := rowsT [gr 7 2 6 10 0]) (hT := rowsT_stable _)
  · rfl
  · kernel_rfl
  · kernel_rfl
  · dsimp only [oblS]
    refine ⟨by rfl, ?_⟩
    rintro w9 h9 T' hT'
    go_simp
    refine (fUpto_any _ 2 2 exL 19 _ (HE.out w9 h9).rows (by decide)).mono ?_
    rintro e w3 ⟨A, n, c, rfl, hr, hb3⟩
    rw [ex_upto] at hr
    exact ⟨_, rfl, hb3, hT' _ _ ⟨A, n, c, rfl, hr⟩⟩
  dsimp only [List.nil_append, List.cons_append]
  apply relS_detg (mask := [false, false, false, false, false, false, false, false, false, false, false, false, false, false, false, false, false, false, false, false, false, false, false, false, false, false, false, false, false, false, false, false, false, false, false, false, false, false, false, false, false, false, false, false, false, false, false, false, false, false, false, false, false, true, false, false]) (t := 140) (want := true)
  · rfl
  · kernel_rfl
  · kernel_rfl
  · dsimp only [oblS]
    refine ⟨by rfl, ?_⟩
    rintro w9 h9
    go_simp
    exact ⟨Below.refl _ _, rfl⟩
  dsimp only [List.nil_append, List.cons_append]
  apply relS_detg (mask := [false, false, false, false, false, false, false, false, false, false, false, false, false, false, false, false, false, false, false, false, false, false, false, false, false, false, false, false, false, false, false, false, false, false, false, false, false, false, false, false, false, false, false, false, false, false, false, false, false, false, false, false, false, true, false, false, true]) (t := 140) (want := true) (x := .slice (some ⟨B, 0, none⟩) 1 2)
  · rfl
  · kernel_rfl
  · kernel_rfl
  · dsimp only [oblS]
    refine ⟨by rfl, ?_⟩
    rintro w9 h9
    go_simp
    exact ⟨Below.refl _ _, rfl⟩
  dsimp only [List.nil_append, List.cons_append]
  apply relS_detg (mask := [false, false, false, false, false, false, false, false, false, false, false, false, false, false, false, false, false, false, false, false, false, false, false, false, false, false, false, false, false, false, false, false, false, false, false, false, false, false, false, false, false, false, false, false, false, false, false, false, false, false, false, false, false, true, false, true, false, true]) (t := 140) (want := true) (x := .bool true)
  · rfl
  · kernel_rfl
  · kernel_rfl
  · dsimp only [oblS]
    intro v142
    refine ⟨by rfl, ?_⟩
    rintro w9 ⟨h9, t142⟩
    obtain ⟨A, n, c, rfl, hr⟩ := t142
    go_simp
    refine (fSame_any _ _ _ 1 _ 2 _ [gr 7 2 6 10 0] _ hr (HE.out w9 h9).rows1).mono ?_
    rintro e w3 ⟨rfl, hb3⟩
    exact ⟨_, rfl, hb3, by rw [decide_eq_true rfl]; rfl⟩
  dsimp only [List.nil_append, List.cons_append]
  apply relS_det (mask := [false, false, false, false, false, false, false, false, false, false, false, false, false, false, false, false, false, false, false, false, false, false, false, false, false, false, false, false, false, false, false, false, false, false, false, false, false, false, false, false, false, false, false, false, false, false, false, false, false, false, false, false, false, true, false, false, false, false, true])
  · rfl
  · kernel_rfl
  · kernel_rfl
  · dsimp only [oblS]
    rintro w9 h9
    go_simp
    exact ⟨Below.refl _ _, rfl⟩
  dsimp only [List.nil_append, List.cons_append]
  apply relS_det (mask := [false, false, false, false, false, false, false, false, false, false, false, false, false, false, false, false, false, false, false, false, false, false, false, false, false, false, false, false, false, false, false, false, false, false, false, false, false, false, false, false, false, false, false, false, false, false, false, false, false, false, false, false, false, false, false, false, false, false, false, true])
  · rfl
  · kernel_rfl
  · kernel_rfl
  · dsimp only [oblS]
    rintro w9 h9
    go_simp
    exact ⟨Below.refl _ _, rfl⟩
  dsimp only [List.nil_append, List.cons_append]
  refine relS_end (by rfl) ?_
  dsimp only [finS]
  -- rintro v116 v117 v118 v129 v136 v142 w8 ⟨⟨⟨⟨⟨⟨hb, t116⟩, t117⟩, t118⟩, t129⟩, t136⟩, t142⟩
  rintro v116 v117 v118 v129 v136 v142 w14 ⟨⟨⟨⟨⟨⟨hb14, -⟩, -⟩, -⟩, -⟩, -⟩, -⟩
  go_frame
  go_wp2_with fail
  go_ret
  exact ⟨rfl, HBW.out.trans (Below.mono (hb313.trans (hb14.mono hb313.size)) HBW.out.size)⟩
end Go.Proofs.Ytoalmffhiinbbaa
