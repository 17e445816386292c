/- Several texts in one: A3 A4 A14 A15 A17 A18. -/
import Derived.Test.YtbegdcjofnfkiaaGreatDoorQ15
import Derived.Test.YtbegdcjofnfkiaaGreatDoorQ10
import Derived.Test.YtbegdcjofnfkiaaGreatDoorQ4
import Derived.Test.YtbegdcjofnfkiaaGreatDoorQ5
import Derived.Test.YtbegdcjofnfkiaaGreatDoorQ7
import Derived.Test.YtbegdcjofnfkiaaGreatDoorQ6
import Derived.Deep.RegionLaw
import Derived.Laws.IdiomCopy
import Derived.Shelf.Spec.SlicesInsert
namespace Go.Proofs.YtbegdcjofnfkiaaGreatDoor
section
open Go.RowKit
def LastAt (w : World) (L : Nat) : Option Fc → Prop
 | none => w.heap[L]? = some (.cells #[.pointer none] 99 (0, 0))
 | some a => ∃ F, F ≠ L ∧ w.heap[L]? = some (.cells #[.pointer (some ⟨F, 0, none⟩)] 99 (0, 0)) ∧ w.heap[F]? = some (.cells #[.int .i64 a.key.kind, .int .i64 a.key.subj, .int .i64 a.key.obj, .int .i64 a.val, .int .i64 a.fr, .int .i64 a.to, .int .i64 a.known, .int .i64 a.no] 54 (0, 0))
theorem LastAt.keep {w w' : World} {L : Nat} {o : Option Fc} (h : LastAt w L o) (hb : Below w.heap.size w w') : LastAt w' L o := by
  cases o with
  | none => exact (hb.block _ (lt_of_heap h)).trans h
  | some a =>
    obtain ⟨F, h1, h2, h3⟩ := h
    exact ⟨F, h1, (hb.block _ (lt_of_heap h2)).trans h2, (hb.block _ (lt_of_heap h3)).trans h3⟩
theorem LastAt.lt {w : World} {L : Nat} {o : Option Fc} (h : LastAt w L o) : L < w.heap.size := by
 cases o with
 | none => exact lt_of_heap h
 | some a => obtain ⟨F, h1, h2, h3⟩ := h; exact lt_of_heap h2
theorem LastAt.cell {w : World} {L : Nat} {o : Option Fc} (h : LastAt w L o) : ∃ c, w.heap[L]? = some (.cells #[c] 99 (0, 0)) := by
 cases o with
 | none => exact ⟨_, h⟩
 | some a => obtain ⟨F, h1, h2, h3⟩ := h; exact ⟨_, h2⟩
theorem checkF_one (f : Fc) : (checkF [f] == 0) = f.ok := by
 unfold checkF
 cases h : f.ok <;> simp [h, sortedB]
set_option maxRecDepth 100000 in
set_option maxHeartbeats 4000000 in
theorem good1_any (L : Nat) (last : Option Fc) (f : Fc) (w : World) (hL : LastAt w L last) :
  Calls Tryz.prog 118 #[.agg #[.int .i64 f.key.kind, .int .i64 f.key.subj, .int .i64 f.key.obj, .int .i64 f.val, .int .i64 f.fr, .int .i64 f.to, .int .i64 f.known, .int .i64 f.no], .pointer (some ⟨L, 0, none⟩)] w fun e w' => e = demandE (nextOk last f) 470 ∧ (nextOk last f = true → LastAt w' L (some f)) ∧ Kept (fun b => b = L) w w' := by
 obtain ⟨W0, hW0⟩ : ∃ W0, w.alloc (.cells #[.int .i64 f.key.kind, .int .i64 f.key.subj, .int .i64 f.key.obj, .int .i64 f.val, .int .i64 f.fr, .int .i64 f.to, .int .i64 f.known, .int .i64 f.no] 54) = W0 := ⟨_, rfl⟩
 have hB0 : Below w.heap.size w W0 := hW0 ▸ (Below.refl _ w).alloc (Nat.le_refl _) _
 have g0 : W0.heap[w.heap.size]? = some (.cells #[.int .i64 f.key.kind, .int .i64 f.key.subj, .int .i64 f.key.obj, .int .i64 f.val, .int .i64 f.fr, .int .i64 f.to, .int .i64 f.known, .int .i64 f.no] 54 (0, 0)) := hW0 ▸ World.alloc_heap_new _ _
 have hL0 := hL.keep hB0
 have HL0 := hidp hL0
 have HLlt := hidp hL.lt
 have HB0 := hidp hB0
 have HG0 := hidp g0
 have HW0 := hidp hW0
 obtain ⟨ck, hck⟩ : ∃ z, checkF [f] = z := ⟨_, rfl⟩
 have HCk := hidp hck
 have h6 := checkF_one f
 rw [hck] at h6
 have HS1 : Hid (∀ W A c, Rows 8 (Rep.flat fEnc) W W.heap.size A 1 c [f] → Calls Tryz.prog 20 #[.slice A 1 c] W fun e w' => e = .returned (.int .i64 ck) ∧ Below W.heap.size W w') := fun W A c h => by
  have := fCheck_any A 1 c [f] W h
  rwa [hck] at this
 clear hB0 hL hL0 g0 hck hW0
 have y0 := cell_of_heap (o := 0) HG0.out
 have y1 := cell_of_heap (o := 1) HG0.out
 have y2 := cell_of_heap (o := 2) HG0.out
 have y3 := cell_of_heap (o := 3) HG0.out
 have y4 := cell_of_heap (o := 4) HG0.out
 have y5 := cell_of_heap (o := 5) HG0.out
 have y6 := cell_of_heap (o := 6) HG0.out
 have y7 := cell_of_heap (o := 7) HG0.out
 have l0 := lt_of_heap HG0.out
 simp only [List.getElem?_toArray, List.getElem?_cons_zero, List.getElem?_cons_succ] at y0 y1 y2 y3 y4 y5 y6 y7
 obtain ⟨fo, hfo⟩ : ∃ b, f.ok = b := ⟨_, rfl⟩
 rw [hfo] at h6
 have HFo := hidp hfo
 clear hfo
 go_enter Tryz.func118, Tryz.ntmps118
 cases fo
 ·go_wp2_with fail
  rw [HW0.out]
  refine wp_region_S W0.heap.size 16 (fun _ => false) (Nat.le_refl _) (by kernel_rfl) (by kernel_rfl) (by kernel_rfl) ?_
  dsimp only [List.take, List.drop]
  apply relS_det (mask := []) (x := .agg #[.int .i64 f.key.kind, .int .i64 f.key.subj, .int .i64 f.key.obj, .int .i64 f.val, .int .i64 f.fr, .int .i64 f.to, .int .i64 f.known, .int .i64 f.no])
  ·rfl
  ·kernel_rfl
  ·kernel_rfl
  ·dsimp only [oblS]
   rintro w9 h9
   have hc9 := (bcell h9).1
   go_simp
   exact ⟨Below.refl _ _, rfl⟩
  dsimp only [naL, caL]
  apply relS_any (mask := [true]) (T := fun v W => ∃ A c, v = .slice A 1 c ∧ Rows 8 (Rep.flat fEnc) W W.heap.size A 1 c [f]) (hT := fun v w w' hb ⟨A, c, e, h⟩ => ⟨A, c, e, h.keep (Rep.flat_stable _) hb.size hb.block⟩)
  ·rfl
  ·kernel_rfl
  ·kernel_rfl
  ·dsimp only [oblS]
   rintro w9 h9 T' hT'
   go_simp
   exact ⟨(Below.refl _ w9).alloc (Nat.le_refl _) _, hT' _ _ ⟨_, _, rfl, rows_of_heap (l := [f]) fEnc_len (World.alloc_heap_new w9 _) (Nat.le_refl _) (by decide) rfl⟩⟩
  dsimp only [naL, caL]
  apply relS_det (mask := [false, true]) (x := .int .i64 ck)
  ·rfl
  ·kernel_rfl
  ·kernel_rfl
  ·dsimp only [oblS]
   intro v4
   rintro w9 ⟨h9, t4⟩
   obtain ⟨A, c, e4, h4⟩ := t4
   subst e4
   go_simp
   refine (HS1.out w9 A c h4).mono ?_
   rintro e w7 ⟨rfl, hb7⟩
   exact ⟨_, rfl, hb7, rfl⟩
  dsimp only [naL, caL]
  apply relS_det (mask := [false, false, true]) (x := .bool false)
  ·rfl
  ·kernel_rfl
  ·kernel_rfl
  ·dsimp only [oblS]
   rintro w9 h9
   go_simp
   exact ⟨Below.refl _ _, rfl⟩
  dsimp only [naL, caL]
  apply relS_det (mask := [false, false, false, true])
  ·rfl
  ·kernel_rfl
  ·kernel_rfl
  ·dsimp only [oblS]
   rintro w9 h9
   go_simp
   exact ⟨Below.refl _ _, rfl⟩
  dsimp only [naL, caL]
  apply relS_not (mask := [false, false, false, false, true]) (t := 7) (want := true) (hf := by rfl) (hg := by kernel_rfl) (hm := by kernel_rfl)
  ·rfl
  dsimp only [naL, caL]
  apply relS_not (mask := [false, false, false, false, true, true]) (t := 7) (want := true) (hf := by rfl) (hg := by kernel_rfl) (hm := by kernel_rfl)
  ·rfl
  dsimp only [naL, caL]
  apply relS_not (mask := [false, false, false, false, true, false, true]) (t := 7) (want := true) (hf := by rfl) (hg := by kernel_rfl) (hm := by kernel_rfl)
  ·rfl
  dsimp only [naL, caL]
  apply relS_if (mask := [false, false, false, false, false, false, false, true]) (t := 10) (want := false) (g := false) (x := undef)
  ·rfl
  ·kernel_rfl
  ·kernel_rfl
  ·dsimp only [oblS]
   refine ⟨⟨undef, by rfl, (fun h => by cases h), (fun _ h => by cases h)⟩, ?_⟩
   intro hg
   rintro w9 h9
   exact absurd hg (by simp)
  dsimp only [naL, caL]
  apply relS_if (mask := [false, false, false, false, false, false, false, true, true]) (t := 10) (want := false) (g := false) (x := undef)
  ·rfl
  ·kernel_rfl
  ·kernel_rfl
  ·dsimp only [oblS]
   refine ⟨⟨undef, by rfl, (fun h => by cases h), (fun _ h => by cases h)⟩, ?_⟩
   intro hg
   rintro w9 h9
   exact absurd hg (by simp)
  dsimp only [naL, caL]
  apply relS_if (mask := [false, false, false, false, false, false, false, true, false, true]) (t := 10) (want := false) (g := false) (x := undef)
  ·rfl
  ·kernel_rfl
  ·kernel_rfl
  ·dsimp only [oblS]
   refine ⟨⟨undef, by rfl, (fun h => by cases h), (fun _ h => by cases h)⟩, ?_⟩
   intro hg
   rintro w9 h9
   exact absurd hg (by simp)
  dsimp only [naL, caL]
  apply relS_if (mask := [false, false, false, false, false, false, false, true, false, false, false]) (t := 10) (want := false) (g := false) (x := undef)
  ·rfl
  ·kernel_rfl
  ·kernel_rfl
  ·dsimp only [oblS]
   refine ⟨⟨undef, by rfl, (fun h => by cases h), (fun _ h => by cases h)⟩, ?_⟩
   intro hg
   rintro w9 h9
   exact absurd hg (by simp)
  dsimp only [naL, caL]
  apply relS_if (mask := [false, false, false, false, false, false, false, true, false, false, true, true]) (t := 10) (want := false) (g := false) (x := undef)
  ·rfl
  ·kernel_rfl
  ·kernel_rfl
  ·dsimp only [oblS]
   refine ⟨⟨undef, by rfl, (fun h => by cases h), (fun _ h => by cases h)⟩, ?_⟩
   intro hg
   rintro w9 h9
   exact absurd hg (by simp)
  dsimp only [naL, caL]
  apply relS_if (mask := [false, false, false, false, false, false, false, true, false, false, false, false, true]) (t := 10) (want := false) (g := false) (x := undef)
  ·rfl
  ·kernel_rfl
  ·kernel_rfl
  ·dsimp only [oblS]
   refine ⟨⟨undef, by rfl, (fun h => by cases h), (fun _ h => by cases h)⟩, ?_⟩
   intro hg
   rintro w9 h9
   exact absurd hg (by simp)
  dsimp only [naL, caL]
  apply relS_not (mask := [false, false, false, false, true, false, false, true, false, false, false, false, false, true]) (t := 7) (want := true) (hf := by rfl) (hg := by kernel_rfl) (hm := by kernel_rfl)
  ·rfl
  dsimp only [naL, caL]
  apply relS_det (mask := [false, false, false, false, true, false, false, false, false, false, false, false, false, false, true]) (x := .bool false)
  ·rfl
  ·kernel_rfl
  ·kernel_rfl
  ·dsimp only [oblS]
   rintro w9 h9
   go_simp
   exact ⟨Below.refl _ _, rfl⟩
  dsimp only [naL, caL]
  refine relS_end (by rfl) ?_
  dsimp only [finS]
  rintro v4 w8 ⟨hb8, _⟩
  have HB8 := hidp hb8
  have HB9 := hidp (HB0.out.trans (hb8.mono HB0.out.size))
  clear y0 y1 y2 y3 y4 y5 y6 y7 l0 hb8
  go_simp
  go_wp2_with fail
  have HN : Hid (nextOk last f = false) := by show _ = _; unfold nextOk; rw [HFo.out]; rfl
  refine (demand_any false 470 w8).mono ?_
  rintro e w7 ⟨rfl, rfl⟩
  exact ⟨rfl, by rw [HN.out]; rfl, (fun h => by rw [HN.out] at h; cases h), (Kept.refl (fun b => b = L) w).below HB9.out (fun b h1 h2 => by omega)⟩
 ·rcases last with _ | a
  ·have HN : Hid (nextOk none f = true) := by show _ = _; unfold nextOk; rw [HFo.out]; rfl
   have hcl := cell_of_heap (o := 0) HL0.out
   have ll := lt_of_heap HL0.out
   simp only [List.getElem?_toArray, List.getElem?_cons_zero] at hcl
   go_wp2_with fail
   rw [HW0.out]
   refine wp_region_S W0.heap.size 16 (fun _ => false) (Nat.le_refl _) (by kernel_rfl) (by kernel_rfl) (by kernel_rfl) ?_
   dsimp only [List.take, List.drop]
   apply relS_det (mask := []) (x := .agg #[.int .i64 f.key.kind, .int .i64 f.key.subj, .int .i64 f.key.obj, .int .i64 f.val, .int .i64 f.fr, .int .i64 f.to, .int .i64 f.known, .int .i64 f.no])
   ·rfl
   ·kernel_rfl
   ·kernel_rfl
   ·dsimp only [oblS]
    rintro w9 h9
    have hc9 := (bcell h9).1
    go_simp
    exact ⟨Below.refl _ _, rfl⟩
   dsimp only [naL, caL]
   apply relS_any (mask := [true]) (T := fun v W => ∃ A c, v = .slice A 1 c ∧ Rows 8 (Rep.flat fEnc) W W.heap.size A 1 c [f]) (hT := fun v w w' hb ⟨A, c, e, h⟩ => ⟨A, c, e, h.keep (Rep.flat_stable _) hb.size hb.block⟩)
   ·rfl
   ·kernel_rfl
   ·kernel_rfl
   ·dsimp only [oblS]
    rintro w9 h9 T' hT'
    go_simp
    exact ⟨(Below.refl _ w9).alloc (Nat.le_refl _) _, hT' _ _ ⟨_, _, rfl, rows_of_heap (l := [f]) fEnc_len (World.alloc_heap_new w9 _) (Nat.le_refl _) (by decide) rfl⟩⟩
   dsimp only [naL, caL]
   apply relS_det (mask := [false, true]) (x := .int .i64 ck)
   ·rfl
   ·kernel_rfl
   ·kernel_rfl
   ·dsimp only [oblS]
    intro v4
    rintro w9 ⟨h9, t4⟩
    obtain ⟨A, c, e4, h4⟩ := t4
    subst e4
    go_simp
    refine (HS1.out w9 A c h4).mono ?_
    rintro e w7 ⟨rfl, hb7⟩
    exact ⟨_, rfl, hb7, rfl⟩
   dsimp only [naL, caL]
   apply relS_det (mask := [false, false, true]) (x := .bool true)
   ·rfl
   ·kernel_rfl
   ·kernel_rfl
   ·dsimp only [oblS]
    rintro w9 h9
    go_simp
    exact ⟨Below.refl _ _, rfl⟩
   dsimp only [naL, caL]
   apply relS_det (mask := [false, false, false, true])
   ·rfl
   ·kernel_rfl
   ·kernel_rfl
   ·dsimp only [oblS]
    rintro w9 h9
    go_simp
    exact ⟨Below.refl _ _, rfl⟩
   dsimp only [naL, caL]
   apply relS_detg (mask := [false, false, false, false, true]) (t := 7) (want := true) (x := .pointer none)
   ·rfl
   ·kernel_rfl
   ·kernel_rfl
   ·dsimp only [oblS]
    refine ⟨by rfl, ?_⟩
    rintro w9 h9
    have hc9 := (bcell h9).1
    go_simp
    exact ⟨Below.refl _ _, rfl⟩
   dsimp only [naL, caL]
   apply relS_detg (mask := [false, false, false, false, true, true]) (t := 7) (want := true) (x := .bool true)
   ·rfl
   ·kernel_rfl
   ·kernel_rfl
   ·dsimp only [oblS]
    refine ⟨by rfl, ?_⟩
    rintro w9 h9
    go_simp
    exact ⟨Below.refl _ _, rfl⟩
   dsimp only [naL, caL]
   apply relS_detg (mask := [false, false, false, false, true, false, true]) (t := 7) (want := true)
   ·rfl
   ·kernel_rfl
   ·kernel_rfl
   ·dsimp only [oblS]
    refine ⟨by rfl, ?_⟩
    rintro w9 h9
    go_simp
    exact ⟨Below.refl _ _, rfl⟩
   dsimp only [naL, caL]
   apply relS_not (mask := [false, false, false, false, false, false, false, true]) (t := 10) (want := false) (hf := by rfl) (hg := by kernel_rfl) (hm := by kernel_rfl)
   ·rfl
   dsimp only [naL, caL]
   apply relS_not (mask := [false, false, false, false, false, false, false, true, true]) (t := 10) (want := false) (hf := by rfl) (hg := by kernel_rfl) (hm := by kernel_rfl)
   ·rfl
   dsimp only [naL, caL]
   apply relS_not (mask := [false, false, false, false, false, false, false, true, false, true]) (t := 10) (want := false) (hf := by rfl) (hg := by kernel_rfl) (hm := by kernel_rfl)
   ·rfl
   dsimp only [naL, caL]
   apply relS_not (mask := [false, false, false, false, false, false, false, true, false, false, false]) (t := 10) (want := false) (hf := by rfl) (hg := by kernel_rfl) (hm := by kernel_rfl)
   ·rfl
   dsimp only [naL, caL]
   apply relS_not (mask := [false, false, false, false, false, false, false, true, false, false, true, true]) (t := 10) (want := false) (hf := by rfl) (hg := by kernel_rfl) (hm := by kernel_rfl)
   ·rfl
   dsimp only [naL, caL]
   apply relS_not (mask := [false, false, false, false, false, false, false, true, false, false, false, false, true]) (t := 10) (want := false) (hf := by rfl) (hg := by kernel_rfl) (hm := by kernel_rfl)
   ·rfl
   dsimp only [naL, caL]
   apply relS_detg (mask := [false, false, false, false, true, false, false, true, false, false, false, false, false, true]) (t := 7) (want := true) (x := .bool true)
   ·rfl
   ·kernel_rfl
   ·kernel_rfl
   ·dsimp only [oblS]
    refine ⟨by rfl, ?_⟩
    rintro w9 h9
    go_simp
    exact ⟨Below.refl _ _, rfl⟩
   dsimp only [naL, caL]
   apply relS_det (mask := [false, false, false, false, true, false, false, false, false, false, false, false, false, false, true]) (x := .bool true)
   ·rfl
   ·kernel_rfl
   ·kernel_rfl
   ·dsimp only [oblS]
    rintro w9 h9
    go_simp
    exact ⟨Below.refl _ _, rfl⟩
   dsimp only [naL, caL]
   refine relS_end (by rfl) ?_
   dsimp only [finS]
   rintro v4 w8 ⟨hb8, _⟩
   have HB8 := hidp hb8
   have HB9 := hidp (HB0.out.trans (hb8.mono HB0.out.size))
   clear y0 y1 y2 y3 y4 y5 y6 y7 l0 hb8 hcl ll
   go_simp
   go_wp2_with fail
   refine (demand_any true 470 w8).mono ?_
   rintro e w7 ⟨rfl, rfl⟩
   simp only [demandE, if_true]
   have hL8 := HL0.out.keep HB8.out
   obtain ⟨cL, hcL⟩ := LastAt.cell hL8
   have zL := frozen_of_heap (o := 0) hcL
   have xL := cell_of_heap (o := 0) hcL
   have lL := lt_of_heap hcL
   have HCL := hidp hcL
   have gF := (HB8.out.block _ (lt_of_heap HG0.out)).trans HG0.out
   have HGF := hidp gF
   simp only [List.getElem?_toArray, List.getElem?_cons_zero] at xL
   clear hL8 hcL gF
   go_wp2_with fail
   go_end0
   have hne : w.heap.size ≠ L := by have := HLlt.out; omega
   exact ⟨by rw [HN.out]; rfl, fun _ => ⟨w.heap.size, hne, heap_set1 HCL.out _, (Below.heap_setCell _ ⟨L, 0, none⟩ _ _ hne).trans HGF.out⟩, ((Kept.refl (fun b => b = L) w).below HB9.out (fun b h1 h2 => by omega)).setCell (p := ⟨L, 0, none⟩) (.inl rfl) _⟩
  ·obtain ⟨F, hFL, gL, gF⟩ := HL0.out
   have hcl := cell_of_heap (o := 0) gL
   have ll := lt_of_heap gL
   have f0 := cell_of_heap (o := 0) gF
   have f1 := cell_of_heap (o := 1) gF
   have f2 := cell_of_heap (o := 2) gF
   have f3 := cell_of_heap (o := 3) gF
   have f4 := cell_of_heap (o := 4) gF
   have f5 := cell_of_heap (o := 5) gF
   have f6 := cell_of_heap (o := 6) gF
   have f7 := cell_of_heap (o := 7) gF
   have lf := lt_of_heap gF
   simp only [List.getElem?_toArray, List.getElem?_cons_zero, List.getElem?_cons_succ] at hcl f0 f1 f2 f3 f4 f5 f6 f7
   obtain ⟨lo, hlo⟩ : ∃ b, ltP a f = b := ⟨_, rfl⟩
   have HN : Hid (nextOk (some a) f = lo) := by show _ = _; unfold nextOk; rw [HFo.out]; exact hlo
   have hneg : decide (cmpP a f < 0) = lo := by rw [cmpP_neg]; exact hlo
   obtain ⟨cz, hcz⟩ : ∃ z, cmpP a f = z := ⟨_, rfl⟩
   rw [hcz] at hneg
   have HCz := hidp hcz
   clear hlo gL gF hFL hcz
   go_wp2_with fail
   rw [HW0.out]
   refine wp_region_S W0.heap.size 16 (fun _ => false) (Nat.le_refl _) (by kernel_rfl) (by kernel_rfl) (by kernel_rfl) ?_
   dsimp only [List.take, List.drop]
   apply relS_det (mask := []) (x := .agg #[.int .i64 f.key.kind, .int .i64 f.key.subj, .int .i64 f.key.obj, .int .i64 f.val, .int .i64 f.fr, .int .i64 f.to, .int .i64 f.known, .int .i64 f.no])
   ·rfl
   ·kernel_rfl
   ·kernel_rfl
   ·dsimp only [oblS]
    rintro w9 h9
    have hc9 := (bcell h9).1
    go_simp
    exact ⟨Below.refl _ _, rfl⟩
   dsimp only [naL, caL]
   apply relS_any (mask := [true]) (T := fun v W => ∃ A c, v = .slice A 1 c ∧ Rows 8 (Rep.flat fEnc) W W.heap.size A 1 c [f]) (hT := fun v w w' hb ⟨A, c, e, h⟩ => ⟨A, c, e, h.keep (Rep.flat_stable _) hb.size hb.block⟩)
   ·rfl
   ·kernel_rfl
   ·kernel_rfl
   ·dsimp only [oblS]
    rintro w9 h9 T' hT'
    go_simp
    exact ⟨(Below.refl _ w9).alloc (Nat.le_refl _) _, hT' _ _ ⟨_, _, rfl, rows_of_heap (l := [f]) fEnc_len (World.alloc_heap_new w9 _) (Nat.le_refl _) (by decide) rfl⟩⟩
   dsimp only [naL, caL]
   apply relS_det (mask := [false, true]) (x := .int .i64 ck)
   ·rfl
   ·kernel_rfl
   ·kernel_rfl
   ·dsimp only [oblS]
    intro v4
    rintro w9 ⟨h9, t4⟩
    obtain ⟨A, c, e4, h4⟩ := t4
    subst e4
    go_simp
    refine (HS1.out w9 A c h4).mono ?_
    rintro e w7 ⟨rfl, hb7⟩
    exact ⟨_, rfl, hb7, rfl⟩
   dsimp only [naL, caL]
   apply relS_det (mask := [false, false, true]) (x := .bool true)
   ·rfl
   ·kernel_rfl
   ·kernel_rfl
   ·dsimp only [oblS]
    rintro w9 h9
    go_simp
    exact ⟨Below.refl _ _, rfl⟩
   dsimp only [naL, caL]
   apply relS_det (mask := [false, false, false, true])
   ·rfl
   ·kernel_rfl
   ·kernel_rfl
   ·dsimp only [oblS]
    rintro w9 h9
    go_simp
    exact ⟨Below.refl _ _, rfl⟩
   dsimp only [naL, caL]
   apply relS_detg (mask := [false, false, false, false, true]) (t := 7) (want := true) (x := .pointer (some ⟨F, 0, none⟩))
   ·rfl
   ·kernel_rfl
   ·kernel_rfl
   ·dsimp only [oblS]
    refine ⟨by rfl, ?_⟩
    rintro w9 h9
    have hc9 := (bcell h9).1
    go_simp
    exact ⟨Below.refl _ _, rfl⟩
   dsimp only [naL, caL]
   apply relS_detg (mask := [false, false, false, false, true, true]) (t := 7) (want := true) (x := .bool false)
   ·rfl
   ·kernel_rfl
   ·kernel_rfl
   ·dsimp only [oblS]
    refine ⟨by rfl, ?_⟩
    rintro w9 h9
    go_simp
    exact ⟨Below.refl _ _, rfl⟩
   dsimp only [naL, caL]
   apply relS_detg (mask := [false, false, false, false, true, false, true]) (t := 7) (want := true)
   ·rfl
   ·kernel_rfl
   ·kernel_rfl
   ·dsimp only [oblS]
    refine ⟨by rfl, ?_⟩
    rintro w9 h9
    go_simp
    exact ⟨Below.refl _ _, rfl⟩
   dsimp only [naL, caL]
   apply relS_detg (mask := [false, false, false, false, false, false, false, true]) (t := 10) (want := false) (x := .pointer (some ⟨F, 0, none⟩))
   ·rfl
   ·kernel_rfl
   ·kernel_rfl
   ·dsimp only [oblS]
    refine ⟨by rfl, ?_⟩
    rintro w9 h9
    have hc9 := (bcell h9).1
    go_simp
    exact ⟨Below.refl _ _, rfl⟩
   dsimp only [naL, caL]
   apply relS_detg (mask := [false, false, false, false, false, false, false, true, true]) (t := 10) (want := false)
   ·rfl
   ·kernel_rfl
   ·kernel_rfl
   ·dsimp only [oblS]
    refine ⟨by rfl, ?_⟩
    rintro w9 h9
    go_simp
    exact ⟨Below.refl _ _, rfl⟩
   dsimp only [naL, caL]
   apply relS_detg (mask := [false, false, false, false, false, false, false, true, false, true]) (t := 10) (want := false) (x := .agg #[.int .i64 a.key.kind, .int .i64 a.key.subj, .int .i64 a.key.obj, .int .i64 a.val, .int .i64 a.fr, .int .i64 a.to, .int .i64 a.known, .int .i64 a.no])
   ·rfl
   ·kernel_rfl
   ·kernel_rfl
   ·dsimp only [oblS]
    refine ⟨by rfl, ?_⟩
    rintro w9 h9
    have hc9 := (bcell h9).1
    go_simp
    exact ⟨Below.refl _ _, rfl⟩
   dsimp only [naL, caL]
   apply relS_detg (mask := [false, false, false, false, false, false, false, true, false, false, false]) (t := 10) (want := false) (x := .agg #[.int .i64 f.key.kind, .int .i64 f.key.subj, .int .i64 f.key.obj, .int .i64 f.val, .int .i64 f.fr, .int .i64 f.to, .int .i64 f.known, .int .i64 f.no])
   ·rfl
   ·kernel_rfl
   ·kernel_rfl
   ·dsimp only [oblS]
    refine ⟨by rfl, ?_⟩
    rintro w9 h9
    have hc9 := (bcell h9).1
    go_simp
    exact ⟨Below.refl _ _, rfl⟩
   dsimp only [naL, caL]
   apply relS_detg (mask := [false, false, false, false, false, false, false, true, false, false, true, true]) (t := 10) (want := false) (x := .int .i64 cz)
   ·rfl
   ·kernel_rfl
   ·kernel_rfl
   ·dsimp only [oblS]
    refine ⟨by rfl, ?_⟩
    rintro w9 h9
    go_simp
    refine (pgcmp_any a f w9).mono ?_
    rintro e w7 ⟨rfl, hb7⟩
    exact ⟨_, rfl, hb7.b, by rw [HCz.out]; rfl⟩
   dsimp only [naL, caL]
   apply relS_detg (mask := [false, false, false, false, false, false, false, true, false, false, false, false, true]) (t := 10) (want := false) (x := .bool lo)
   ·rfl
   ·kernel_rfl
   ·kernel_rfl
   ·dsimp only [oblS]
    refine ⟨by rfl, ?_⟩
    rintro w9 h9
    go_simp
    exact ⟨Below.refl _ _, rfl⟩
   dsimp only [naL, caL]
   apply relS_detg (mask := [false, false, false, false, true, false, false, true, false, false, false, false, false, true]) (t := 7) (want := true) (x := .bool lo)
   ·rfl
   ·kernel_rfl
   ·kernel_rfl
   ·dsimp only [oblS]
    refine ⟨by rfl, ?_⟩
    rintro w9 h9
    go_simp
    exact ⟨Below.refl _ _, rfl⟩
   dsimp only [naL, caL]
   apply relS_det (mask := [false, false, false, false, true, false, false, false, false, false, false, false, false, false, true]) (x := .bool lo)
   ·rfl
   ·kernel_rfl
   ·kernel_rfl
   ·dsimp only [oblS]
    rintro w9 h9
    go_simp
    exact ⟨Below.refl _ _, rfl⟩
   dsimp only [naL, caL]
   refine relS_end (by rfl) ?_
   dsimp only [finS]
   rintro v4 w8 ⟨hb8, _⟩
   have HB8 := hidp hb8
   have HB9 := hidp (HB0.out.trans (hb8.mono HB0.out.size))
   clear y0 y1 y2 y3 y4 y5 y6 y7 l0 hb8 hcl ll f0 f1 f2 f3 f4 f5 f6 f7 lf
   go_simp
   go_wp2_with fail
   cases lo
   ·refine (demand_any false 470 w8).mono ?_
    rintro e w7 ⟨rfl, rfl⟩
    exact ⟨rfl, by rw [HN.out]; rfl, (fun h => by rw [HN.out] at h; cases h), (Kept.refl (fun b => b = L) w).below HB9.out (fun b h1 h2 => by omega)⟩
   ·refine (demand_any true 470 w8).mono ?_
    rintro e w7 ⟨rfl, rfl⟩
    simp only [demandE, if_true]
    have hL8 := HL0.out.keep HB8.out
    obtain ⟨cL, hcL⟩ := LastAt.cell hL8
    have zL := frozen_of_heap (o := 0) hcL
    have xL := cell_of_heap (o := 0) hcL
    have lL := lt_of_heap hcL
    have HCL := hidp hcL
    have gF := (HB8.out.block _ (lt_of_heap HG0.out)).trans HG0.out
    have HGF := hidp gF
    simp only [List.getElem?_toArray, List.getElem?_cons_zero] at xL
    clear hL8 hcL gF
    go_wp2_with fail
    go_end0
    have hne : w.heap.size ≠ L := by have := HLlt.out; omega
    exact ⟨by rw [HN.out]; rfl, fun _ => ⟨w.heap.size, hne, heap_set1 HCL.out _, (Below.heap_setCell _ ⟨L, 0, none⟩ _ _ hne).trans HGF.out⟩, ((Kept.refl (fun b => b = L) w).below HB9.out (fun b h1 h2 => by omega)).setCell (p := ⟨L, 0, none⟩) (.inl rfl) _⟩
end
section
open Go.RowKit
structure Pq where
 (fA : Option Addr) (fn fc : Nat) (facts : List Fc)
 (kA : Option Addr) (kn kc : Nat) (kids : List Int)
instance : Inhabited Pq := ⟨⟨none, 0, 0, [], none, 0, 0, []⟩⟩
def pgV (g : Pq) : Pv := ⟨g.facts, g.kids⟩
def pgEnc (g : Pq) : List Value := [.slice g.fA g.fn g.fc, .slice g.kA g.kn g.kc]
theorem pgEnc_len (g : Pq) : (pgEnc g).length = 2 := rfl
theorem pgEnc_one (g : Pq) : ∀ u ∈ pgEnc g, u.oneCell' = true := by
 intro u hu; simp [pgEnc] at hu; rcases hu with rfl | rfl <;> rfl
def PgIn (g : Pq) (w : World) (n : Nat) : Prop := fSl w n g.fA g.fn g.fc g.facts ∧ iSl w n g.kA g.kn g.kc g.kids
theorem PgIn.keep {g : Pq} {w w' : World} {n n' : Nat} (h : PgIn g w n) (hz : n ≤ n') (hk : ∀ b, b < n → w'.heap[b]? = w.heap[b]?) : PgIn g w' n' := ⟨h.1.keep (Rep.flat_stable _) hz hk, h.2.keep (Rep.flat_stable _) hz hk⟩
structure Ps where
 (pA : Option Addr) (pn pc : Nat) (gs : List Pq)
 (rA : Option Addr) (rn rc : Nat) (roots : List Int)
def psV (s : Ps) : List Pv := s.gs.map pgV
abbrev pgSl := Rows 2 (Rep.flat pgEnc)
structure PsIn (s : Ps) (w : World) (n : Nat) : Prop where
 pages : pgSl w n s.pA s.pn s.pc s.gs
 each : ∀ g ∈ s.gs, PgIn g w n
 roots : iSl w n s.rA s.rn s.rc s.roots
theorem PsIn.keep {s : Ps} {w w' : World} {n n' : Nat} (h : PsIn s w n) (hz : n ≤ n') (hk : ∀ b, b < n → w'.heap[b]? = w.heap[b]?) : PsIn s w' n' :=
 ⟨h.pages.keep (Rep.flat_stable _) hz hk, fun g hg => (h.each g hg).keep hz hk, h.roots.keep (Rep.flat_stable _) hz hk⟩
theorem PsIn.later {s : Ps} {w w' : World} (h : PsIn s w w.heap.size) (hb : Below w.heap.size w w') : PsIn s w' w'.heap.size := h.keep hb.size hb.block
theorem psV_get {s : Ps} {p : Nat} {g : Pq} (h : s.gs[p]? = some g) : (psV s)[p]? = some (pgV g) := by unfold psV; rw [List.getElem?_map, h]; rfl
theorem psV_len (s : Ps) : (psV s).length = s.gs.length := by simp [psV]
theorem pgSl.get {n₀ n c k : Nat} {A : Option Addr} {l : List Pq} {W : World} (h : pgSl W n₀ A n c l) (hk : k < n) :
  ∃ b off g, A = some ⟨b, off, none⟩ ∧ b < n₀ ∧ l[k]? = some g ∧ W.cell? ⟨b, off + k * 2, none⟩ = some (.slice g.fA g.fn g.fc) ∧ W.cell? ⟨b, off + k * 2 + 1, none⟩ = some (.slice g.kA g.kn g.kc) := by
 obtain ⟨b, off, m, cs, e, hlt, hk', rfl, hc⟩ := Rows.get h hk
 exact ⟨b, off, m, e, hlt, hk', hc 0 _ rfl, hc 1 _ rfl⟩
theorem ix_Pages {A : Option Addr} {n c k b off : Nat} (hA : A = some ⟨b, off, none⟩) (hk : k < n) (W : World) : (Instr.indexAt 43 (.slice A n c) (.int .i64 k)).run Tryz.prog W = .ok (.pointer (some ⟨b, off + k * 2, none⟩)) W := by
 subst hA
 have hk' : (k : Int) < n := by omega
 simp [go_sem, hk']
theorem ix_FactsP {A : Option Addr} {n c k b off : Nat} (hA : A = some ⟨b, off, none⟩) (hk : k < n) (W : World) : (Instr.indexAt 28 (.slice A n c) (.int .i64 k)).run Tryz.prog W = .ok (.pointer (some ⟨b, off + k * 8, none⟩)) W := by
 subst hA
 have hk' : (k : Int) < n := by omega
 simp [go_sem, hk']
theorem ix_intsP {A : Option Addr} {n c k b off : Nat} (hA : A = some ⟨b, off, none⟩) (hk : k < n) (W : World) : (Instr.indexAt 23 (.slice A n c) (.int .i64 k)).run Tryz.prog W = .ok (.pointer (some ⟨b, off + k, none⟩)) W := by
 subst hA
 have hk' : (k : Int) < n := by omega
 simp [go_sem, hk']
theorem step_leaf_fact {sub : Int → List Fc → Option (List Fc × Nat)} {g : Pv} {l m : List Fc} {i lv : Nat} {f : Fc} (hk : g.kids.length = 0) (h : loopW sub g l i = some (m, lv)) (hf : g.facts[i]? = some f) :
  loopW sub g l (i + 1) = if nextOk m.getLast? f = true then some (m ++ [f], lv) else none := by
 rw [loopW_succ, h]; simp [stepW, subW, factW, hk, hf]
theorem step_leaf_end {sub : Int → List Fc → Option (List Fc × Nat)} {g : Pv} {l m : List Fc} {i lv : Nat} (hk : g.kids.length = 0) (h : loopW sub g l i = some (m, lv)) (hf : g.facts[i]? = none) :
  loopW sub g l (i + 1) = some (m, lv) := by
 rw [loopW_succ, h]; simp [stepW, subW, factW, hk, hf]
theorem step_kid_no {sub : Int → List Fc → Option (List Fc × Nat)} {g : Pv} {l m : List Fc} {i lv : Nat} {kid : Int} (hk : g.kids[i]? = some kid) (h : loopW sub g l i = some (m, lv)) (hs : sub kid m = none) : loopW sub g l (i + 1) = none := by
 have h0 : g.kids.length ≠ 0 := fun e => by rw [List.length_eq_zero_iff.1 e] at hk; simp at hk
 rw [loopW_succ, h]; simp [stepW, subW, h0, List.getD_eq_getElem?_getD, hk, hs]
theorem step_kid_lv {sub : Int → List Fc → Option (List Fc × Nat)} {g : Pv} {l m m' : List Fc} {i lv d : Nat} {kid : Int} (hk : g.kids[i]? = some kid) (h : loopW sub g l i = some (m, lv)) (hs : sub kid m = some (m', d)) (hd : ¬ (i = 0 ∨ d = lv)) : loopW sub g l (i + 1) = none := by
 have h0 : g.kids.length ≠ 0 := fun e => by rw [List.length_eq_zero_iff.1 e] at hk; simp at hk
 rw [loopW_succ, h]; simp [stepW, subW, h0, List.getD_eq_getElem?_getD, hk, hs, hd]
theorem step_kid_fact {sub : Int → List Fc → Option (List Fc × Nat)} {g : Pv} {l m m' : List Fc} {i lv d : Nat} {kid : Int} {f : Fc} (hk : g.kids[i]? = some kid) (h : loopW sub g l i = some (m, lv)) (hs : sub kid m = some (m', d)) (hd : i = 0 ∨ d = lv) (hf : g.facts[i]? = some f) :
  loopW sub g l (i + 1) = if nextOk m'.getLast? f = true then some (m' ++ [f], d) else none := by
 have h0 : g.kids.length ≠ 0 := fun e => by rw [List.length_eq_zero_iff.1 e] at hk; simp at hk
 rw [loopW_succ, h]; simp [stepW, subW, factW, h0, List.getD_eq_getElem?_getD, hk, hs, hd, hf]
theorem step_kid_end {sub : Int → List Fc → Option (List Fc × Nat)} {g : Pv} {l m m' : List Fc} {i lv d : Nat} {kid : Int} (hk : g.kids[i]? = some kid) (h : loopW sub g l i = some (m, lv)) (hs : sub kid m = some (m', d)) (hd : i = 0 ∨ d = lv) (hf : g.facts[i]? = none) :
  loopW sub g l (i + 1) = some (m', d) := by
 have h0 : g.kids.length ≠ 0 := fun e => by rw [List.length_eq_zero_iff.1 e] at hk; simp at hk
 rw [loopW_succ, h]; simp [stepW, subW, factW, h0, List.getD_eq_getElem?_getD, hk, hs, hd, hf]
theorem loopW_lv {sub : Int → List Fc → Option (List Fc × Nat)} {g : Pv} {l : List Fc} {p : Nat} (hs : ∀ kid m m' d, sub kid m = some (m', d) → d ≤ p) : ∀ (n : Nat) (m : List Fc) (lv : Nat), loopW sub g l n = some (m, lv) → lv ≤ p
  | 0, m, lv, h => by rw [loopW_zero] at h; cases h; omega
  | n + 1, m, lv, h => by
    rw [loopW_succ] at h
    cases hl : loopW sub g l n with
    | none => rw [hl] at h; cases h
    | some s =>
      obtain ⟨m0, lv0⟩ := s
      have ih := loopW_lv hs n m0 lv0 hl
      rw [hl] at h
      have hf : ∀ (s : List Fc × Nat) m lv, factW g n s = some (m, lv) → lv = s.2 := by
        intro s m lv h
        unfold factW at h
        split at h
        · cases h; rfl
        · split at h
          · cases h; rfl
          · cases h
      simp only [stepW, Option.bind_some] at h
      cases hsub : subW sub g n (m0, lv0) with
      | none => rw [hsub] at h; cases h
      | some t =>
        rw [hsub] at h
        have := hf _ _ _ h
        subst this
        unfold subW at hsub
        split at hsub
        · cases hsub; exact ih
        · cases hk : sub (g.kids.getD n 0) m0 with
          | none => simp only [hk] at hsub; cases hsub
          | some r =>
            simp only [hk, Option.bind_some] at hsub
            split at hsub
            · cases hsub; exact hs _ _ _ _ hk
            · cases hsub
theorem walkP_lv (ps : List Pv) : ∀ (k p : Nat) (root : Bool) (l m : List Fc) (d : Nat), p < k → walkP ps p root l = some (m, d) → d ≤ p + 1
  | 0, _, _, _, _, _, h, _ => by omega
  | k + 1, p, root, l, m, d, hk, h => by
    cases hg : ps[p]? with
    | none => rw [walkP_no hg] at h; cases h
    | some g =>
      rw [walkP_eq hg] at h
      split at h
      · cases hl : loopW (kidW ps p) g l (g.facts.length + 1) with
        | none => rw [hl] at h; cases h
        | some s =>
          rw [hl] at h
          simp only [Option.map_some, Option.some.injEq, Prod.mk.injEq] at h
          have := loopW_lv (p := p) (fun kid m m' d hd => by
            unfold kidW at hd
            split at hd
            · rename_i hk2
              have := walkP_lv ps k kid.toNat false m m' d (by omega) hd
              omega
            · cases hd) _ s.1 s.2 hl
          omega
      · cases h
end
section
open Go.RowKit Go.Shelf
theorem pgInfo : (Tryz.prog.info? 86).map (fun i => (i.zero, i.size, i.bytes)) = some (some (.agg #[.slice none 0 0, .slice none 0 0]), 2, 48) := by kernel_rfl
set_option maxRecDepth 100000 in
set_option maxHeartbeats 1000000 in
theorem pgClone_any (A : Option Addr) (n c : Nat) (l : List Pq) (w : World) (hl : pgSl w w.heap.size A n c l) (hn : n * 48 ≤ 140737488355328) :
  Calls Tryz.prog 44 #[.slice A n c] w fun e w' => ∃ v, e = .returned v ∧ w'.ownsRow w.heap.size 86 2 v n (l.flatMap pgEnc) ∧ (A = none → v = .slice none 0 0) ∧ (A ≠ none → ∃ g c', v = .slice (some ⟨g, 0, none⟩) n c') ∧ Below w.heap.size w w' := by
 obtain ⟨i0, hi, hz, hs, hb⟩ := info_parts pgInfo
 have hown := World.ownsRow_made (e := 86) (size := 2) w #[] 0 (Nat.le_refl _) (by decide) (by simp)
 obtain ⟨v, w1, hrun, hown1, hg, hat⟩ := run_append_rows (P := Tryz.prog) (ty := 43) (l := []) (enc := pgEnc) Tryz.underlying43 hi hz hs hb rfl pgEnc_len (by decide) pgEnc_one hown (hl.keep (Rep.flat_stable _) (W' := w.alloc (.cells #[] 86)) (Nat.le_refl _) (fun b hb => Below.heap_alloc _ _ _ hb)) (by omega) (by have := hl.2.1; have := hl.2.2.1; omega) (by simp)
 have HG := hidp hg
 have HO := hidp hown1
 have HAt := hidp hat
 clear hg hown1 hat hown
 have hq := fun (W : World) (a : Option Addr) (n c : Nat) => Lib.run_eql_slice_nil (P := Tryz.prog) W 43 86 a n c 0 0 Tryz.underlying43
 rcases A with _ | ad
 ·go_enter Tryz.func44, Tryz.ntmps44
  go_wp2_with fail
  go_ret
  have hn0 : n = 0 := by
   rcases Nat.eq_zero_or_pos n with h | h
   ·exact h
   ·obtain ⟨_, _, he, _⟩ := hl.2.2.2 h
    cases he
  subst hn0
  have hl0 : l = [] := List.eq_nil_of_length_eq_zero hl.1.symm
  subst hl0
  exact ⟨_, rfl, World.ownsRow_nil _ _ _ _, fun _ => rfl, fun h => absurd rfl h, Below.refl _ _⟩
 ·go_enter Tryz.func44, Tryz.ntmps44
  go_wp2_with (at_builtin; refine wpList_append_known rfl (.tmp 5) (.tmp 6) 43 rfl rfl rfl hrun ?_)
  go_ret
  have ho := HO.out
  have ha := HAt.out
  rw [Nat.zero_add] at ho
  refine ⟨_, rfl, by simpa using ho, fun h => (by cases h), fun _ => ?_, ((Below.refl _ _).alloc (Nat.le_refl _) _).grown HG.out (by simp) (fun g hg => ?_)⟩
  ·rcases ho.2 with ⟨hv, _⟩ | ⟨g, c', cur, hv, _⟩
   ·rw [hv] at ha
    simp [Value.ownBlock] at ha
   ·exact ⟨g, c', hv⟩
  ·simp [Value.ownBlock] at hg
   omega
set_option maxRecDepth 100000 in
set_option maxHeartbeats 1000000 in
theorem iClone_any (A : Option Addr) (n c : Nat) (l : List Int) (w : World) (hl : iSl w w.heap.size A n c l) (hn : n * 8 ≤ 140737488355328) :
  Calls Tryz.prog 47 #[.slice A n c] w fun e w' => ∃ v, e = .returned v ∧ w'.ownsRow w.heap.size 3 1 v n (l.flatMap iEnc) ∧ (A = none → v = .slice none 0 0) ∧ (A ≠ none → ∃ g c', v = .slice (some ⟨g, 0, none⟩) n c') ∧ Below w.heap.size w w' := by
 obtain ⟨i0, hi, hz, hs, hb⟩ := info_parts iInfo
 have hown := World.ownsRow_made (e := 3) (size := 1) w #[] 0 (Nat.le_refl _) (by decide) (by simp)
 obtain ⟨v, w1, hrun, hown1, hg, hat⟩ := run_append_rows (P := Tryz.prog) (ty := 23) (l := []) (enc := iEnc) Tryz.underlying23 hi hz hs hb rfl iEnc_len (by decide) iEnc_one hown (hl.keep (Rep.flat_stable _) (W' := w.alloc (.cells #[] 3)) (Nat.le_refl _) (fun b hb => Below.heap_alloc _ _ _ hb)) (by omega) (by have := hl.2.1; have := hl.2.2.1; omega) (by simp)
 have HG := hidp hg
 have HO := hidp hown1
 have HAt := hidp hat
 clear hg hown1 hat hown
 have hq := fun (W : World) (a : Option Addr) (n c : Nat) => Lib.run_eql_slice_nil (P := Tryz.prog) W 23 3 a n c 0 0 Tryz.underlying23
 rcases A with _ | ad
 ·go_enter Tryz.func47, Tryz.ntmps47
  go_wp2_with fail
  go_ret
  have hn0 : n = 0 := by
   rcases Nat.eq_zero_or_pos n with h | h
   ·exact h
   ·obtain ⟨_, _, he, _⟩ := hl.2.2.2 h
    cases he
  subst hn0
  have hl0 : l = [] := List.eq_nil_of_length_eq_zero hl.1.symm
  subst hl0
  exact ⟨_, rfl, World.ownsRow_nil _ _ _ _, fun _ => rfl, fun h => absurd rfl h, Below.refl _ _⟩
 ·go_enter Tryz.func47, Tryz.ntmps47
  go_wp2_with (at_builtin; refine wpList_append_known rfl (.tmp 5) (.tmp 6) 23 rfl rfl rfl hrun ?_)
  go_ret
  have ho := HO.out
  have ha := HAt.out
  rw [Nat.zero_add] at ho
  refine ⟨_, rfl, by simpa using ho, fun h => (by cases h), fun _ => ?_, ((Below.refl _ _).alloc (Nat.le_refl _) _).grown HG.out (by simp) (fun g hg => ?_)⟩
  ·rcases ho.2 with ⟨hv, _⟩ | ⟨g, c', cur, hv, _⟩
   ·rw [hv] at ha
    simp [Value.ownBlock] at ha
   ·exact ⟨g, c', hv⟩
  ·simp [Value.ownBlock] at hg
   omega
end
section
open Go.RowKit Go.Shelf
theorem step_append_cps {P : Program} {ops : Array Oper} {o : Oper} {a : Act} {w : World} {K : Act → World → Prop} {Q : Exit → Act → World → Prop} {E : Prop} {v u : Value} {R : Value → World → Prop}
  (hg : o.guard = none) (s x : Operand) (t : TypeId) (hop : o.op = Op.call { callee := Callee.builtin Builtin.append, args := #[s, x], argTypes := #[t, t] })
  (hs : a.eval s = v) (hx : a.eval x = u) (hrun : ∃ v' w', (Builtin.append_ #[t, t] o.type #[v, u]).run P w = .ok v' w' ∧ R v' w') (hK : ∀ v' w', R v' w' → K (a.put o.dst v') w') :
  if Region.wanted o (yielded ops a.tmps) = true then Oper.wp P o a w K Q else E := by
 obtain ⟨v', w', hrun, hR⟩ := hrun
 have hw : Region.wanted o (yielded ops a.tmps) = true := by unfold Region.wanted; rw [hg]
 rw [if_pos hw]
 unfold Oper.wp
 simp [execOp, hop, resolve, invoke, builtin, hs, hx, hrun, Result.andThen]
 exact hK v' w' hR
theorem own_neT {base n k X : Nat} {t t' : TypeId} {v : Value} {cs : List Value} {cur : Array Value} {fr : Nat × Nat} {w : World} (h : w.ownsRow base t k v n cs) (hx : w.heap[X]? = some (.cells cur t' fr)) (ht : t ≠ t') : v.ownBlock ≠ some X := by
 intro e
 rcases h.2 with ⟨h1, _⟩ | ⟨g, cap, cur', rfl, h2, h3, _⟩
 ·rw [h1] at e; cases e
 ·cases e
  rw [hx] at h3
  cases h3
  exact ht rfl
structure WrB (B base : Nat) (A : Option Addr) (c : Nat) (ps : List Pq) (w : World) : Prop where
 box : w.heap[B]? = some (.cells #[.slice A ps.length c] 98 (0, 0))
 own : w.ownsRow base 86 2 (.slice A ps.length c) ps.length (ps.flatMap pgEnc)
def AddPost (B base : Nat) (A : Option Addr) (c : Nat) (ps : List Pq) (g : Pq) (w : World) (e : Ending) (w' : World) : Prop :=
 e = .returned (.int .i64 ps.length) ∧ ∃ A' c', WrB B base A' c' (ps ++ [g]) w' ∧ ((Value.slice A' (ps.length + 1) c').ownBlock = (Value.slice A ps.length c).ownBlock ∨ ∃ b, (Value.slice A' (ps.length + 1) c').ownBlock = some b ∧ w.heap.size ≤ b) ∧ Kept (fun b => b = B ∨ (Value.slice A ps.length c).ownBlock = some b ∨ w.heap.size ≤ b) w w'
set_option maxRecDepth 100000 in
set_option maxHeartbeats 4000000 in
theorem pgadd_any (B base : Nat) (A : Option Addr) (c : Nat) (ps : List Pq) (g : Pq) (w : World) (hw : WrB B base A c ps w) (hb : base ≤ w.heap.size) (hn : ps.length ≤ 1000000) :
    Calls Tryz.prog 46 #[.pointer (some ⟨B, 0, none⟩), .agg #[.slice g.fA g.fn g.fc, .slice g.kA g.kn g.kc]] w (AddPost B base A c ps g w) := by
  obtain ⟨i0, hi, hz, hss, hbb⟩ := info_parts pgInfo
  obtain ⟨W1, hW1⟩ : ∃ W1, w.alloc (.cells #[.slice g.fA g.fn g.fc, .slice g.kA g.kn g.kc] 86) = W1 := ⟨_, rfl⟩
  have hz1 : W1.heap.size = w.heap.size + 1 := by rw [← hW1]; simp
  have hk1 : Kept (fun b => b = B ∨ (Value.slice A ps.length c).ownBlock = some b ∨ w.heap.size ≤ b) w W1 := hW1 ▸ (Kept.refl _ w).alloc _
  have hlB := lt_of_heap hw.box
  have gB : W1.heap[B]? = some (.cells #[.slice A ps.length c] 98 (0, 0)) := hW1 ▸ (Below.heap_alloc _ _ _ hlB).trans hw.box
  have hown : W1.ownsRow base 86 2 (.slice A ps.length c) ps.length (ps.flatMap pgEnc) := hW1 ▸ hw.own.alloc _
  have gP : W1.heap[w.heap.size]? = some (.cells #[.slice g.fA g.fn g.fc, .slice g.kA g.kn g.kc] 86 (0, 0)) := hW1 ▸ World.alloc_heap_new _ _
  have HLo := hidp hown.lt
  have HNe : Hid ((Value.slice A ps.length c).ownBlock ≠ some B) := own_neT hown gB (by decide)
  have HW1 := hidp hW1
  have HZ1 := hidp hz1
  have HK1 := hidp hk1
  have HGB := hidp gB
  have HOwn := hidp hown
  have cB := cell_of_heap (o := 0) gB
  have lB := lt_of_heap gB
  have cP0 := cell_of_heap (o := 0) gP
  have cP1 := cell_of_heap (o := 1) gP
  have lP := lt_of_heap gP
  simp only [List.getElem?_toArray, List.getElem?_cons_zero, List.getElem?_cons_succ] at cB cP0 cP1
  clear hW1 hz1 hk1 gB hown gP hw hlB
  go_enter Tryz.func46, Tryz.ntmps46
  go_wp2_with fail
  try rw [HW1.out]
  go_region_law (
    (refine step_append_cps rfl (.tmp 9) (.tmp 11) 43 rfl rfl rfl (run_append_one (P := Tryz.prog) (l := ps) (enc := pgEnc) (w := W1.drew) (base := base) Tryz.underlying43 hi hz hss hbb rfl pgEnc_len (by decide) pgEnc_one (show W1.drew.ownsRow base 86 2 (.slice A ps.length c) ps.length (ps.flatMap pgEnc) from HOwn.out) g (by omega) (by omega) (show base ≤ W1.heap.size by have := HZ1.out; omega)) ?_
     rintro v' w' ⟨ho, hg, hat⟩
     obtain ⟨A5, c5, rfl, _⟩ := own_rows pgEnc_len (by decide) ho
     have hhB : w'.heap[B]? = some (.cells #[.slice A ps.length c] 98 (0, 0)) := by
       rw [hg.block B (show B < (W1.alloc _).heap.size by simp; omega) (fun e => HNe.out e.symm)]
       exact (Below.heap_alloc W1 _ B lB).trans HGB.out
     have hk0 := cell_of_heap (o := 0) hhB
     have hk1 := frozen_of_heap (o := 0) hhB
     have hk2 := lt_of_heap hhB
     simp only [List.getElem?_toArray, List.getElem?_cons_zero] at hk0))
  all_goals
    have hkk : Kept (fun b => b = B ∨ (Value.slice A ps.length c).ownBlock = some b ∨ w.heap.size ≤ b) w (w'.setCell ⟨B, 0, none⟩ (.slice A5 (ps.length + 1) c5)) :=
      Kept.setCell (p := ⟨B, 0, none⟩) ((HK1.out.drew.alloc _).grown hg fun r e => .inl (.inr (.inl e))) (.inl (.inl rfl)) _
    have hwb : WrB B base A5 c5 (ps ++ [g]) (w'.setCell ⟨B, 0, none⟩ (.slice A5 (ps.length + 1) c5)) :=
      ⟨by rw [List.length_append]; exact heap_set1 hhB _, by
        rw [List.length_append]
        exact own_keepB ho fun b e => heap_set_ne rfl (fun (e2 : b = B) => own_neT ho hhB (by decide) (e2 ▸ e)) _ _⟩
    have hob : (Value.slice A5 (ps.length + 1) c5).ownBlock = (Value.slice A ps.length c).ownBlock ∨ ∃ b, (Value.slice A5 (ps.length + 1) c5).ownBlock = some b ∧ w.heap.size ≤ b :=
      hat.imp id fun e => ⟨_, e, by have := HZ1.out; show w.heap.size ≤ W1.heap.size + 1; omega⟩
    obtain ⟨W9, hW9⟩ : ∃ W9, w'.setCell ⟨B, 0, none⟩ (.slice A5 (ps.length + 1) c5) = W9 := ⟨_, rfl⟩
    rw [hW9] at hkk hwb ⊢
    have HKK := hidp hkk
    have HWB := hidp hwb
    have HOB := hidp hob
    have cB9 := cell_of_heap (o := 0) hwb.box
    have lB9 := lt_of_heap hwb.box
    simp only [List.getElem?_toArray, List.getElem?_cons_zero, List.length_append, List.length_cons, List.length_nil] at cB9
    clear hW9 hkk hwb hob hk0 hk1 hk2 hhB hat ho hg cB cP0 cP1 lB lP hi hz hss hbb
    go_wp2_with fail
    go_ret
    exact ⟨ret_int (by omega), A5, c5, HWB.out, HOB.out, HKK.out⟩
end
section
open Go.RowKit Go.Shelf
def InsPost (base n : Nat) (v : Value) (l' : List Fc) (w : World) (e : Ending) (w' : World) : Prop :=
 ∃ v', e = .returned v' ∧ w'.ownsRow base 54 8 v' (n + 1) (l'.flatMap fEnc) ∧ (v'.ownBlock = v.ownBlock ∨ ∃ b, v'.ownBlock = some b ∧ w.heap.size ≤ b) ∧ Kept (fun b => v.ownBlock = some b) w w'
set_option maxRecDepth 100000 in
set_option maxHeartbeats 4000000 in
theorem insF_end (base n : Nat) (v : Value) (l : List Fc) (f : Fc) (xA : Addr) (xc : Nat) (w : World) (hown : w.ownsRow base 54 8 v n (l.flatMap fEnc)) (hx : fSl w w.heap.size (some xA) 1 xc [f]) (hb : base ≤ w.heap.size) (hn : n ≤ 1000000) :
  Calls Tryz.prog 89 #[v, .int .i64 n, .slice (some xA) 1 xc] w (InsPost base n v (l ++ [f]) w) := by
 obtain ⟨i0, hi, hz, hss, hbb⟩ := info_parts fInfo
 have hx1 := hx.2.1
 have hx2 := hx.2.2.1
 obtain ⟨v', w1, hrun, ho1, hg, hat⟩ := run_append_rows (P := Tryz.prog) (ty := 28) (l := l) (enc := fEnc) Tryz.underlying28 hi hz hss hbb rfl fEnc_len (by decide) fEnc_one hown hx (by omega) (by omega) hb
 have HRun := hidp hrun
 have HO := hidp ho1
 have HG := hidp hg
 have HAt := hidp hat
 clear hrun ho1 hg hat hi hz hss hbb hx
 have hend : ∀ V : Value, v = V → InsPost base n v (l ++ [f]) w (.returned v') w1 := by
  rintro _ rfl
  exact ⟨v', rfl, HO.out, HAt.out.imp id fun e => ⟨_, e, Nat.le_refl _⟩, (Kept.refl (fun b => v.ownBlock = some b) w).grown HG.out fun r e => .inl e⟩
 have HEnd := hidp hend
 rcases hown.2 with ⟨hv, hn0⟩ | ⟨G, cap, cur, hv, hG, hheap, hnc, hcm, hrest⟩
 ·subst hv
  subst hn0
  clear hown hend
  go_enter Tryz.func89, Tryz.ntmps89
  go_wp2_with (at_builtin; refine wpList_append_known rfl (.tmp 23) (.tmp 24) 28 rfl rfl rfl HRun.out ?_)
  go_ret
  exact HEnd.out _ rfl
 ·subst hv
  have hcap : cap ≤ 9223372036854775807 := by have := hcm; unfold maxLen at this; omega
  clear hown hend hheap hrest hcm
  go_enter Tryz.func89, Tryz.ntmps89
  go_wp2_with (at_builtin; refine wpList_append_known rfl (.tmp 23) (.tmp 24) 28 rfl rfl rfl HRun.out ?_)
  all_goals
   go_ret
   exact HEnd.out _ rfl
end
section
open Go.RowKit Go.Shelf
theorem run_copy_wide {P : Program} (w : World) (dT sT ty elem : TypeId) (k b o dLen dCap : Nat) (a : Addr) (sLen sCap : Nat) (cs : List Value)
    (hu : P.underlying dT = some (.slice elem)) (hs : (P.info? elem).map (·.size) = some k) (hn : cs.length = Nat.min sLen dLen * k)
    (hsrc : ∀ j v, cs[j]? = some v → w.cell? (a.add j) = some v) (hc : ∀ j, j < cs.length → (w.cell? ⟨b, o + j, none⟩).isSome = true) (hf : ∀ j, j < cs.length → w.frozen? ⟨b, o + j, none⟩ = false) (h1 : ∀ v ∈ cs, v.oneCell' = true) :
    (Builtin.copy_ #[dT, sT] ty #[.slice (some ⟨b, o, none⟩) dLen dCap, .slice (some a) sLen sCap]).run P w = .ok (goInt (Nat.min sLen dLen)) (w.setCells b o cs) := by
  have hl := run_loadCells_list (P := P) w a cs hsrc
  have hst := run_storeCells_cells (P := P) b o cs 0 w (by simpa using hc) (by simpa using hf) h1
  cases hq : P.info? elem with
  | none => simp [hq] at hs
  | some i =>
    have hi : i.size = k := by simpa [hq] using hs
    simp [Builtin.copy_, run_underlying hu, Builtin.lenOf, Builtin.firstCells, sizeOf, typeInfo, hq, hi, ← hn, hl, hst]
set_option maxHeartbeats 4000000 in
set_option maxRecDepth 100000 in
theorem insF_shift (b n c i vb voff vc : Nat) (cs vs : List Value) (w : World) (hi : i < n) (hroom : n + 1 ≤ c) (hc63 : c ≤ 9223372036854775807) (hvb : vb ≠ b)
  (hcl : cs.length = n * 8) (hvl : vs.length = 8)
  (hcs : ∀ j v, cs[j]? = some v → w.cell? ⟨b, j, none⟩ = some v) (hsp : ∀ j, j < (n + 1) * 8 → (w.cell? ⟨b, j, none⟩).isSome = true) (hfz : ∀ j, j < (n + 1) * 8 → w.frozen? ⟨b, j, none⟩ = false)
  (hvs : ∀ j v, vs[j]? = some v → w.cell? ⟨vb, voff + j, none⟩ = some v) (h1c : ∀ v ∈ cs, v.oneCell' = true) (h1v : ∀ v ∈ vs, v.oneCell' = true)
  (tA tB : TypeId) (kA kB : Nat) (hsa : w.shape? vb = some (tA, kA)) (hsb : w.shape? b = some (tB, kB)) (hkB : kB ≠ 0) (hfa : w.frozen? ⟨vb, voff, none⟩ = false) (hfe : w.frozen? ⟨vb, kA, none⟩ = false) :
  Calls Tryz.prog 89 #[.slice (some ⟨b, 0, none⟩) n c, .int .i64 i, .slice (some ⟨vb, voff, none⟩) 1 vc] w fun e w' =>
   e = .returned (.slice (some ⟨b, 0, none⟩) (n + 1) c) ∧ w' = (w.drew.setCells b ((i + 1) * 8) (cs.drop (i * 8))).setCells b (i * 8) vs := by
 obtain ⟨i0, hi0, h0, hs1, h2⟩ := info_parts fInfo
 have hsz : (Tryz.prog.info? 54).map (·.size) = some 8 := by rw [hi0]; simp [hs1]
 have hsizeOf : ∀ w, (Go.sizeOf 54).run Tryz.prog w = .ok 8 w := fun w => by simp [Go.sizeOf, typeInfo, hi0, hs1]
 have hz2 : ¬ ((i : Int) = (n : Int)) := by omega
 have hov : ∀ lb cb, (callFunc 120 #[.slice (some ⟨vb, voff, none⟩) 1 vc, .slice (some ⟨b, (i + 1) * 8, none⟩) lb cb]).run Tryz.prog w = .ok (.value (.bool false)) w := fun lb cb => by
  rw [run_callFunc_extern Tryz.func120 (by kernel_rfl) (by kernel_rfl) (by kernel_rfl) (e := Extern.SlicesOverlaps.overlaps #[28, 28] #[4]) (by kernel_rfl),
   Lib.run_overlaps_apart w 28 4 54 Tryz.underlying28 8 hsizeOf ⟨vb, voff, none⟩ ⟨b, (i + 1) * 8, none⟩ 1 vc lb cb hvb tA tB kA kB hsa hsb hkB hfa hfe]
  rfl
 have hdl : (cs.drop (i * 8)).length = (n - i) * 8 := by rw [List.length_drop, hcl]; omega
 have hw1 : IntKind.i64.wrap ((i : Int) + 1) = (i : Int) + 1 := by rw [IntKind.wrap_i64]; omega
 have mixed : Tryz.prog.follows Departure.mixedOrders = true := by first | rfl | kernel_rfl
 have hin : i ≤ n := by omega
 have hb1 : (0 : Int) ≤ (i : Int) + 1 := by omega
 have htn : ((i : Int) + 1).toNat = i + 1 := by omega
 have hb2 : ¬ (c = i + 1) := by omega
 have hb3 : (i : Int) ≤ (n : Int) + 1 := by omega
 have hb4 : ¬ (c = i) := by omega
 have hb5 : (i : Int) + 1 ≤ (n : Int) + 1 := by omega
 have hb6 : i + 1 ≤ n + 1 := by omega
 have hcp1 : ∀ ty dc sc, (Builtin.copy_ #[28, 28] ty #[.slice (some ⟨b, (i + 1) * 8, none⟩) (n - i) dc, .slice (some ⟨b, i * 8, none⟩) (n + 1 - i) sc]).run Tryz.prog w.drew = .ok (goInt (Nat.min (n + 1 - i) (n - i))) (w.drew.setCells b ((i + 1) * 8) (cs.drop (i * 8))) := fun ty dc sc =>
  run_copy_wide w.drew _ _ ty 54 8 b ((i + 1) * 8) (n - i) dc ⟨b, i * 8, none⟩ (n + 1 - i) sc (cs.drop (i * 8)) Tryz.underlying28 hsz (by rw [hdl]; congr 1; simp only [Nat.min_def]; split <;> omega)
   (fun j v hj => by rw [Addr.add_lit]; exact hcs (i * 8 + j) v (by rwa [List.getElem?_drop] at hj))
   (fun j hj => hsp _ (by omega)) (fun j hj => hfz _ (by omega)) (fun v hv => h1c v (List.mem_of_mem_drop hv))
 obtain ⟨W1, hW1⟩ : ∃ W1, W1 = w.drew.setCells b ((i + 1) * 8) (cs.drop (i * 8)) := ⟨_, rfl⟩
 have hsp1 : ∀ k, k < (n + 1) * 8 → (W1.cell? ⟨b, k, none⟩).isSome = true := fun k hk => by
  rw [hW1]
  exact isSome_setCells b (cs.drop (i * 8)) ((i + 1) * 8) w.drew (fun j hj => hsp _ (by rw [hdl] at hj; omega)) k (hsp k hk)
 have hcp2 : ∀ (W : World), (∀ x, W.cell? x = W1.cell? x) → (∀ x, W.frozen? x = W1.frozen? x) → ∀ ty dc, (Builtin.copy_ #[28, 28] ty #[.slice (some ⟨b, i * 8, none⟩) (n + 1 - i) dc, .slice (some ⟨vb, voff, none⟩) 1 vc]).run Tryz.prog W = .ok (goInt (Nat.min 1 (n + 1 - i))) (W.setCells b (i * 8) vs) := fun W hWc hWf ty dc =>
  run_copy_wide W _ _ ty 54 8 b (i * 8) (n + 1 - i) dc ⟨vb, voff, none⟩ 1 vc vs Tryz.underlying28 hsz (by rw [hvl]; simp only [Nat.min_def]; split <;> omega)
   (fun j v hj => by
    rw [Addr.add_lit, hWc, hW1, World.cell?_setCells_out b _ _ _ _ (fun h _ => absurd h hvb)]
    exact hvs j v hj)
   (fun j hj => by rw [hWc]; exact hsp1 _ (by omega)) (fun j hj => by rw [hWf, hW1, World.frozen?_setCells]; exact hfz _ (by omega)) h1v
 rw [← hW1] at hcp1
 go_enter Tryz.func89, Tryz.ntmps89
 go_wp2_with (simp only [hov])
 go_region_law_o (refine step_copy_runI rfl _ _ 28 28 rfl _ _ (by simp [Act.eval, Act.put]) (by simp [Act.eval, Act.put]) (hcp1 _ _ _) ?_)
 go_wp2_with (at_builtin; refine wpList_copy_runI _ rfl _ _ 28 28 rfl _ _ rfl rfl (hcp2 _ (fun _ => rfl) (fun _ => rfl) _ _) ?_)
 go_ret
 first | exact ⟨rfl, rfl⟩ | exact ⟨rfl, by rw [hW1]⟩
end
end Go.Proofs.YtbegdcjofnfkiaaGreatDoor
