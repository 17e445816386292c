/- Several texts in one: A3 A4 A5 A6 A7. -/
import Derived.Test.YtpnfpdkoeednhaaMA
import Derived.Test.YtpnfpdkoeednhaaM5
import Derived.Test.YtpnfpdkoeednhaaM3
import Derived.Test.YtpnfpdkoeednhaaJI0
section
/- What pages.good does with the next fact (printed by tools/gen130.py). -/
namespace Go.Proofs.Ytpnfpdkoeednhaa
open Go.RowKit

/-- The last fact, in its box. -/
def LastAt (w : World) (L : Nat) : Option Fc → Prop
  | none => w.heap[L]? = some (.cells #[.pointer none] 78 (0, 0))
  | some a => ∃ F, F ≠ L ∧ w.heap[L]? = some (.cells #[.pointer (some ⟨F, 0, none⟩)] 78 (0, 0)) ∧ w.heap[F]? = some (.cells #[.int .i64 a.key.kind, .int .i64 a.key.subj, .int .i64 a.key.obj, .int .i64 a.val, .int .i64 a.fr, .int .i64 a.to, .int .i64 a.known, .int .i64 a.no] 31 (0, 0))
theorem LastAt.keep {w w' : World} {L : Nat} {o : Option Fc} (h : LastAt w L o) (hb : Below w.heap.size w w') : LastAt w' L o := by
  cases o with
  | none => exact (hb.block _ (lt_of_heap h)).trans h
  | some a =>
    obtain ⟨F, h1, h2, h3⟩ := h
    exact ⟨F, h1, (hb.block _ (lt_of_heap h2)).trans h2, (hb.block _ (lt_of_heap h3)).trans h3⟩
theorem LastAt.lt {w : World} {L : Nat} {o : Option Fc} (h : LastAt w L o) : L < w.heap.size := by
  cases o with
  | none => exact lt_of_heap h
  | some a => obtain ⟨F, h1, h2, h3⟩ := h; exact lt_of_heap h2
theorem LastAt.cell {w : World} {L : Nat} {o : Option Fc} (h : LastAt w L o) : ∃ c, w.heap[L]? = some (.cells #[c] 78 (0, 0)) := by
  cases o with
  | none => exact ⟨_, h⟩
  | some a => obtain ⟨F, h1, h2, h3⟩ := h; exact ⟨_, h2⟩
theorem checkF_one (f : Fc) : (checkF [f] == 0) = f.ok := by
  unfold checkF
  cases h : f.ok <;> simp [h, sortedB]
set_option maxRecDepth 100000 in
set_option maxHeartbeats 4000000 in
theorem good1_any (L : Nat) (last : Option Fc) (f : Fc) (w : World) (hL : LastAt w L last) :
    Calls Try.prog 70 #[.agg #[.int .i64 f.key.kind, .int .i64 f.key.subj, .int .i64 f.key.obj, .int .i64 f.val, .int .i64 f.fr, .int .i64 f.to, .int .i64 f.known, .int .i64 f.no], .pointer (some ⟨L, 0, none⟩)] w fun e w' => e = demandE (nextOk last f) 470 ∧ (nextOk last f = true → LastAt w' L (some f)) ∧ Kept (fun b => b = L) w w' := by
  obtain ⟨W0, hW0⟩ : ∃ W0, w.alloc (.cells #[.int .i64 f.key.kind, .int .i64 f.key.subj, .int .i64 f.key.obj, .int .i64 f.val, .int .i64 f.fr, .int .i64 f.to, .int .i64 f.known, .int .i64 f.no] 31) = W0 := ⟨_, rfl⟩
  have hB0 : Below w.heap.size w W0 := hW0 ▸ (Below.refl _ w).alloc (Nat.le_refl _) _
  have g0 : W0.heap[w.heap.size]? = some (.cells #[.int .i64 f.key.kind, .int .i64 f.key.subj, .int .i64 f.key.obj, .int .i64 f.val, .int .i64 f.fr, .int .i64 f.to, .int .i64 f.known, .int .i64 f.no] 31 (0, 0)) := hW0 ▸ World.alloc_heap_new _ _
  have hL0 := hL.keep hB0
  have HL0 := hidp hL0
  have HLlt := hidp hL.lt
  have HB0 := hidp hB0
  have HG0 := hidp g0
  have HW0 := hidp hW0
  obtain ⟨ck, hck⟩ : ∃ z, checkF [f] = z := ⟨_, rfl⟩
  have HCk := hidp hck
  have h6 := checkF_one f
  rw [hck] at h6
  have HS1 : Hid (∀ W A c, Rows 8 (Rep.flat fEnc) W W.heap.size A 1 c [f] → Calls Try.prog 27 #[.slice A 1 c] W fun e w' => e = .returned (.int .i64 ck) ∧ Below W.heap.size W w') := fun W A c h => by
    have := fCheck_any A 1 c [f] W h
    rwa [hck] at this
  clear hB0 hL hL0 g0 hck hW0
  have y0 := cell_of_heap (o := 0) HG0.out
  have y1 := cell_of_heap (o := 1) HG0.out
  have y2 := cell_of_heap (o := 2) HG0.out
  have y3 := cell_of_heap (o := 3) HG0.out
  have y4 := cell_of_heap (o := 4) HG0.out
  have y5 := cell_of_heap (o := 5) HG0.out
  have y6 := cell_of_heap (o := 6) HG0.out
  have y7 := cell_of_heap (o := 7) HG0.out
  have l0 := lt_of_heap HG0.out
  simp only [List.getElem?_toArray, List.getElem?_cons_zero, List.getElem?_cons_succ] at y0 y1 y2 y3 y4 y5 y6 y7
  obtain ⟨fo, hfo⟩ : ∃ b, f.ok = b := ⟨_, rfl⟩
  rw [hfo] at h6
  have HFo := hidp hfo
  clear hfo
  go_enter Try.func70, Try.ntmps70
  cases fo
  · go_wp2_with fail
    rw [HW0.out]
    refine wp_region_S W0.heap.size 16 (fun _ => false) (Nat.le_refl _) (by kernel_rfl) (by kernel_rfl) (by kernel_rfl) ?_
    dsimp only [List.take, List.drop]
    apply relS_det (mask := []) (x := .agg #[.int .i64 f.key.kind, .int .i64 f.key.subj, .int .i64 f.key.obj, .int .i64 f.val, .int .i64 f.fr, .int .i64 f.to, .int .i64 f.known, .int .i64 f.no])
    · rfl
    · kernel_rfl
    · kernel_rfl
    · dsimp only [oblS]
      rintro w9 h9
      have hc9 := (bcell h9).1
      go_simp
      exact ⟨Below.refl _ _, rfl⟩
    dsimp only [List.nil_append, List.cons_append]
    apply relS_any (mask := [true]) (T := fun v W => ∃ A c, v = .slice A 1 c ∧ Rows 8 (Rep.flat fEnc) W W.heap.size A 1 c [f]) (hT := fun v w w' hb ⟨A, c, e, h⟩ => ⟨A, c, e, h.keep (Rep.flat_stable _) hb.size hb.block⟩)
    · rfl
    · kernel_rfl
    · kernel_rfl
    · dsimp only [oblS]
      rintro w9 h9 T' hT'
      go_simp
      exact ⟨(Below.refl _ w9).alloc (Nat.le_refl _) _, hT' _ _ ⟨_, _, rfl, rows_of_heap (l := [f]) fEnc_len (World.alloc_heap_new w9 _) (Nat.le_refl _) (by decide) rfl⟩⟩
    dsimp only [List.nil_append, List.cons_append]
    apply relS_det (mask := [false, true]) (x := .int .i64 ck)
    · rfl
    · kernel_rfl
    · kernel_rfl
    · dsimp only [oblS]
      intro v4
      rintro w9 ⟨h9, t4⟩
      obtain ⟨A, c, e4, h4⟩ := t4
      subst e4
      go_simp
      refine (HS1.out w9 A c h4).mono ?_
      rintro e w7 ⟨rfl, hb7⟩
      exact ⟨_, rfl, hb7, rfl⟩
    dsimp only [List.nil_append, List.cons_append]
    apply relS_det (mask := [false, false, true]) (x := .bool false)
    · rfl
    · kernel_rfl
    · kernel_rfl
    · dsimp only [oblS]
      rintro w9 h9
      go_simp
      exact ⟨Below.refl _ _, rfl⟩
    dsimp only [List.nil_append, List.cons_append]
    apply relS_det (mask := [false, false, false, true])
    · rfl
    · kernel_rfl
    · kernel_rfl
    · dsimp only [oblS]
      rintro w9 h9
      go_simp
      exact ⟨Below.refl _ _, rfl⟩
    dsimp only [List.nil_append, List.cons_append]
    apply relS_not (mask := [false, false, false, false, true]) (t := 7) (want := true) (hf := by rfl) (hg := by kernel_rfl) (hm := by kernel_rfl)
    · rfl
    dsimp only [List.nil_append, List.cons_append]
    apply relS_not (mask := [false, false, false, false, true, true]) (t := 7) (want := true) (hf := by rfl) (hg := by kernel_rfl) (hm := by kernel_rfl)
    · rfl
    dsimp only [List.nil_append, List.cons_append]
    apply relS_not (mask := [false, false, false, false, true, false, true]) (t := 7) (want := true) (hf := by rfl) (hg := by kernel_rfl) (hm := by kernel_rfl)
    · rfl
    dsimp only [List.nil_append, List.cons_append]
    apply relS_if (mask := [false, false, false, false, false, false, false, true]) (t := 10) (want := false) (g := false) (x := undef)
    · rfl
    · kernel_rfl
    · kernel_rfl
    · dsimp only [oblS]
      refine ⟨⟨undef, by rfl, (fun h => by cases h), (fun _ h => by cases h)⟩, ?_⟩
      intro hg
      rintro w9 h9
      exact absurd hg (by simp)
    dsimp only [List.nil_append, List.cons_append]
    apply relS_if (mask := [false, false, false, false, false, false, false, true, true]) (t := 10) (want := false) (g := false) (x := undef)
    · rfl
    · kernel_rfl
    · kernel_rfl
    · dsimp only [oblS]
      refine ⟨⟨undef, by rfl, (fun h => by cases h), (fun _ h => by cases h)⟩, ?_⟩
      intro hg
      rintro w9 h9
      exact absurd hg (by simp)
    dsimp only [List.nil_append, List.cons_append]
    apply relS_if (mask := [false, false, false, false, false, false, false, true, false, true]) (t := 10) (want := false) (g := false) (x := undef)
    · rfl
    · kernel_rfl
    · kernel_rfl
    · dsimp only [oblS]
      refine ⟨⟨undef, by rfl, (fun h => by cases h), (fun _ h => by cases h)⟩, ?_⟩
      intro hg
      rintro w9 h9
      exact absurd hg (by simp)
    dsimp only [List.nil_append, List.cons_append]
    apply relS_if (mask := [false, false, false, false, false, false, false, true, false, false, false]) (t := 10) (want := false) (g := false) (x := undef)
    · rfl
    · kernel_rfl
    · kernel_rfl
    · dsimp only [oblS]
      refine ⟨⟨undef, by rfl, (fun h => by cases h), (fun _ h => by cases h)⟩, ?_⟩
      intro hg
      rintro w9 h9
      exact absurd hg (by simp)
    dsimp only [List.nil_append, List.cons_append]
    apply relS_if (mask := [false, false, false, false, false, false, false, true, false, false, true, true]) (t := 10) (want := false) (g := false) (x := undef)
    · rfl
    · kernel_rfl
    · kernel_rfl
    · dsimp only [oblS]
      refine ⟨⟨undef, by rfl, (fun h => by cases h), (fun _ h => by cases h)⟩, ?_⟩
      intro hg
      rintro w9 h9
      exact absurd hg (by simp)
    dsimp only [List.nil_append, List.cons_append]
    apply relS_if (mask := [false, false, false, false, false, false, false, true, false, false, false, false, true]) (t := 10) (want := false) (g := false) (x := undef)
    · rfl
    · kernel_rfl
    · kernel_rfl
    · dsimp only [oblS]
      refine ⟨⟨undef, by rfl, (fun h => by cases h), (fun _ h => by cases h)⟩, ?_⟩
      intro hg
      rintro w9 h9
      exact absurd hg (by simp)
    dsimp only [List.nil_append, List.cons_append]
    apply relS_not (mask := [false, false, false, false, true, false, false, true, false, false, false, false, false, true]) (t := 7) (want := true) (hf := by rfl) (hg := by kernel_rfl) (hm := by kernel_rfl)
    · rfl
    dsimp only [List.nil_append, List.cons_append]
    apply relS_det (mask := [false, false, false, false, true, false, false, false, false, false, false, false, false, false, true]) (x := .bool false)
    · rfl
    · kernel_rfl
    · kernel_rfl
    · dsimp only [oblS]
      rintro w9 h9
      go_simp
      exact ⟨Below.refl _ _, rfl⟩
    dsimp only [List.nil_append, List.cons_append]
    refine relS_end (by rfl) ?_
    dsimp only [finS]
    rintro v4 w8 ⟨hb8, _⟩
    have HB8 := hidp hb8
    have HB9 := hidp (HB0.out.trans (hb8.mono HB0.out.size))
    clear y0 y1 y2 y3 y4 y5 y6 y7 l0 hb8
    go_simp
    go_wp2_with fail
    have HN : Hid (nextOk last f = false) := by show _ = _; unfold nextOk; rw [HFo.out]; rfl
    refine (demand_any false 470 w8).mono ?_
    rintro e w7 ⟨rfl, rfl⟩
    exact ⟨rfl, by rw [HN.out]; rfl, (fun h => by rw [HN.out] at h; cases h), (Kept.refl (fun b => b = L) w).below HB9.out (fun b h1 h2 => by omega)⟩
  · rcases last with _ | a
    · have HN : Hid (nextOk none f = true) := by show _ = _; unfold nextOk; rw [HFo.out]; rfl
      have hcl := cell_of_heap (o := 0) HL0.out
      have ll := lt_of_heap HL0.out
      simp only [List.getElem?_toArray, List.getElem?_cons_zero] at hcl
      go_wp2_with fail
      rw [HW0.out]
      refine wp_region_S W0.heap.size 16 (fun _ => false) (Nat.le_refl _) (by kernel_rfl) (by kernel_rfl) (by kernel_rfl) ?_
      dsimp only [List.take, List.drop]
      apply relS_det (mask := []) (x := .agg #[.int .i64 f.key.kind, .int .i64 f.key.subj, .int .i64 f.key.obj, .int .i64 f.val, .int .i64 f.fr, .int .i64 f.to, .int .i64 f.known, .int .i64 f.no])
      · rfl
      · kernel_rfl
      · kernel_rfl
      · dsimp only [oblS]
        rintro w9 h9
        have hc9 := (bcell h9).1
        go_simp
        exact ⟨Below.refl _ _, rfl⟩
      dsimp only [List.nil_append, List.cons_append]
      apply relS_any (mask := [true]) (T := fun v W => ∃ A c, v = .slice A 1 c ∧ Rows 8 (Rep.flat fEnc) W W.heap.size A 1 c [f]) (hT := fun v w w' hb ⟨A, c, e, h⟩ => ⟨A, c, e, h.keep (Rep.flat_stable _) hb.size hb.block⟩)
      · rfl
      · kernel_rfl
      · kernel_rfl
      · dsimp only [oblS]
        rintro w9 h9 T' hT'
        go_simp
        exact ⟨(Below.refl _ w9).alloc (Nat.le_refl _) _, hT' _ _ ⟨_, _, rfl, rows_of_heap (l := [f]) fEnc_len (World.alloc_heap_new w9 _) (Nat.le_refl _) (by decide) rfl⟩⟩
      dsimp only [List.nil_append, List.cons_append]
      apply relS_det (mask := [false, true]) (x := .int .i64 ck)
      · rfl
      · kernel_rfl
      · kernel_rfl
      · dsimp only [oblS]
        intro v4
        rintro w9 ⟨h9, t4⟩
        obtain ⟨A, c, e4, h4⟩ := t4
        subst e4
        go_simp
        refine (HS1.out w9 A c h4).mono ?_
        rintro e w7 ⟨rfl, hb7⟩
        exact ⟨_, rfl, hb7, rfl⟩
      dsimp only [List.nil_append, List.cons_append]
      apply relS_det (mask := [false, false, true]) (x := .bool true)
      · rfl
      · kernel_rfl
      · kernel_rfl
      · dsimp only [oblS]
        rintro w9 h9
        go_simp
        exact ⟨Below.refl _ _, rfl⟩
      dsimp only [List.nil_append, List.cons_append]
      apply relS_det (mask := [false, false, false, true])
      · rfl
      · kernel_rfl
      · kernel_rfl
      · dsimp only [oblS]
        rintro w9 h9
        go_simp
        exact ⟨Below.refl _ _, rfl⟩
      dsimp only [List.nil_append, List.cons_append]
      apply relS_detg (mask := [false, false, false, false, true]) (t := 7) (want := true) (x := .pointer none)
      · rfl
      · kernel_rfl
      · kernel_rfl
      · dsimp only [oblS]
        refine ⟨by rfl, ?_⟩
        rintro w9 h9
        have hc9 := (bcell h9).1
        go_simp
        exact ⟨Below.refl _ _, rfl⟩
      dsimp only [List.nil_append, List.cons_append]
      apply relS_detg (mask := [false, false, false, false, true, true]) (t := 7) (want := true) (x := .bool true)
      · rfl
      · kernel_rfl
      · kernel_rfl
      · dsimp only [oblS]
        refine ⟨by rfl, ?_⟩
        rintro w9 h9
        go_simp
        exact ⟨Below.refl _ _, rfl⟩
      dsimp only [List.nil_append, List.cons_append]
      apply relS_detg (mask := [false, false, false, false, true, false, true]) (t := 7) (want := true)
      · rfl
      · kernel_rfl
      · kernel_rfl
      · dsimp only [oblS]
        refine ⟨by rfl, ?_⟩
        rintro w9 h9
        go_simp
        exact ⟨Below.refl _ _, rfl⟩
      dsimp only [List.nil_append, List.cons_append]
      apply relS_not (mask := [false, false, false, false, false, false, false, true]) (t := 10) (want := false) (hf := by rfl) (hg := by kernel_rfl) (hm := by kernel_rfl)
      · rfl
      dsimp only [List.nil_append, List.cons_append]
      apply relS_not (mask := [false, false, false, false, false, false, false, true, true]) (t := 10) (want := false) (hf := by rfl) (hg := by kernel_rfl) (hm := by kernel_rfl)
      · rfl
      dsimp only [List.nil_append, List.cons_append]
      apply relS_not (mask := [false, false, false, false, false, false, false, true, false, true]) (t := 10) (want := false) (hf := by rfl) (hg := by kernel_rfl) (hm := by kernel_rfl)
      · rfl
      dsimp only [List.nil_append, List.cons_append]
      apply relS_not (mask := [false, false, false, false, false, false, false, true, false, false, false]) (t := 10) (want := false) (hf := by rfl) (hg := by kernel_rfl) (hm := by kernel_rfl)
      · rfl
      dsimp only [List.nil_append, List.cons_append]
      apply relS_not (mask := [false, false, false, false, false, false, false, true, false, false, true, true]) (t := 10) (want := false) (hf := by rfl) (hg := by kernel_rfl) (hm := by kernel_rfl)
      · rfl
      dsimp only [List.nil_append, List.cons_append]
      apply relS_not (mask := [false, false, false, false, false, false, false, true, false, false, false, false, true]) (t := 10) (want := false) (hf := by rfl) (hg := by kernel_rfl) (hm := by kernel_rfl)
      · rfl
      dsimp only [List.nil_append, List.cons_append]
      apply relS_detg (mask := [false, false, false, false, true, false, false, true, false, false, false, false, false, true]) (t := 7) (want := true) (x := .bool true)
      · rfl
      · kernel_rfl
      · kernel_rfl
      · dsimp only [oblS]
        refine ⟨by rfl, ?_⟩
        rintro w9 h9
        go_simp
        exact ⟨Below.refl _ _, rfl⟩
      dsimp only [List.nil_append, List.cons_append]
      apply relS_det (mask := [false, false, false, false, true, false, false, false, false, false, false, false, false, false, true]) (x := .bool true)
      · rfl
      · kernel_rfl
      · kernel_rfl
      · dsimp only [oblS]
        rintro w9 h9
        go_simp
        exact ⟨Below.refl _ _, rfl⟩
      dsimp only [List.nil_append, List.cons_append]
      refine relS_end (by rfl) ?_
      dsimp only [finS]
      rintro v4 w8 ⟨hb8, _⟩
      have HB8 := hidp hb8
      have HB9 := hidp (HB0.out.trans (hb8.mono HB0.out.size))
      clear y0 y1 y2 y3 y4 y5 y6 y7 l0 hb8 hcl ll
      go_simp
      go_wp2_with fail
      refine (demand_any true 470 w8).mono ?_
      rintro e w7 ⟨rfl, rfl⟩
      simp only [demandE, if_true]
      have hL8 := HL0.out.keep HB8.out
      obtain ⟨cL, hcL⟩ := LastAt.cell hL8
      have zL := frozen_of_heap (o := 0) hcL
      have xL := cell_of_heap (o := 0) hcL
      have lL := lt_of_heap hcL
      have HCL := hidp hcL
      have gF := (HB8.out.block _ (lt_of_heap HG0.out)).trans HG0.out
      have HGF := hidp gF
      simp only [List.getElem?_toArray, List.getElem?_cons_zero] at xL
      clear hL8 hcL gF
      go_wp2_with fail
      go_end0
      have hne : w.heap.size ≠ L := by have := HLlt.out; omega
      exact ⟨by rw [HN.out]; rfl, fun _ => ⟨w.heap.size, hne, heap_set1 HCL.out _, (Below.heap_setCell _ ⟨L, 0, none⟩ _ _ hne).trans HGF.out⟩, ((Kept.refl (fun b => b = L) w).below HB9.out (fun b h1 h2 => by omega)).setCell (p := ⟨L, 0, none⟩) (.inl rfl) _⟩
    · obtain ⟨F, hFL, gL, gF⟩ := HL0.out
      have hcl := cell_of_heap (o := 0) gL
      have ll := lt_of_heap gL
      have f0 := cell_of_heap (o := 0) gF
      have f1 := cell_of_heap (o := 1) gF
      have f2 := cell_of_heap (o := 2) gF
      have f3 := cell_of_heap (o := 3) gF
      have f4 := cell_of_heap (o := 4) gF
      have f5 := cell_of_heap (o := 5) gF
      have f6 := cell_of_heap (o := 6) gF
      have f7 := cell_of_heap (o := 7) gF
      have lf := lt_of_heap gF
      simp only [List.getElem?_toArray, List.getElem?_cons_zero, List.getElem?_cons_succ] at hcl f0 f1 f2 f3 f4 f5 f6 f7
      obtain ⟨lo, hlo⟩ : ∃ b, ltP a f = b := ⟨_, rfl⟩
      have HN : Hid (nextOk (some a) f = lo) := by show _ = _; unfold nextOk; rw [HFo.out]; exact hlo
      have hneg : decide (cmpP a f < 0) = lo := by rw [cmpP_neg]; exact hlo
      obtain ⟨cz, hcz⟩ : ∃ z, cmpP a f = z := ⟨_, rfl⟩
      rw [hcz] at hneg
      have HCz := hidp hcz
      clear hlo gL gF hFL hcz
      go_wp2_with fail
      rw [HW0.out]
      refine wp_region_S W0.heap.size 16 (fun _ => false) (Nat.le_refl _) (by kernel_rfl) (by kernel_rfl) (by kernel_rfl) ?_
      dsimp only [List.take, List.drop]
      apply relS_det (mask := []) (x := .agg #[.int .i64 f.key.kind, .int .i64 f.key.subj, .int .i64 f.key.obj, .int .i64 f.val, .int .i64 f.fr, .int .i64 f.to, .int .i64 f.known, .int .i64 f.no])
      · rfl
      · kernel_rfl
      · kernel_rfl
      · dsimp only [oblS]
        rintro w9 h9
        have hc9 := (bcell h9).1
        go_simp
        exact ⟨Below.refl _ _, rfl⟩
      dsimp only [List.nil_append, List.cons_append]
      apply relS_any (mask := [true]) (T := fun v W => ∃ A c, v = .slice A 1 c ∧ Rows 8 (Rep.flat fEnc) W W.heap.size A 1 c [f]) (hT := fun v w w' hb ⟨A, c, e, h⟩ => ⟨A, c, e, h.keep (Rep.flat_stable _) hb.size hb.block⟩)
      · rfl
      · kernel_rfl
      · kernel_rfl
      · dsimp only [oblS]
        rintro w9 h9 T' hT'
        go_simp
        exact ⟨(Below.refl _ w9).alloc (Nat.le_refl _) _, hT' _ _ ⟨_, _, rfl, rows_of_heap (l := [f]) fEnc_len (World.alloc_heap_new w9 _) (Nat.le_refl _) (by decide) rfl⟩⟩
      dsimp only [List.nil_append, List.cons_append]
      apply relS_det (mask := [false, true]) (x := .int .i64 ck)
      · rfl
      · kernel_rfl
      · kernel_rfl
      · dsimp only [oblS]
        intro v4
        rintro w9 ⟨h9, t4⟩
        obtain ⟨A, c, e4, h4⟩ := t4
        subst e4
        go_simp
        refine (HS1.out w9 A c h4).mono ?_
        rintro e w7 ⟨rfl, hb7⟩
        exact ⟨_, rfl, hb7, rfl⟩
      dsimp only [List.nil_append, List.cons_append]
      apply relS_det (mask := [false, false, true]) (x := .bool true)
      · rfl
      · kernel_rfl
      · kernel_rfl
      · dsimp only [oblS]
        rintro w9 h9
        go_simp
        exact ⟨Below.refl _ _, rfl⟩
      dsimp only [List.nil_append, List.cons_append]
      apply relS_det (mask := [false, false, false, true])
      · rfl
      · kernel_rfl
      · kernel_rfl
      · dsimp only [oblS]
        rintro w9 h9
        go_simp
        exact ⟨Below.refl _ _, rfl⟩
      dsimp only [List.nil_append, List.cons_append]
      apply relS_detg (mask := [false, false, false, false, true]) (t := 7) (want := true) (x := .pointer (some ⟨F, 0, none⟩))
      · rfl
      · kernel_rfl
      · kernel_rfl
      · dsimp only [oblS]
        refine ⟨by rfl, ?_⟩
        rintro w9 h9
        have hc9 := (bcell h9).1
        go_simp
        exact ⟨Below.refl _ _, rfl⟩
      dsimp only [List.nil_append, List.cons_append]
      apply relS_detg (mask := [false, false, false, false, true, true]) (t := 7) (want := true) (x := .bool false)
      · rfl
      · kernel_rfl
      · kernel_rfl
      · dsimp only [oblS]
        refine ⟨by rfl, ?_⟩
        rintro w9 h9
        go_simp
        exact ⟨Below.refl _ _, rfl⟩
      dsimp only [List.nil_append, List.cons_append]
      apply relS_detg (mask := [false, false, false, false, true, false, true]) (t := 7) (want := true)
      · rfl
      · kernel_rfl
      · kernel_rfl
      · dsimp only [oblS]
        refine ⟨by rfl, ?_⟩
        rintro w9 h9
        go_simp
        exact ⟨Below.refl _ _, rfl⟩
      dsimp only [List.nil_append, List.cons_append]
      apply relS_detg (mask := [false, false, false, false, false, false, false, true]) (t := 10) (want := false) (x := .pointer (some ⟨F, 0, none⟩))
      · rfl
      · kernel_rfl
      · kernel_rfl
      · dsimp only [oblS]
        refine ⟨by rfl, ?_⟩
        rintro w9 h9
        have hc9 := (bcell h9).1
        go_simp
        exact ⟨Below.refl _ _, rfl⟩
      dsimp only [List.nil_append, List.cons_append]
      apply relS_detg (mask := [false, false, false, false, false, false, false, true, true]) (t := 10) (want := false)
      · rfl
      · kernel_rfl
      · kernel_rfl
      · dsimp only [oblS]
        refine ⟨by rfl, ?_⟩
        rintro w9 h9
        go_simp
        exact ⟨Below.refl _ _, rfl⟩
      dsimp only [List.nil_append, List.cons_append]
      apply relS_detg (mask := [false, false, false, false, false, false, false, true, false, true]) (t := 10) (want := false) (x := .agg #[.int .i64 a.key.kind, .int .i64 a.key.subj, .int .i64 a.key.obj, .int .i64 a.val, .int .i64 a.fr, .int .i64 a.to, .int .i64 a.known, .int .i64 a.no])
      · rfl
      · kernel_rfl
      · kernel_rfl
      · dsimp only [oblS]
        refine ⟨by rfl, ?_⟩
        rintro w9 h9
        have hc9 := (bcell h9).1
        go_simp
        exact ⟨Below.refl _ _, rfl⟩
      dsimp only [List.nil_append, List.cons_append]
      apply relS_detg (mask := [false, false, false, false, false, false, false, true, false, false, false]) (t := 10) (want := false) (x := .agg #[.int .i64 f.key.kind, .int .i64 f.key.subj, .int .i64 f.key.obj, .int .i64 f.val, .int .i64 f.fr, .int .i64 f.to, .int .i64 f.known, .int .i64 f.no])
      · rfl
      · kernel_rfl
      · kernel_rfl
      · dsimp only [oblS]
        refine ⟨by rfl, ?_⟩
        rintro w9 h9
        have hc9 := (bcell h9).1
        go_simp
        exact ⟨Below.refl _ _, rfl⟩
      dsimp only [List.nil_append, List.cons_append]
      apply relS_detg (mask := [false, false, false, false, false, false, false, true, false, false, true, true]) (t := 10) (want := false) (x := .int .i64 cz)
      · rfl
      · kernel_rfl
      · kernel_rfl
      · dsimp only [oblS]
        refine ⟨by rfl, ?_⟩
        rintro w9 h9
        go_simp
        refine (pgcmp_any a f w9).mono ?_
        rintro e w7 ⟨rfl, hb7⟩
        exact ⟨_, rfl, hb7.b, by rw [HCz.out]; rfl⟩
      dsimp only [List.nil_append, List.cons_append]
      apply relS_detg (mask := [false, false, false, false, false, false, false, true, false, false, false, false, true]) (t := 10) (want := false) (x := .bool lo)
      · rfl
      · kernel_rfl
      · kernel_rfl
      · dsimp only [oblS]
        refine ⟨by rfl, ?_⟩
        rintro w9 h9
        go_simp
        exact ⟨Below.refl _ _, rfl⟩
      dsimp only [List.nil_append, List.cons_append]
      apply relS_detg (mask := [false, false, false, false, true, false, false, true, false, false, false, false, false, true]) (t := 7) (want := true) (x := .bool lo)
      · rfl
      · kernel_rfl
      · kernel_rfl
      · dsimp only [oblS]
        refine ⟨by rfl, ?_⟩
        rintro w9 h9
        go_simp
        exact ⟨Below.refl _ _, rfl⟩
      dsimp only [List.nil_append, List.cons_append]
      apply relS_det (mask := [false, false, false, false, true, false, false, false, false, false, false, false, false, false, true]) (x := .bool lo)
      · rfl
      · kernel_rfl
      · kernel_rfl
      · dsimp only [oblS]
        rintro w9 h9
        go_simp
        exact ⟨Below.refl _ _, rfl⟩
      dsimp only [List.nil_append, List.cons_append]
      refine relS_end (by rfl) ?_
      dsimp only [finS]
      rintro v4 w8 ⟨hb8, _⟩
      have HB8 := hidp hb8
      have HB9 := hidp (HB0.out.trans (hb8.mono HB0.out.size))
      clear y0 y1 y2 y3 y4 y5 y6 y7 l0 hb8 hcl ll f0 f1 f2 f3 f4 f5 f6 f7 lf
      go_simp
      go_wp2_with fail
      cases lo
      · refine (demand_any false 470 w8).mono ?_
        rintro e w7 ⟨rfl, rfl⟩
        exact ⟨rfl, by rw [HN.out]; rfl, (fun h => by rw [HN.out] at h; cases h), (Kept.refl (fun b => b = L) w).below HB9.out (fun b h1 h2 => by omega)⟩
      · refine (demand_any true 470 w8).mono ?_
        rintro e w7 ⟨rfl, rfl⟩
        simp only [demandE, if_true]
        have hL8 := HL0.out.keep HB8.out
        obtain ⟨cL, hcL⟩ := LastAt.cell hL8
        have zL := frozen_of_heap (o := 0) hcL
        have xL := cell_of_heap (o := 0) hcL
        have lL := lt_of_heap hcL
        have HCL := hidp hcL
        have gF := (HB8.out.block _ (lt_of_heap HG0.out)).trans HG0.out
        have HGF := hidp gF
        simp only [List.getElem?_toArray, List.getElem?_cons_zero] at xL
        clear hL8 hcL gF
        go_wp2_with fail
        go_end0
        have hne : w.heap.size ≠ L := by have := HLlt.out; omega
        exact ⟨by rw [HN.out]; rfl, fun _ => ⟨w.heap.size, hne, heap_set1 HCL.out _, (Below.heap_setCell _ ⟨L, 0, none⟩ _ _ hne).trans HGF.out⟩, ((Kept.refl (fun b => b = L) w).below HB9.out (fun b h1 h2 => by omega)).setCell (p := ⟨L, 0, none⟩) (.inl rfl) _⟩
end Go.Proofs.Ytpnfpdkoeednhaa

end
section
/- Pages in memory; plain steps of the walk. -/
namespace Go.Proofs.Ytpnfpdkoeednhaa
open Go.RowKit

/-- A page, and where its lists lie. -/
structure Pq where
  (fA : Option Addr) (fn fc : Nat) (facts : List Fc)
  (kA : Option Addr) (kn kc : Nat) (kids : List Int)
instance : Inhabited Pq := ⟨⟨none, 0, 0, [], none, 0, 0, []⟩⟩
def pgV (g : Pq) : Pv := ⟨g.facts, g.kids⟩
def pgEnc (g : Pq) : List Value := [.slice g.fA g.fn g.fc, .slice g.kA g.kn g.kc]
theorem pgEnc_len (g : Pq) : (pgEnc g).length = 2 := rfl
theorem pgEnc_one (g : Pq) : ∀ u ∈ pgEnc g, u.oneCell' = true := by
  intro u hu; simp [pgEnc] at hu; rcases hu with rfl | rfl <;> rfl
def PgIn (g : Pq) (w : World) (n : Nat) : Prop := fSl w n g.fA g.fn g.fc g.facts ∧ iSl w n g.kA g.kn g.kc g.kids
theorem PgIn.keep {g : Pq} {w w' : World} {n n' : Nat} (h : PgIn g w n) (hz : n ≤ n') (hk : ∀ b, b < n → w'.heap[b]? = w.heap[b]?) : PgIn g w' n' := ⟨h.1.keep (Rep.flat_stable _) hz hk, h.2.keep (Rep.flat_stable _) hz hk⟩
/-- Pages and versions, and where they lie. -/
structure Ps where
  (pA : Option Addr) (pn pc : Nat) (gs : List Pq)
  (rA : Option Addr) (rn rc : Nat) (roots : List Int)
def psV (s : Ps) : List Pv := s.gs.map pgV
abbrev pgSl := Rows 2 (Rep.flat pgEnc)
structure PsIn (s : Ps) (w : World) (n : Nat) : Prop where
  pages : pgSl w n s.pA s.pn s.pc s.gs
  each : ∀ g ∈ s.gs, PgIn g w n
  roots : iSl w n s.rA s.rn s.rc s.roots
theorem PsIn.keep {s : Ps} {w w' : World} {n n' : Nat} (h : PsIn s w n) (hz : n ≤ n') (hk : ∀ b, b < n → w'.heap[b]? = w.heap[b]?) : PsIn s w' n' :=
  ⟨h.pages.keep (Rep.flat_stable _) hz hk, fun g hg => (h.each g hg).keep hz hk, h.roots.keep (Rep.flat_stable _) hz hk⟩
theorem PsIn.later {s : Ps} {w w' : World} (h : PsIn s w w.heap.size) (hb : Below w.heap.size w w') : PsIn s w' w'.heap.size := h.keep hb.size hb.block
theorem psV_get {s : Ps} {p : Nat} {g : Pq} (h : s.gs[p]? = some g) : (psV s)[p]? = some (pgV g) := by unfold psV; rw [List.getElem?_map, h]; rfl
theorem psV_len (s : Ps) : (psV s).length = s.gs.length := by simp [psV]
theorem pgSl.get {n₀ n c k : Nat} {A : Option Addr} {l : List Pq} {W : World} (h : pgSl W n₀ A n c l) (hk : k < n) :
    ∃ b off g, A = some ⟨b, off, none⟩ ∧ b < n₀ ∧ l[k]? = some g ∧ W.cell? ⟨b, off + k * 2, none⟩ = some (.slice g.fA g.fn g.fc) ∧ W.cell? ⟨b, off + k * 2 + 1, none⟩ = some (.slice g.kA g.kn g.kc) := by
  obtain ⟨b, off, m, cs, e, hlt, hk', rfl, hc⟩ := Rows.get h hk
  exact ⟨b, off, m, e, hlt, hk', hc 0 _ rfl, hc 1 _ rfl⟩
theorem ix_Pages {A : Option Addr} {n c k b off : Nat} (hA : A = some ⟨b, off, none⟩) (hk : k < n) (W : World) : (Instr.indexAt 22 (.slice A n c) (.int .i64 k)).run Try.prog W = .ok (.pointer (some ⟨b, off + k * 2, none⟩)) W := by
  subst hA
  have hk' : (k : Int) < n := by omega
  simp [go_sem, hk']
theorem ix_FactsP {A : Option Addr} {n c k b off : Nat} (hA : A = some ⟨b, off, none⟩) (hk : k < n) (W : World) : (Instr.indexAt 41 (.slice A n c) (.int .i64 k)).run Try.prog W = .ok (.pointer (some ⟨b, off + k * 8, none⟩)) W := by
  subst hA
  have hk' : (k : Int) < n := by omega
  simp [go_sem, hk']
theorem ix_intsP {A : Option Addr} {n c k b off : Nat} (hA : A = some ⟨b, off, none⟩) (hk : k < n) (W : World) : (Instr.indexAt 23 (.slice A n c) (.int .i64 k)).run Try.prog W = .ok (.pointer (some ⟨b, off + k, none⟩)) W := by
  subst hA
  have hk' : (k : Int) < n := by omega
  simp [go_sem, hk']

/-! Steps of the walk. -/
theorem step_leaf_fact {sub : Int → List Fc → Option (List Fc × Nat)} {g : Pv} {l m : List Fc} {i lv : Nat} {f : Fc} (hk : g.kids.length = 0) (h : loopW sub g l i = some (m, lv)) (hf : g.facts[i]? = some f) :
    loopW sub g l (i + 1) = if nextOk m.getLast? f = true then some (m ++ [f], lv) else none := by
  rw [loopW_succ, h]; simp [stepW, subW, factW, hk, hf]
theorem step_leaf_end {sub : Int → List Fc → Option (List Fc × Nat)} {g : Pv} {l m : List Fc} {i lv : Nat} (hk : g.kids.length = 0) (h : loopW sub g l i = some (m, lv)) (hf : g.facts[i]? = none) :
    loopW sub g l (i + 1) = some (m, lv) := by
  rw [loopW_succ, h]; simp [stepW, subW, factW, hk, hf]
theorem step_kid_no {sub : Int → List Fc → Option (List Fc × Nat)} {g : Pv} {l m : List Fc} {i lv : Nat} {kid : Int} (hk : g.kids[i]? = some kid) (h : loopW sub g l i = some (m, lv)) (hs : sub kid m = none) : loopW sub g l (i + 1) = none := by
  have h0 : g.kids.length ≠ 0 := fun e => by rw [List.length_eq_zero_iff.1 e] at hk; simp at hk
  rw [loopW_succ, h]; simp [stepW, subW, h0, List.getD_eq_getElem?_getD, hk, hs]
theorem step_kid_lv {sub : Int → List Fc → Option (List Fc × Nat)} {g : Pv} {l m m' : List Fc} {i lv d : Nat} {kid : Int} (hk : g.kids[i]? = some kid) (h : loopW sub g l i = some (m, lv)) (hs : sub kid m = some (m', d)) (hd : ¬ (i = 0 ∨ d = lv)) : loopW sub g l (i + 1) = none := by
  have h0 : g.kids.length ≠ 0 := fun e => by rw [List.length_eq_zero_iff.1 e] at hk; simp at hk
  rw [loopW_succ, h]; simp [stepW, subW, h0, List.getD_eq_getElem?_getD, hk, hs, hd]
theorem step_kid_fact {sub : Int → List Fc → Option (List Fc × Nat)} {g : Pv} {l m m' : List Fc} {i lv d : Nat} {kid : Int} {f : Fc} (hk : g.kids[i]? = some kid) (h : loopW sub g l i = some (m, lv)) (hs : sub kid m = some (m', d)) (hd : i = 0 ∨ d = lv) (hf : g.facts[i]? = some f) :
    loopW sub g l (i + 1) = if nextOk m'.getLast? f = true then some (m' ++ [f], d) else none := by
  have h0 : g.kids.length ≠ 0 := fun e => by rw [List.length_eq_zero_iff.1 e] at hk; simp at hk
  rw [loopW_succ, h]; simp [stepW, subW, factW, h0, List.getD_eq_getElem?_getD, hk, hs, hd, hf]
theorem step_kid_end {sub : Int → List Fc → Option (List Fc × Nat)} {g : Pv} {l m m' : List Fc} {i lv d : Nat} {kid : Int} (hk : g.kids[i]? = some kid) (h : loopW sub g l i = some (m, lv)) (hs : sub kid m = some (m', d)) (hd : i = 0 ∨ d = lv) (hf : g.facts[i]? = none) :
    loopW sub g l (i + 1) = some (m', d) := by
  have h0 : g.kids.length ≠ 0 := fun e => by rw [List.length_eq_zero_iff.1 e] at hk; simp at hk
  rw [loopW_succ, h]; simp [stepW, subW, factW, h0, List.getD_eq_getElem?_getD, hk, hs, hd, hf]
theorem loopW_lv {sub : Int → List Fc → Option (List Fc × Nat)} {g : Pv} {l : List Fc} {p : Nat} (hs : ∀ kid m m' d, sub kid m = some (m', d) → d ≤ p) : ∀ (n : Nat) (m : List Fc) (lv : Nat), loopW sub g l n = some (m, lv) → lv ≤ p
  | 0, m, lv, h => by rw [loopW_zero] at h; cases h; omega
  | n + 1, m, lv, h => by
    rw [loopW_succ] at h
    cases hl : loopW sub g l n with
    | none => rw [hl] at h; cases h
    | some s =>
      obtain ⟨m0, lv0⟩ := s
      have ih := loopW_lv hs n m0 lv0 hl
      rw [hl] at h
      have hf : ∀ (s : List Fc × Nat) m lv, factW g n s = some (m, lv) → lv = s.2 := by
        intro s m lv h
        unfold factW at h
        split at h
        · cases h; rfl
        · split at h
          · cases h; rfl
          · cases h
      simp only [stepW, Option.bind_some] at h
      cases hsub : subW sub g n (m0, lv0) with
      | none => rw [hsub] at h; cases h
      | some t =>
        rw [hsub] at h
        have := hf _ _ _ h
        subst this
        unfold subW at hsub
        split at hsub
        · cases hsub; exact ih
        · cases hk : sub (g.kids.getD n 0) m0 with
          | none => simp only [hk] at hsub; cases hsub
          | some r =>
            simp only [hk, Option.bind_some] at hsub
            split at hsub
            · cases hsub; exact hs _ _ _ _ hk
            · cases hsub
theorem walkP_lv (ps : List Pv) : ∀ (k p : Nat) (root : Bool) (l m : List Fc) (d : Nat), p < k → walkP ps p root l = some (m, d) → d ≤ p + 1
  | 0, _, _, _, _, _, h, _ => by omega
  | k + 1, p, root, l, m, d, hk, h => by
    cases hg : ps[p]? with
    | none => rw [walkP_no hg] at h; cases h
    | some g =>
      rw [walkP_eq hg] at h
      split at h
      · cases hl : loopW (kidW ps p) g l (g.facts.length + 1) with
        | none => rw [hl] at h; cases h
        | some s =>
          rw [hl] at h
          simp only [Option.map_some, Option.some.injEq, Prod.mk.injEq] at h
          have := loopW_lv (p := p) (fun kid m m' d hd => by
            unfold kidW at hd
            split at hd
            · rename_i hk2
              have := walkP_lv ps k kid.toNat false m m' d (by omega) hd
              omega
            · cases hd) _ s.1 s.2 hl
          omega
      · cases h
end Go.Proofs.Ytpnfpdkoeednhaa

end
section
/- pages.good's walk below a page (printed by tools/gen131.py). -/
namespace Go.Proofs.Ytpnfpdkoeednhaa
open Go.RowKit

/-- The boxes of pages.good: the pages, the root, visit, next. -/
structure GoodB (s : Ps) (r P R V N L : Nat) (w : World) : Prop where
  p : w.heap[P]? = some (.cells #[.slice s.pA s.pn s.pc, .slice s.rA s.rn s.rc] 25 (0, 0))
  r : w.heap[R]? = some (.cells #[.int .i64 r] 3 (0, 0))
  v : w.heap[V]? = some (.cells #[.func (.func 71) #[] #[.pointer (some ⟨P, 0, none⟩), .pointer (some ⟨R, 0, none⟩), .pointer (some ⟨V, 0, none⟩), .pointer (some ⟨N, 0, none⟩)]] 110 (0, 0))
  n : w.heap[N]? = some (.cells #[.func (.func 70) #[] #[.pointer (some ⟨L, 0, none⟩)]] 109 (0, 0))
  ne : P ≠ L ∧ R ≠ L ∧ V ≠ L ∧ N ≠ L
theorem GoodB.kept {s : Ps} {r P R V N L : Nat} {w w' : World} (h : GoodB s r P R V N L w) (hk : Kept (fun b => b = L) w w') : GoodB s r P R V N L w' :=
  ⟨(hk.block _ (lt_of_heap h.p) h.ne.1).trans h.p, (hk.block _ (lt_of_heap h.r) h.ne.2.1).trans h.r, (hk.block _ (lt_of_heap h.v) h.ne.2.2.1).trans h.v, (hk.block _ (lt_of_heap h.n) h.ne.2.2.2).trans h.n, h.ne⟩
/-- What holds while visit looks at a page. -/
structure VisB (s : Ps) (r P R V N L : Nat) (g : Pq) (G : Nat) (last : Option Fc) (w w8 : World) : Prop where
  kept : Kept (fun b => b = L) w w8
  good : GoodB s r P R V N L w8
  page : w8.heap[G]? = some (.cells #[.slice g.fA g.fn g.fc, .slice g.kA g.kn g.kc] 66 (0, 0))
  last : LastAt w8 L last
  ne : G ≠ L
theorem VisB.turned {s : Ps} {r P R V N L : Nat} {g : Pq} {G : Nat} {last last' : Option Fc} {w w8 w9 : World} (h : VisB s r P R V N L g G last w w8) (hk : Kept (fun b => b = L) w8 w9) (hl : LastAt w9 L last') : VisB s r P R V N L g G last' w w9 :=
  ⟨h.kept.trans hk, h.good.kept hk, (hk.block _ (lt_of_heap h.page) h.ne).trans h.page, hl, h.ne⟩
theorem kept_below {L : Nat} {w8 w9 : World} (hb : Below w8.heap.size w8 w9) : Kept (fun b => b = L) w8 w9 := (Kept.refl (fun b => b = L) w8).below hb fun b h1 h2 => by omega
theorem VisB.later {s : Ps} {r P R V N L : Nat} {g : Pq} {G : Nat} {last : Option Fc} {w w8 w9 : World} (h : VisB s r P R V N L g G last w w8) (hb : Below w8.heap.size w8 w9) : VisB s r P R V N L g G last w w9 :=
  h.turned (kept_below hb) (h.last.keep hb)
theorem VisB.cells {s : Ps} {r P R V N L : Nat} {g : Pq} {G : Nat} {last : Option Fc} {w w8 : World} (h : VisB s r P R V N L g G last w w8) :
    w8.cell? ⟨G, 0, none⟩ = some (.slice g.fA g.fn g.fc) ∧ w8.cell? ⟨G, 1, none⟩ = some (.slice g.kA g.kn g.kc) ∧ w8.cell? ⟨R, 0, none⟩ = some (.int .i64 r) ∧
    w8.cell? ⟨V, 0, none⟩ = some (.func (.func 71) #[] #[.pointer (some ⟨P, 0, none⟩), .pointer (some ⟨R, 0, none⟩), .pointer (some ⟨V, 0, none⟩), .pointer (some ⟨N, 0, none⟩)]) ∧
    w8.cell? ⟨N, 0, none⟩ = some (.func (.func 70) #[] #[.pointer (some ⟨L, 0, none⟩)]) ∧ G < w8.heap.size ∧ R < w8.heap.size ∧ V < w8.heap.size ∧ N < w8.heap.size :=
  ⟨by rw [cell_of_heap h.page]; rfl, by rw [cell_of_heap h.page]; rfl, by rw [cell_of_heap h.good.r]; rfl, by rw [cell_of_heap h.good.v]; rfl, by rw [cell_of_heap h.good.n]; rfl, lt_of_heap h.page, lt_of_heap h.good.r, lt_of_heap h.good.v, lt_of_heap h.good.n⟩
/-- What visit does. -/
def VisitPost (L : Nat) (o : Option (List Fc × Nat)) (w : World) (e : Ending) (w' : World) : Prop :=
  Kept (fun b => b = L) w w' ∧ (o = none → e = .panicked [failV 470]) ∧ ∀ m d, o = some (m, d) → e = .returned (.int .i64 (d : Nat)) ∧ LastAt w' L m.getLast?
theorem visit_no {L : Nat} {o : Option (List Fc × Nat)} {w w' : World} (ho : o = none) (hk : Kept (fun b => b = L) w w') : VisitPost L o w (.panicked [failV 470]) w' :=
  ⟨hk, fun _ => rfl, fun m d h => by rw [ho] at h; cases h⟩
theorem visit_yes {L : Nat} {o : Option (List Fc × Nat)} {w w' : World} {m : List Fc} {d : Nat} (ho : o = some (m, d)) (hk : Kept (fun b => b = L) w w') (hl : LastAt w' L m.getLast?) : VisitPost L o w (.returned (.int .i64 (d : Nat))) w' :=
  ⟨hk, fun h => by (rw [ho] at h; cases h), fun m' d' h => by rw [ho] at h; cases h; exact ⟨rfl, hl⟩⟩
set_option maxRecDepth 100000 in
set_option maxHeartbeats 8000000 in
theorem good2_any (s : Ps) (r P R V N L n₀ : Nat) (hnL : n₀ ≤ L) (hr : r < 9223372036854775807) (hsm : ∀ g ∈ s.gs, g.fn ≤ 1000000 ∧ g.kn ≤ 1000000) : ∀ (k q : Nat), q < k → q ≤ r → ∀ (g : Pq), s.gs[q]? = some g → ∀ (l : List Fc) (w : World), GoodB s r P R V N L w → PsIn s w n₀ → n₀ ≤ w.heap.size → LastAt w L l.getLast? →
    Calls Try.prog 71 #[.int .i64 q, .pointer (some ⟨P, 0, none⟩), .pointer (some ⟨R, 0, none⟩), .pointer (some ⟨V, 0, none⟩), .pointer (some ⟨N, 0, none⟩)] w (VisitPost L (walkP (psV s) q (decide (q = r)) l) w) := by
  intro k
  induction k with
  | zero => intro q hq; omega
  | succ k ih =>
  intro q hqk hqr g hg l w hbox hps hnw hlast
  have HIH := hidp ih
  have HGg := hidp hg
  have HBx := hidp hbox
  have HPs := hidp hps
  have HL0 := hidp hlast
  have HNw := hidp hnw
  have HWk : Hid (walkP (psV s) q (decide (q = r)) l = if pgOk (decide (q = r)) (pgV g) = true then (loopW (kidW (psV s) q) (pgV g) l (g.facts.length + 1)).map fun t => (t.1, t.2 + 1) else none) := walkP_eq (psV_get hg) _ l
  have HPg := hidp (hps.each g (List.mem_of_getElem? hg))
  have hqn : q < s.pn := by rw [hps.pages.1]; exact (List.getElem?_eq_some_iff.1 hg).1
  have HQn := hidp hqn
  obtain ⟨bp, op, g', hpA, _, hg', c0, c1⟩ := pgSl.get hps.pages hqn
  obtain rfl : g = g' := Option.some.inj (hg.symm.trans hg')
  have hixp := fun W => ix_Pages (c := s.pc) hpA hqn W
  have hqn' : (q : Int) < s.pn := by omega
  have lc := lt_of_cell c0
  have p0 := cell_of_heap (o := 0) hbox.p
  have lp := lt_of_heap hbox.p
  simp only [List.getElem?_toArray, List.getElem?_cons_zero] at p0
  have HFn := hidp HPg.out.1.1
  have HKn := hidp HPg.out.2.1
  obtain ⟨hfs, hks⟩ := hsm g (List.mem_of_getElem? hg)
  have HSm := hidp hsm
  have hfc := HPg.out.1.2.1
  have hfcc := HPg.out.1.2.2.1
  have hkc := HPg.out.2.2.1
  have hkcc := HPg.out.2.2.2.1
  clear ih hbox hps hnw hlast hg hg' hpA hsm
  obtain ⟨W0, hW0⟩ : ∃ W0, w.alloc (.cells #[.slice g.fA g.fn g.fc, .slice g.kA g.kn g.kc] 66) = W0 := ⟨_, rfl⟩
  have HV0 : Hid (VisB s r P R V N L g w.heap.size l.getLast? w W0) := by
    have hb : Below w.heap.size w W0 := hW0 ▸ (Below.refl _ w).alloc (Nat.le_refl _) _
    exact ⟨kept_below hb, HBx.out.kept (kept_below hb), hW0 ▸ World.alloc_heap_new _ _, HL0.out.keep hb, fun e => by have := HL0.out.lt; omega⟩
  have HW0 := hidp hW0
  have HWP : Hid (∀ W, Kept (fun b => b = L) w W → PsIn s W n₀) := fun W hk => HPs.out.keep (Nat.le_refl _) fun b hb => hk.block b (by have := HNw.out; omega) (by show ¬ b = L; omega)
  go_enter Try.func71, Try.ntmps71
  go_wp2_with fail
  try rw [HW0.out]
  clear p0 lp c0 c1 lc hW0 hixp
  obtain ⟨g0, g1, r0, v0, n0, lg, lr, lv, ln⟩ := HV0.out.cells
  obtain ⟨lf, hlf⟩ : ∃ b, ((g.kn : Int) == 0) = b := ⟨_, rfl⟩
  have HLf := hidp hlf
  refine wp_region_S W0.heap.size 9 (fun _ => false) (Nat.le_refl _) (by kernel_rfl) (by kernel_rfl) (by kernel_rfl) ?_
  dsimp only [List.take, List.drop]
  apply relS_det (mask := [])
  · rfl
  · kernel_rfl
  · kernel_rfl
  · dsimp only [oblS]
    rintro w9 h9
    go_simp
    exact ⟨Below.refl _ _, rfl⟩
  dsimp only [List.nil_append, List.cons_append]
  apply relS_det (mask := [true]) (x := .slice g.fA g.fn g.fc)
  · rfl
  · kernel_rfl
  · kernel_rfl
  · dsimp only [oblS]
    rintro w9 h9
    have hc9 := (bcell h9).1
    go_simp
    exact ⟨Below.refl _ _, rfl⟩
  dsimp only [List.nil_append, List.cons_append]
  apply relS_det (mask := [false, true]) (x := .int .i64 g.fn)
  · rfl
  · kernel_rfl
  · kernel_rfl
  · dsimp only [oblS]
    rintro w9 h9
    go_simp
    exact ⟨Below.refl _ _, rfl⟩
  dsimp only [List.nil_append, List.cons_append]
  apply relS_det (mask := [false, false, false])
  · rfl
  · kernel_rfl
  · kernel_rfl
  · dsimp only [oblS]
    rintro w9 h9
    go_simp
    exact ⟨Below.refl _ _, rfl⟩
  dsimp only [List.nil_append, List.cons_append]
  apply relS_det (mask := [false, false, false, true]) (x := .slice g.kA g.kn g.kc)
  · rfl
  · kernel_rfl
  · kernel_rfl
  · dsimp only [oblS]
    rintro w9 h9
    have hc9 := (bcell h9).1
    go_simp
    exact ⟨Below.refl _ _, rfl⟩
  dsimp only [List.nil_append, List.cons_append]
  apply relS_det (mask := [false, false, false, false, true]) (x := .int .i64 g.kn)
  · rfl
  · kernel_rfl
  · kernel_rfl
  · dsimp only [oblS]
    rintro w9 h9
    go_simp
    exact ⟨Below.refl _ _, rfl⟩
  dsimp only [List.nil_append, List.cons_append]
  apply relS_det (mask := [false, false, false, false, false, true]) (x := .bool lf)
  · rfl
  · kernel_rfl
  · kernel_rfl
  · dsimp only [oblS]
    rintro w9 h9
    go_simp
    exact ⟨Below.refl _ _, rfl⟩
  dsimp only [List.nil_append, List.cons_append]
  apply relS_det (mask := [false, false, true, false, false, false, false]) (x := .int .i64 g.fn)
  · rfl
  · kernel_rfl
  · kernel_rfl
  · dsimp only [oblS]
    rintro w9 h9
    go_simp
    exact ⟨Below.refl _ _, rfl⟩
  dsimp only [List.nil_append, List.cons_append]
  apply relS_det (mask := [false, false, false, false, false, false, true, false]) (x := .bool lf)
  · rfl
  · kernel_rfl
  · kernel_rfl
  · dsimp only [oblS]
    rintro w9 h9
    go_simp
    exact ⟨Below.refl _ _, rfl⟩
  dsimp only [List.nil_append, List.cons_append]
  refine relS_end (by rfl) ?_
  dsimp only [finS]
  rintro w2 hb2
  have HV2 := hidp (HV0.out.later hb2)
  clear g0 g1 r0 v0 n0 lg lr lv ln hb2
  obtain ⟨g0, g1, r0, v0, n0, lg, lr, lv, ln⟩ := HV2.out.cells
  obtain ⟨b1, hb1⟩ : ∃ b, decide ((g.fn : Int) ≤ 4) = b := ⟨_, rfl⟩
  obtain ⟨b2, hb2⟩ : ∃ b, ((q : Int) == (r : Int)) = b := ⟨_, rfl⟩
  obtain ⟨b3, hb3⟩ : ∃ b, decide ((g.fn : Int) ≥ 2) = b := ⟨_, rfl⟩
  obtain ⟨b4, hb4⟩ : ∃ b, ((g.kn : Int) == (g.fn : Int) + 1) = b := ⟨_, rfl⟩
  obtain ⟨b5, hb5⟩ : ∃ b, decide ((g.fn : Int) ≥ 1) = b := ⟨_, rfl⟩
  obtain ⟨c1, hc1⟩ : ∃ b, (b1 && (b2 || b3)) = b := ⟨_, rfl⟩
  obtain ⟨pk, hpk⟩ : ∃ b, (c1 && (lf || (b4 && b5))) = b := ⟨_, rfl⟩
  have HC1 := hidp hc1
  have HPk := hidp hpk
  have hw1 : IntKind.i64.wrap ((g.fn : Int) + 1) = (g.fn : Int) + 1 := IntWalk.i64_in _ (by omega)
  have HOk : Hid (pgOk (decide (q = r)) (pgV g) = pk) := by
    show _ = _
    rw [← hpk, ← hc1, ← hb1, ← hb2, ← hb3, ← hb4, ← hb5, ← hlf]
    have h1 := HFn.out
    have h2 := HKn.out
    unfold pgOk pgV
    dsimp only
    rw [← h1, ← h2, Bool.eq_iff_iff]
    simp only [Bool.and_eq_true, Bool.or_eq_true, decide_eq_true_eq, beq_iff_eq]
    omega
  clear hc1 hpk
  go_simp
  go_step
  go_step
  go_step
  go_step
  refine wp_region_SF w2.heap.size 26 (fun _ => false) (Nat.le_refl _) (by kernel_rfl) (by kernel_rfl) (by kernel_rfl) ?_
  dsimp only [List.take, List.drop]
  apply relS_det (mask := []) (x := .int .i64 g.fn)
  · rfl
  · kernel_rfl
  · kernel_rfl
  · dsimp only [oblS]
    rintro w9 h9
    go_simp
    exact ⟨Below.refl _ _, rfl⟩
  dsimp only [List.nil_append, List.cons_append]
  apply relS_det (mask := [true]) (x := .bool b1)
  · rfl
  · kernel_rfl
  · kernel_rfl
  · dsimp only [oblS]
    rintro w9 h9
    go_simp
    exact ⟨Below.refl _ _, rfl⟩
  dsimp only [List.nil_append, List.cons_append]
  apply relS_det (mask := [false, true]) (x := .bool b1)
  · rfl
  · kernel_rfl
  · kernel_rfl
  · dsimp only [oblS]
    rintro w9 h9
    go_simp
    exact ⟨Below.refl _ _, rfl⟩
  dsimp only [List.nil_append, List.cons_append]
  apply relS_if (mask := [false, false, true]) (t := 26) (want := true) (g := b1)
  · rfl
  · kernel_rfl
  · kernel_rfl
  · dsimp only [oblS]
    refine ⟨⟨.bool b1, by rfl, (guard_free (by simp)).1, (guard_free (by simp)).2⟩, ?_⟩
    intro hg
    rintro w9 h9
    go_simp
    exact ⟨Below.refl _ _, rfl⟩
  dsimp only [List.nil_append, List.cons_append]
  apply relS_if (mask := [false, false, true, false]) (t := 26) (want := true) (g := b1) (x := .int .i64 r)
  · rfl
  · kernel_rfl
  · kernel_rfl
  · dsimp only [oblS]
    refine ⟨⟨.bool b1, by rfl, (guard_free (by simp)).1, (guard_free (by simp)).2⟩, ?_⟩
    intro hg
    rintro w9 h9
    have hc9 := (bcell h9).1
    go_simp
    exact ⟨Below.refl _ _, rfl⟩
  dsimp only [List.nil_append, List.cons_append]
  apply relS_if (mask := [false, false, true, true, true]) (t := 26) (want := true) (g := b1) (x := .bool b2)
  · rfl
  · kernel_rfl
  · kernel_rfl
  · dsimp only [oblS]
    refine ⟨⟨.bool b1, by rfl, (guard_free (by simp)).1, (guard_free (by simp)).2⟩, ?_⟩
    intro hg
    rintro w9 h9
    go_simp
    exact ⟨Below.refl _ _, rfl⟩
  dsimp only [List.nil_append, List.cons_append]
  apply relS_if (mask := [false, false, true, false, false, true]) (t := 26) (want := true) (g := b1) (x := .bool b2)
  · rfl
  · kernel_rfl
  · kernel_rfl
  · dsimp only [oblS]
    refine ⟨⟨.bool b1, by rfl, (guard_free (by simp)).1, (guard_free (by simp)).2⟩, ?_⟩
    intro hg
    rintro w9 h9
    go_simp
    exact ⟨Below.refl _ _, rfl⟩
  dsimp only [List.nil_append, List.cons_append]
  apply relS_if (mask := [false, false, false, false, false, false, true]) (t := 30) (want := false) (g := (b1 && !b2)) (x := .int .i64 g.fn)
  · rfl
  · kernel_rfl
  · kernel_rfl
  · dsimp only [oblS]
    refine ⟨⟨if b1 = true then .bool b2 else undef, by rfl, (guard_in (by simp)).1, (guard_in (by simp)).2⟩, ?_⟩
    intro hg
    rintro w9 h9
    go_simp
    exact ⟨Below.refl _ _, rfl⟩
  dsimp only [List.nil_append, List.cons_append]
  apply relS_if (mask := [false, false, false, false, false, false, true, true]) (t := 30) (want := false) (g := (b1 && !b2)) (x := .bool b3)
  · rfl
  · kernel_rfl
  · kernel_rfl
  · dsimp only [oblS]
    refine ⟨⟨if b1 = true then .bool b2 else undef, by rfl, (guard_in (by simp)).1, (guard_in (by simp)).2⟩, ?_⟩
    intro hg
    rintro w9 h9
    go_simp
    exact ⟨Below.refl _ _, rfl⟩
  dsimp only [List.nil_append, List.cons_append]
  apply relS_if (mask := [false, false, true, false, false, false, true, false, true]) (t := 26) (want := true) (g := b1) (x := .bool (b2 || b3))
  · rfl
  · kernel_rfl
  · kernel_rfl
  · dsimp only [oblS]
    refine ⟨⟨.bool b1, by rfl, (guard_free (by simp)).1, (guard_free (by simp)).2⟩, ?_⟩
    intro hg
    rintro w9 h9
    cases b1 <;> cases b2
    all_goals (first | exact absurd hg Bool.false_ne_true | (go_simp; exact ⟨Below.refl _ _, by simp [IsV]⟩))
  dsimp only [List.nil_append, List.cons_append]
  apply relS_det (mask := [false, false, true, false, false, false, false, false, false, true]) (x := .bool c1)
  · rfl
  · kernel_rfl
  · kernel_rfl
  · dsimp only [oblS]
    rintro w9 h9
    rw [← HC1.out]
    cases b1 <;> cases b2 <;> cases b3
    all_goals (first | exact absurd hg Bool.false_ne_true | (go_simp; exact ⟨Below.refl _ _, by simp [IsV]⟩))
  dsimp only [List.nil_append, List.cons_append]
  apply relS_det (mask := [false, false, false, false, false, false, false, false, false, false, true]) (x := .bool c1)
  · rfl
  · kernel_rfl
  · kernel_rfl
  · dsimp only [oblS]
    rintro w9 h9
    go_simp
    exact ⟨Below.refl _ _, rfl⟩
  dsimp only [List.nil_append, List.cons_append]
  apply relS_if (mask := [false, false, false, false, false, false, false, false, false, false, false, true]) (t := 35) (want := true) (g := c1) (x := .bool lf)
  · rfl
  · kernel_rfl
  · kernel_rfl
  · dsimp only [oblS]
    refine ⟨⟨.bool c1, by rfl, (guard_free (by simp)).1, (guard_free (by simp)).2⟩, ?_⟩
    intro hg
    rintro w9 h9
    go_simp
    exact ⟨Below.refl _ _, rfl⟩
  dsimp only [List.nil_append, List.cons_append]
  apply relS_if (mask := [false, false, false, false, false, false, false, false, false, false, false, true, true]) (t := 35) (want := true) (g := c1) (x := .bool lf)
  · rfl
  · kernel_rfl
  · kernel_rfl
  · dsimp only [oblS]
    refine ⟨⟨.bool c1, by rfl, (guard_free (by simp)).1, (guard_free (by simp)).2⟩, ?_⟩
    intro hg
    rintro w9 h9
    go_simp
    exact ⟨Below.refl _ _, rfl⟩
  dsimp only [List.nil_append, List.cons_append]
  apply relS_if (mask := [false, false, false, false, false, false, false, false, false, false, false, false, false, true]) (t := 37) (want := false) (g := (c1 && !lf))
  · rfl
  · kernel_rfl
  · kernel_rfl
  · dsimp only [oblS]
    refine ⟨⟨if c1 = true then .bool lf else undef, by rfl, (guard_in (by simp)).1, (guard_in (by simp)).2⟩, ?_⟩
    intro hg
    rintro w9 h9
    go_simp
    exact ⟨Below.refl _ _, rfl⟩
  dsimp only [List.nil_append, List.cons_append]
  apply relS_if (mask := [false, false, false, false, false, false, false, false, false, false, false, false, false, true, true]) (t := 37) (want := false) (g := (c1 && !lf)) (x := .slice g.kA g.kn g.kc)
  · rfl
  · kernel_rfl
  · kernel_rfl
  · dsimp only [oblS]
    refine ⟨⟨if c1 = true then .bool lf else undef, by rfl, (guard_in (by simp)).1, (guard_in (by simp)).2⟩, ?_⟩
    intro hg
    rintro w9 h9
    have hc9 := (bcell h9).1
    go_simp
    exact ⟨Below.refl _ _, rfl⟩
  dsimp only [List.nil_append, List.cons_append]
  apply relS_if (mask := [false, false, false, false, false, false, false, false, false, false, false, false, false, true, false, true]) (t := 37) (want := false) (g := (c1 && !lf)) (x := .int .i64 g.kn)
  · rfl
  · kernel_rfl
  · kernel_rfl
  · dsimp only [oblS]
    refine ⟨⟨if c1 = true then .bool lf else undef, by rfl, (guard_in (by simp)).1, (guard_in (by simp)).2⟩, ?_⟩
    intro hg
    rintro w9 h9
    go_simp
    exact ⟨Below.refl _ _, rfl⟩
  dsimp only [List.nil_append, List.cons_append]
  apply relS_if (mask := [false, false, false, false, false, false, false, false, false, false, false, false, false, true, false, false, false]) (t := 37) (want := false) (g := (c1 && !lf)) (x := .int .i64 g.fn)
  · rfl
  · kernel_rfl
  · kernel_rfl
  · dsimp only [oblS]
    refine ⟨⟨if c1 = true then .bool lf else undef, by rfl, (guard_in (by simp)).1, (guard_in (by simp)).2⟩, ?_⟩
    intro hg
    rintro w9 h9
    go_simp
    exact ⟨Below.refl _ _, rfl⟩
  dsimp only [List.nil_append, List.cons_append]
  apply relS_if (mask := [false, false, false, false, false, false, false, false, false, false, false, false, false, true, false, false, false, true]) (t := 37) (want := false) (g := (c1 && !lf)) (x := .int .i64 ((g.fn : Int) + 1))
  · rfl
  · kernel_rfl
  · kernel_rfl
  · dsimp only [oblS]
    refine ⟨⟨if c1 = true then .bool lf else undef, by rfl, (guard_in (by simp)).1, (guard_in (by simp)).2⟩, ?_⟩
    intro hg
    rintro w9 h9
    go_simp
    exact ⟨Below.refl _ _, rfl⟩
  dsimp only [List.nil_append, List.cons_append]
  apply relS_if (mask := [false, false, false, false, false, false, false, false, false, false, false, false, false, true, false, false, true, false, true]) (t := 37) (want := false) (g := (c1 && !lf)) (x := .bool b4)
  · rfl
  · kernel_rfl
  · kernel_rfl
  · dsimp only [oblS]
    refine ⟨⟨if c1 = true then .bool lf else undef, by rfl, (guard_in (by simp)).1, (guard_in (by simp)).2⟩, ?_⟩
    intro hg
    rintro w9 h9
    go_simp
    exact ⟨Below.refl _ _, rfl⟩
  dsimp only [List.nil_append, List.cons_append]
  apply relS_if (mask := [false, false, false, false, false, false, false, false, false, false, false, false, false, true, false, false, false, false, false, true]) (t := 37) (want := false) (g := (c1 && !lf)) (x := .bool b4)
  · rfl
  · kernel_rfl
  · kernel_rfl
  · dsimp only [oblS]
    refine ⟨⟨if c1 = true then .bool lf else undef, by rfl, (guard_in (by simp)).1, (guard_in (by simp)).2⟩, ?_⟩
    intro hg
    rintro w9 h9
    go_simp
    exact ⟨Below.refl _ _, rfl⟩
  dsimp only [List.nil_append, List.cons_append]
  apply relS_if (mask := [false, false, false, false, false, false, false, false, false, false, false, false, false, false, false, false, false, false, false, false, true]) (t := 44) (want := true) (g := (c1 && !lf && b4)) (x := .int .i64 g.fn)
  · rfl
  · kernel_rfl
  · kernel_rfl
  · dsimp only [oblS]
    refine ⟨⟨if (c1 && !lf) = true then .bool b4 else undef, by rfl, (guard_in (by simp)).1, (guard_in (by simp)).2⟩, ?_⟩
    intro hg
    rintro w9 h9
    go_simp
    exact ⟨Below.refl _ _, rfl⟩
  dsimp only [List.nil_append, List.cons_append]
  apply relS_if (mask := [false, false, false, false, false, false, false, false, false, false, false, false, false, false, false, false, false, false, false, false, true, true]) (t := 44) (want := true) (g := (c1 && !lf && b4)) (x := .bool b5)
  · rfl
  · kernel_rfl
  · kernel_rfl
  · dsimp only [oblS]
    refine ⟨⟨if (c1 && !lf) = true then .bool b4 else undef, by rfl, (guard_in (by simp)).1, (guard_in (by simp)).2⟩, ?_⟩
    intro hg
    rintro w9 h9
    go_simp
    exact ⟨Below.refl _ _, rfl⟩
  dsimp only [List.nil_append, List.cons_append]
  apply relS_if (mask := [false, false, false, false, false, false, false, false, false, false, false, false, false, true, false, false, false, false, false, false, true, false, true]) (t := 37) (want := false) (g := (c1 && !lf)) (x := .bool (b4 && b5))
  · rfl
  · kernel_rfl
  · kernel_rfl
  · dsimp only [oblS]
    refine ⟨⟨if c1 = true then .bool lf else undef, by rfl, (guard_in (by simp)).1, (guard_in (by simp)).2⟩, ?_⟩
    intro hg
    rintro w9 h9
    cases c1 <;> cases lf <;> cases b4
    all_goals (first | exact absurd hg Bool.false_ne_true | (go_simp; exact ⟨Below.refl _ _, by simp [IsV]⟩))
  dsimp only [List.nil_append, List.cons_append]
  apply relS_if (mask := [false, false, false, false, false, false, false, false, false, false, false, true, false, true, false, false, false, false, false, false, false, false, false, true]) (t := 35) (want := true) (g := c1) (x := .bool (lf || (b4 && b5)))
  · rfl
  · kernel_rfl
  · kernel_rfl
  · dsimp only [oblS]
    refine ⟨⟨.bool c1, by rfl, (guard_free (by simp)).1, (guard_free (by simp)).2⟩, ?_⟩
    intro hg
    rintro w9 h9
    cases c1 <;> cases lf
    all_goals (first | exact absurd hg Bool.false_ne_true | (go_simp; exact ⟨Below.refl _ _, by simp [IsV]⟩))
  dsimp only [List.nil_append, List.cons_append]
  apply relS_det (mask := [false, false, false, false, false, false, false, false, false, false, false, true, false, false, false, false, false, false, false, false, false, false, false, false, true]) (x := .bool pk)
  · rfl
  · kernel_rfl
  · kernel_rfl
  · dsimp only [oblS]
    rintro w9 h9
    rw [← HPk.out]
    cases c1 <;> cases lf <;> cases b4 <;> cases b5
    all_goals (first | exact absurd hg Bool.false_ne_true | (go_simp; exact ⟨Below.refl _ _, by simp [IsV]⟩))
  dsimp only [List.nil_append, List.cons_append]
  refine relS_endK [false, false, false, false, false, false, false, false, false, false, false, false, false, false, false, false, false, false, false, false, false, false, false, false, false, true] (by rfl) (by rfl) ?_
  dsimp only [finK]
  intro q0 q1 q2 q3 q4 q5 q6 q7 q8 q9 q10 q11 q12 q13 q14 q15 q16 q17 q18 q19 q20 q21 q22 q23 q24
  rintro w3 hb3'
  have HV3 := hidp (HV2.out.later hb3')
  clear g0 g1 r0 v0 n0 lg lr lv ln hb3' hb1 hb2 hb3 hb4 hb5 hw1
  obtain ⟨g0, g1, r0, v0, n0, lg, lr, lv, ln⟩ := HV3.out.cells
  go_simp
  go_wp2_with fail
  refine (demand_any pk 470 _).mono ?_
  rintro e w4 ⟨rfl, rfl⟩
  cases pk
  · have HN : Hid (walkP (psV s) q (decide (q = r)) l = none) := by show _ = _; rw [HWk.out, HOk.out]; rfl
    exact ⟨rfl, visit_no HN.out HV3.out.kept⟩
  simp only [demandE, if_true]
  have HW1 : Hid (walkP (psV s) q (decide (q = r)) l = (loopW (kidW (psV s) q) (pgV g) l (g.facts.length + 1)).map fun t => (t.1, t.2 + 1)) := by show _ = _; rw [HWk.out, HOk.out]; rfl
  have HNone : Hid (∀ j, j ≤ g.fn → loopW (kidW (psV s) q) (pgV g) l (j + 1) = none → walkP (psV s) q (decide (q = r)) l = none) := fun j hj h => by
    rw [HW1.out, loopW_none h (g.facts.length + 1) (by have := HFn.out; omega)]; rfl
  have hfn4 : g.fn ≤ 4 := by
    have h := HOk.out
    unfold pgOk pgV at h
    simp only [Bool.and_eq_true, decide_eq_true_eq] at h
    have := HFn.out
    omega
  have hw1 : IntKind.i64.wrap ((g.fn : Int) + 1) = (g.fn : Int) + 1 := IntWalk.i64_in _ (by omega)
  have HKl : Hid (lf = false → g.kn = g.fn + 1) := fun hf => by
    have h := HOk.out
    unfold pgOk pgV at h
    simp only [Bool.and_eq_true, Bool.or_eq_true, decide_eq_true_eq] at h
    have h1 := HFn.out
    have h2 := HKn.out
    have h3 := HLf.out
    rw [hf] at h3
    simp at h3
    omega
  have HKz : Hid (lf = true → g.kids.length = 0) := fun hf => by
    have h2 := HKn.out
    have h3 := HLf.out
    rw [hf] at h3
    simp at h3
    omega
  clear hlf g0 g1 r0 v0 n0 lg lr lv ln HC1 HPk
  cases lf
  · skip
    go_wp2_with fail
    go_loopw [6, 53] (fun lvv i wr => ∃ (j : Nat) (m : List Fc) (lv : Nat), j ≤ g.fn + 1 ∧ i = .int .i64 j ∧ lvv = .int .i64 (lv : Nat) ∧ loopW (kidW (psV s) q) (pgV g) l j = some (m, lv) ∧ VisB s r P R V N L g w.heap.size m.getLast? w wr) (fun _ i _ => g.fn + 1 - (intOf i).toNat)
    case atStart => exact ⟨0, l, 0, by omega, rfl, rfl, loopW_zero _ _ _, HV3.out⟩
    case round =>
    obtain ⟨j, m, lev, hj, rfl, rfl, hlp, hvb⟩ := hrel
    have HLp := hidp hlp
    have HVr := hidp hvb
    obtain ⟨g0, g1, r0, v0, n0, lg, lr, lv, ln⟩ := hvb.cells
    clear hlp hvb
    by_cases hjn : j < g.fn + 1
    · have hjn' : (j : Int) < (g.fn : Int) + 1 := by omega
      have hjk : j < g.kn := by have := HKl.out (by simp); omega
      obtain ⟨bk, ok, kid, hkA, _, hkid, k0⟩ := iSl.get ((HWP.out wr HVr.out.kept).each g (List.mem_of_getElem? HGg.out)).2 hjk
      have hixk := fun W => ix_intsP (c := g.kc) hkA hjk W
      have lk0 := lt_of_cell k0
      have HKid : Hid ((pgV g).kids[j]? = some kid) := hkid
      obtain ⟨z0, hz0⟩ : ∃ b, decide (0 ≤ kid) = b := ⟨_, rfl⟩
      obtain ⟨z1, hz1⟩ : ∃ b, decide (kid < q) = b := ⟨_, rfl⟩
      have HZ0 := hidp hz0
      have HZ1 := hidp hz1
      clear hkid hkA
      cases z0
      · go_wp2_with fail
        refine (demand_any false 470 _).mono ?_
        rintro e w4 ⟨rfl, rfl⟩
        exact ⟨rfl, visit_no (HNone.out j (by omega) (step_kid_no HKid.out HLp.out (by unfold kidW; rw [if_neg (fun h => by have := of_decide_eq_false HZ0.out; omega)]))) HVr.out.kept⟩
      cases z1
      · go_wp2_with fail
        refine (demand_any false 470 _).mono ?_
        rintro e w4 ⟨rfl, rfl⟩
        exact ⟨rfl, visit_no (HNone.out j (by omega) (step_kid_no HKid.out HLp.out (by unfold kidW; rw [if_neg (fun h => by have := of_decide_eq_false HZ1.out; omega)]))) HVr.out.kept⟩
      have hkq : 0 ≤ kid ∧ kid < q := ⟨of_decide_eq_true HZ0.out, of_decide_eq_true HZ1.out⟩
      obtain ⟨kn, rfl⟩ : ∃ n : Nat, kid = n := ⟨kid.toNat, by omega⟩
      have hkq' : kn < q := by omega
      have HSubE : Hid (kidW (psV s) q kn m = walkP (psV s) kn (decide (kn = r)) m) := by
        show _ = _
        unfold kidW
        rw [if_pos (by omega), decide_eq_false (p := kn = r) (by omega)]; rfl
      go_wp2_with fail
      refine (demand_any true 470 _).mono ?_
      rintro e w4 ⟨rfl, rfl⟩
      simp only [demandE, if_true]
      clear hz0 hz1 hkq
      go_wp2_with fail
      refine wp_region_S wr.heap.size 6 (fun _ => false) (Nat.le_refl _) (by kernel_rfl) (by kernel_rfl) (by kernel_rfl) ?_
      dsimp only [List.take, List.drop]
      apply relS_det (mask := []) (x := .func (.func 71) #[] #[.pointer (some ⟨P, 0, none⟩), .pointer (some ⟨R, 0, none⟩), .pointer (some ⟨V, 0, none⟩), .pointer (some ⟨N, 0, none⟩)])
      · rfl
      · kernel_rfl
      · kernel_rfl
      · dsimp only [oblS]
        rintro w9 h9
        have hc9 := (bcell h9).1
        go_simp
        exact ⟨Below.refl _ _, rfl⟩
      dsimp only [List.nil_append, List.cons_append]
      apply relS_det (mask := [false])
      · rfl
      · kernel_rfl
      · kernel_rfl
      · dsimp only [oblS]
        rintro w9 h9
        go_simp
        exact ⟨Below.refl _ _, rfl⟩
      dsimp only [List.nil_append, List.cons_append]
      apply relS_det (mask := [false, true]) (x := .slice g.kA g.kn g.kc)
      · rfl
      · kernel_rfl
      · kernel_rfl
      · dsimp only [oblS]
        rintro w9 h9
        have hc9 := (bcell h9).1
        go_simp
        exact ⟨Below.refl _ _, rfl⟩
      dsimp only [List.nil_append, List.cons_append]
      apply relS_det (mask := [false, false, false])
      · rfl
      · kernel_rfl
      · kernel_rfl
      · dsimp only [oblS]
        rintro w9 h9
        go_simp
        exact ⟨Below.refl _ _, rfl⟩
      dsimp only [List.nil_append, List.cons_append]
      apply relS_det (mask := [false, false, true, true]) (x := .pointer (some ⟨bk, ok + j, none⟩))
      · rfl
      · kernel_rfl
      · kernel_rfl
      · dsimp only [oblS]
        rintro w9 h9
        go_simp
        exact ⟨Below.refl _ _, rfl⟩
      dsimp only [List.nil_append, List.cons_append]
      apply relS_det (mask := [false, false, false, false, true]) (x := .int .i64 (kn : Nat))
      · rfl
      · kernel_rfl
      · kernel_rfl
      · dsimp only [oblS]
        rintro w9 h9
        have hc9 := (bcell h9).1
        go_simp
        exact ⟨Below.refl _ _, rfl⟩
      dsimp only [List.nil_append, List.cons_append]
      refine relS_end (by rfl) ?_
      dsimp only [finS]
      rintro w5 hb5
      have HV5 := hidp (HVr.out.later hb5)
      obtain ⟨gk, hgk⟩ : ∃ gk, s.gs[kn]? = some gk := ⟨_, List.getElem?_eq_getElem (by have := HPs.out.pages.1; have := HQn.out; omega)⟩
      have HGk := hidp hgk
      clear g0 g1 r0 v0 n0 lg lr lv ln k0 lk0 hixk hb5 hgk
      go_simp
      go_wp2_with fail
      refine (HIH.out kn (by omega) (by omega) gk HGk.out m w5 HV5.out.good (HWP.out _ HV5.out.kept) (by have := HNw.out; have := HV5.out.kept.size; omega) HV5.out.last).mono ?_
      rintro e w6 ⟨hk6, hno, hyes⟩
      have HK6 := hidp hk6
      rcases hsub : walkP (psV s) kn (decide (kn = r)) m with _ | ⟨m', d⟩
      · obtain rfl := hno hsub
        exact ⟨rfl, visit_no (HNone.out j (by omega) (step_kid_no HKid.out HLp.out (HSubE.out.trans hsub))) (HV5.out.kept.trans HK6.out)⟩
      obtain ⟨rfl, hl6⟩ := hyes m' d hsub
      have HSub : Hid (kidW (psV s) q kn m = some (m', d)) := HSubE.out.trans hsub
      have HV6 := hidp (HV5.out.turned HK6.out hl6)
      have hdq : d ≤ q := by have := walkP_lv (psV s) (kn + 1) kn _ m m' d (by omega) hsub; omega
      clear hk6 hno hyes hsub hl6
      obtain ⟨g0, g1, r0, v0, n0, lg, lr, lv, ln⟩ := HV6.out.cells
      by_cases hdd : j = 0 ∨ d = lev
      rotate_left
      · have hi0 : ((j : Int) == 0) = false := by simp; omega
        have hd0 : ((d : Int) == (lev : Int)) = false := by simp; omega
        have HDd := hidp hdd
        clear hdd
        go_wp2_with fail
        refine (demand_any false 470 _).mono ?_
        rintro e w4 ⟨rfl, rfl⟩
        exact ⟨rfl, visit_no (HNone.out j (by omega) (step_kid_lv HKid.out HLp.out HSub.out HDd.out)) HV6.out.kept⟩
      have HDd := hidp hdd
      have h01 : ((j : Int) == 0) = true ∨ (((j : Int) == 0) = false ∧ ((d : Int) == (lev : Int)) = true) := by
        rcases Nat.eq_zero_or_pos j with h | h
        · exact .inl (by simp [h])
        · exact .inr ⟨by simp; omega, by rcases hdd with h' | h' <;> simp <;> omega⟩
      clear hdd
      rcases h01 with hi0 | ⟨hi0, hd0⟩
      · go_wp2_with fail
        refine (demand_any true 470 _).mono ?_
        rintro e w4 ⟨rfl, rfl⟩
        simp only [demandE, if_true]
        clear hi0
        by_cases hjf : j < g.fn
        · have hjf' : (j : Int) < g.fn := by omega
          obtain ⟨bf, of, f, hfA, _, hf, f0, f1, f2, f3, f4, f5, f6, f7⟩ := fSl.get ((HWP.out w6 HV6.out.kept).each g (List.mem_of_getElem? HGg.out)).1 hjf
          have hixf := fun W => ix_FactsP (c := g.fc) hfA hjf W
          have lf0 := lt_of_cell f0
          have HF := hidp hf
          clear hf hfA
          go_wp2_with fail
          refine wp_region_S w6.heap.size 6 (fun _ => false) (Nat.le_refl _) (by kernel_rfl) (by kernel_rfl) (by kernel_rfl) ?_
          dsimp only [List.take, List.drop]
          apply relS_det (mask := []) (x := .func (.func 70) #[] #[.pointer (some ⟨L, 0, none⟩)])
          · rfl
          · kernel_rfl
          · kernel_rfl
          · dsimp only [oblS]
            rintro w9 h9
            have hc9 := (bcell h9).1
            go_simp
            exact ⟨Below.refl _ _, rfl⟩
          dsimp only [List.nil_append, List.cons_append]
          apply relS_det (mask := [false])
          · rfl
          · kernel_rfl
          · kernel_rfl
          · dsimp only [oblS]
            rintro w9 h9
            go_simp
            exact ⟨Below.refl _ _, rfl⟩
          dsimp only [List.nil_append, List.cons_append]
          apply relS_det (mask := [false, true]) (x := .slice g.fA g.fn g.fc)
          · rfl
          · kernel_rfl
          · kernel_rfl
          · dsimp only [oblS]
            rintro w9 h9
            have hc9 := (bcell h9).1
            go_simp
            exact ⟨Below.refl _ _, rfl⟩
          dsimp only [List.nil_append, List.cons_append]
          apply relS_det (mask := [false, false, false])
          · rfl
          · kernel_rfl
          · kernel_rfl
          · dsimp only [oblS]
            rintro w9 h9
            go_simp
            exact ⟨Below.refl _ _, rfl⟩
          dsimp only [List.nil_append, List.cons_append]
          apply relS_det (mask := [false, false, true, true]) (x := .pointer (some ⟨bf, of + j * 8, none⟩))
          · rfl
          · kernel_rfl
          · kernel_rfl
          · dsimp only [oblS]
            rintro w9 h9
            go_simp
            exact ⟨Below.refl _ _, rfl⟩
          dsimp only [List.nil_append, List.cons_append]
          apply relS_det (mask := [false, false, false, false, true]) (x := .agg #[.int .i64 f.key.kind, .int .i64 f.key.subj, .int .i64 f.key.obj, .int .i64 f.val, .int .i64 f.fr, .int .i64 f.to, .int .i64 f.known, .int .i64 f.no])
          · rfl
          · kernel_rfl
          · kernel_rfl
          · dsimp only [oblS]
            rintro w9 h9
            have hc9 := (bcell h9).1
            go_simp
            exact ⟨Below.refl _ _, rfl⟩
          dsimp only [List.nil_append, List.cons_append]
          refine relS_end (by rfl) ?_
          dsimp only [finS]
          rintro wy hby
          have HVy := hidp (HV6.out.later hby)
          clear g0 g1 r0 v0 n0 lg lr lv ln f0 f1 f2 f3 f4 f5 f6 f7 lf0 hixf hby
          go_simp
          go_wp2_with fail
          refine (good1_any L m'.getLast? f wy HVy.out.last).mono ?_
          rintro e wz ⟨rfl, hl9, hk9⟩
          obtain ⟨ok, hok⟩ : ∃ b, nextOk m'.getLast? f = b := ⟨_, rfl⟩
          have HStep := step_kid_fact HKid.out HLp.out HSub.out HDd.out HF.out
          rw [hok] at hl9 HStep
          rw [hok]
          have HK9 := hidp hk9
          have HSt := hidp HStep
          have HL9 := hidp hl9
          clear HStep hok hk9 hl9
          cases ok
          · exact ⟨rfl, visit_no (HNone.out j (by omega) (by rw [HSt.out]; rfl)) (HVy.out.kept.trans HK9.out)⟩
          simp only [demandE, if_true]
          have HVz := hidp (HVy.out.turned HK9.out (HL9.out rfl))
          obtain ⟨g0, g1, r0, v0, n0, lg, lr, lv, ln⟩ := HVz.out.cells
          go_wp2_with fail
          go_roundw
          case rel => exact ⟨j + 1, _, d, by omega, by go_num, rfl, by rw [HSt.out]; rfl, by rw [List.getLast?_append]; exact HVz.out⟩
          case measure => simp [intOf]; omega
        have hje : j = g.fn := by omega
        have hjf' : ¬ ((j : Int) < g.fn) := by omega
        clear hjf
        go_wp2_with fail
        go_roundw
        case rel => exact ⟨j + 1, m', d, by omega, by go_num, rfl, step_kid_end HKid.out HLp.out HSub.out HDd.out (List.getElem?_eq_none (by show g.facts.length ≤ j; have := HFn.out; omega)), HV6.out⟩
        case measure => simp [intOf]; omega
      · go_wp2_with fail
        refine (demand_any true 470 _).mono ?_
        rintro e w4 ⟨rfl, rfl⟩
        simp only [demandE, if_true]
        clear hi0 hd0
        by_cases hjf : j < g.fn
        · have hjf' : (j : Int) < g.fn := by omega
          obtain ⟨bf, of, f, hfA, _, hf, f0, f1, f2, f3, f4, f5, f6, f7⟩ := fSl.get ((HWP.out w6 HV6.out.kept).each g (List.mem_of_getElem? HGg.out)).1 hjf
          have hixf := fun W => ix_FactsP (c := g.fc) hfA hjf W
          have lf0 := lt_of_cell f0
          have HF := hidp hf
          clear hf hfA
          go_wp2_with fail
          refine wp_region_S w6.heap.size 6 (fun _ => false) (Nat.le_refl _) (by kernel_rfl) (by kernel_rfl) (by kernel_rfl) ?_
          dsimp only [List.take, List.drop]
          apply relS_det (mask := []) (x := .func (.func 70) #[] #[.pointer (some ⟨L, 0, none⟩)])
          · rfl
          · kernel_rfl
          · kernel_rfl
          · dsimp only [oblS]
            rintro w9 h9
            have hc9 := (bcell h9).1
            go_simp
            exact ⟨Below.refl _ _, rfl⟩
          dsimp only [List.nil_append, List.cons_append]
          apply relS_det (mask := [false])
          · rfl
          · kernel_rfl
          · kernel_rfl
          · dsimp only [oblS]
            rintro w9 h9
            go_simp
            exact ⟨Below.refl _ _, rfl⟩
          dsimp only [List.nil_append, List.cons_append]
          apply relS_det (mask := [false, true]) (x := .slice g.fA g.fn g.fc)
          · rfl
          · kernel_rfl
          · kernel_rfl
          · dsimp only [oblS]
            rintro w9 h9
            have hc9 := (bcell h9).1
            go_simp
            exact ⟨Below.refl _ _, rfl⟩
          dsimp only [List.nil_append, List.cons_append]
          apply relS_det (mask := [false, false, false])
          · rfl
          · kernel_rfl
          · kernel_rfl
          · dsimp only [oblS]
            rintro w9 h9
            go_simp
            exact ⟨Below.refl _ _, rfl⟩
          dsimp only [List.nil_append, List.cons_append]
          apply relS_det (mask := [false, false, true, true]) (x := .pointer (some ⟨bf, of + j * 8, none⟩))
          · rfl
          · kernel_rfl
          · kernel_rfl
          · dsimp only [oblS]
            rintro w9 h9
            go_simp
            exact ⟨Below.refl _ _, rfl⟩
          dsimp only [List.nil_append, List.cons_append]
          apply relS_det (mask := [false, false, false, false, true]) (x := .agg #[.int .i64 f.key.kind, .int .i64 f.key.subj, .int .i64 f.key.obj, .int .i64 f.val, .int .i64 f.fr, .int .i64 f.to, .int .i64 f.known, .int .i64 f.no])
          · rfl
          · kernel_rfl
          · kernel_rfl
          · dsimp only [oblS]
            rintro w9 h9
            have hc9 := (bcell h9).1
            go_simp
            exact ⟨Below.refl _ _, rfl⟩
          dsimp only [List.nil_append, List.cons_append]
          refine relS_end (by rfl) ?_
          dsimp only [finS]
          rintro wy hby
          have HVy := hidp (HV6.out.later hby)
          clear g0 g1 r0 v0 n0 lg lr lv ln f0 f1 f2 f3 f4 f5 f6 f7 lf0 hixf hby
          go_simp
          go_wp2_with fail
          refine (good1_any L m'.getLast? f wy HVy.out.last).mono ?_
          rintro e wz ⟨rfl, hl9, hk9⟩
          obtain ⟨ok, hok⟩ : ∃ b, nextOk m'.getLast? f = b := ⟨_, rfl⟩
          have HStep := step_kid_fact HKid.out HLp.out HSub.out HDd.out HF.out
          rw [hok] at hl9 HStep
          rw [hok]
          have HK9 := hidp hk9
          have HSt := hidp HStep
          have HL9 := hidp hl9
          clear HStep hok hk9 hl9
          cases ok
          · exact ⟨rfl, visit_no (HNone.out j (by omega) (by rw [HSt.out]; rfl)) (HVy.out.kept.trans HK9.out)⟩
          simp only [demandE, if_true]
          have HVz := hidp (HVy.out.turned HK9.out (HL9.out rfl))
          obtain ⟨g0, g1, r0, v0, n0, lg, lr, lv, ln⟩ := HVz.out.cells
          go_wp2_with fail
          go_roundw
          case rel => exact ⟨j + 1, _, d, by omega, by go_num, rfl, by rw [HSt.out]; rfl, by rw [List.getLast?_append]; exact HVz.out⟩
          case measure => simp [intOf]; omega
        have hje : j = g.fn := by omega
        have hjf' : ¬ ((j : Int) < g.fn) := by omega
        clear hjf
        go_wp2_with fail
        go_roundw
        case rel => exact ⟨j + 1, m', d, by omega, by go_num, rfl, step_kid_end HKid.out HLp.out HSub.out HDd.out (List.getElem?_eq_none (by show g.facts.length ≤ j; have := HFn.out; omega)), HV6.out⟩
        case measure => simp [intOf]; omega
    have hje : j = g.fn + 1 := by omega
    have hjn' : ¬ ((j : Int) < (g.fn : Int) + 1) := by omega
    have HRes : Hid (walkP (psV s) q (decide (q = r)) l = some (m, lev + 1)) := by
      show _ = _
      rw [HW1.out, show g.facts.length + 1 = j by have := HFn.out; omega, HLp.out]; rfl
    have hlv : lev ≤ q := by have := walkP_lv (psV s) (q + 1) q _ l m _ (by omega) HRes.out; omega
    have hwl : IntKind.i64.wrap ((lev : Int) + 1) = ((lev + 1 : Nat) : Int) := by rw [IntWalk.i64_in _ (by omega)]; omega
    clear hjn
    go_wp2_with fail
    go_ret
    exact visit_yes HRes.out HVr.out.kept HVr.out.last
  · skip
    go_wp2_with fail
    go_loopw [6, 53] (fun lvv i wr => ∃ (j : Nat) (m : List Fc) (lv : Nat), j ≤ g.fn + 1 ∧ i = .int .i64 j ∧ lvv = .int .i64 (lv : Nat) ∧ loopW (kidW (psV s) q) (pgV g) l j = some (m, lv) ∧ VisB s r P R V N L g w.heap.size m.getLast? w wr) (fun _ i _ => g.fn + 1 - (intOf i).toNat)
    case atStart => exact ⟨0, l, 0, by omega, rfl, rfl, loopW_zero _ _ _, HV3.out⟩
    case round =>
    obtain ⟨j, m, lev, hj, rfl, rfl, hlp, hvb⟩ := hrel
    have HLp := hidp hlp
    have HVr := hidp hvb
    obtain ⟨g0, g1, r0, v0, n0, lg, lr, lv, ln⟩ := hvb.cells
    clear hlp hvb
    by_cases hjn : j < g.fn + 1
    · have hjn' : (j : Int) < (g.fn : Int) + 1 := by omega
      by_cases hjf : j < g.fn
      · have hjf' : (j : Int) < g.fn := by omega
        obtain ⟨bf, of, f, hfA, _, hf, f0, f1, f2, f3, f4, f5, f6, f7⟩ := fSl.get ((HWP.out wr HVr.out.kept).each g (List.mem_of_getElem? HGg.out)).1 hjf
        have hixf := fun W => ix_FactsP (c := g.fc) hfA hjf W
        have lf0 := lt_of_cell f0
        have HF := hidp hf
        clear hf hfA
        go_wp2_with fail
        refine wp_region_S wr.heap.size 6 (fun _ => false) (Nat.le_refl _) (by kernel_rfl) (by kernel_rfl) (by kernel_rfl) ?_
        dsimp only [List.take, List.drop]
        apply relS_det (mask := []) (x := .func (.func 70) #[] #[.pointer (some ⟨L, 0, none⟩)])
        · rfl
        · kernel_rfl
        · kernel_rfl
        · dsimp only [oblS]
          rintro w9 h9
          have hc9 := (bcell h9).1
          go_simp
          exact ⟨Below.refl _ _, rfl⟩
        dsimp only [List.nil_append, List.cons_append]
        apply relS_det (mask := [false])
        · rfl
        · kernel_rfl
        · kernel_rfl
        · dsimp only [oblS]
          rintro w9 h9
          go_simp
          exact ⟨Below.refl _ _, rfl⟩
        dsimp only [List.nil_append, List.cons_append]
        apply relS_det (mask := [false, true]) (x := .slice g.fA g.fn g.fc)
        · rfl
        · kernel_rfl
        · kernel_rfl
        · dsimp only [oblS]
          rintro w9 h9
          have hc9 := (bcell h9).1
          go_simp
          exact ⟨Below.refl _ _, rfl⟩
        dsimp only [List.nil_append, List.cons_append]
        apply relS_det (mask := [false, false, false])
        · rfl
        · kernel_rfl
        · kernel_rfl
        · dsimp only [oblS]
          rintro w9 h9
          go_simp
          exact ⟨Below.refl _ _, rfl⟩
        dsimp only [List.nil_append, List.cons_append]
        apply relS_det (mask := [false, false, true, true]) (x := .pointer (some ⟨bf, of + j * 8, none⟩))
        · rfl
        · kernel_rfl
        · kernel_rfl
        · dsimp only [oblS]
          rintro w9 h9
          go_simp
          exact ⟨Below.refl _ _, rfl⟩
        dsimp only [List.nil_append, List.cons_append]
        apply relS_det (mask := [false, false, false, false, true]) (x := .agg #[.int .i64 f.key.kind, .int .i64 f.key.subj, .int .i64 f.key.obj, .int .i64 f.val, .int .i64 f.fr, .int .i64 f.to, .int .i64 f.known, .int .i64 f.no])
        · rfl
        · kernel_rfl
        · kernel_rfl
        · dsimp only [oblS]
          rintro w9 h9
          have hc9 := (bcell h9).1
          go_simp
          exact ⟨Below.refl _ _, rfl⟩
        dsimp only [List.nil_append, List.cons_append]
        refine relS_end (by rfl) ?_
        dsimp only [finS]
        rintro wy hby
        have HVy := hidp (HVr.out.later hby)
        clear g0 g1 r0 v0 n0 lg lr lv ln f0 f1 f2 f3 f4 f5 f6 f7 lf0 hixf hby
        go_simp
        go_wp2_with fail
        refine (good1_any L m.getLast? f wy HVy.out.last).mono ?_
        rintro e wz ⟨rfl, hl9, hk9⟩
        obtain ⟨ok, hok⟩ : ∃ b, nextOk m.getLast? f = b := ⟨_, rfl⟩
        have HStep := step_leaf_fact (HKz.out (by simp)) HLp.out HF.out
        rw [hok] at hl9 HStep
        rw [hok]
        have HK9 := hidp hk9
        have HSt := hidp HStep
        have HL9 := hidp hl9
        clear HStep hok hk9 hl9
        cases ok
        · exact ⟨rfl, visit_no (HNone.out j (by omega) (by rw [HSt.out]; rfl)) (HVy.out.kept.trans HK9.out)⟩
        simp only [demandE, if_true]
        have HVz := hidp (HVy.out.turned HK9.out (HL9.out rfl))
        obtain ⟨g0, g1, r0, v0, n0, lg, lr, lv, ln⟩ := HVz.out.cells
        go_wp2_with fail
        go_roundw
        case rel => exact ⟨j + 1, _, lev, by omega, by go_num, rfl, by rw [HSt.out]; rfl, by rw [List.getLast?_append]; exact HVz.out⟩
        case measure => simp [intOf]; omega
      have hje : j = g.fn := by omega
      have hjf' : ¬ ((j : Int) < g.fn) := by omega
      clear hjf
      go_wp2_with fail
      go_roundw
      case rel => exact ⟨j + 1, m, lev, by omega, by go_num, rfl, step_leaf_end (HKz.out (by simp)) HLp.out (List.getElem?_eq_none (by show g.facts.length ≤ j; have := HFn.out; omega)), HVr.out⟩
      case measure => simp [intOf]; omega
    have hje : j = g.fn + 1 := by omega
    have hjn' : ¬ ((j : Int) < (g.fn : Int) + 1) := by omega
    have HRes : Hid (walkP (psV s) q (decide (q = r)) l = some (m, lev + 1)) := by
      show _ = _
      rw [HW1.out, show g.facts.length + 1 = j by have := HFn.out; omega, HLp.out]; rfl
    have hlv : lev ≤ q := by have := walkP_lv (psV s) (q + 1) q _ l m _ (by omega) HRes.out; omega
    have hwl : IntKind.i64.wrap ((lev : Int) + 1) = ((lev + 1 : Nat) : Int) := by rw [IntWalk.i64_in _ (by omega)]; omega
    clear hjn
    go_wp2_with fail
    go_ret
    exact visit_yes HRes.out HVr.out.kept HVr.out.last
end Go.Proofs.Ytpnfpdkoeednhaa

end
section
/- pages.good. -/
namespace Go.Proofs.Ytpnfpdkoeednhaa
open Go.RowKit

theorem run_store_fn {P : Program} {w : World} {a : Addr} {f : Fn} {fr cs : Array Value} {m : Mode} : (store a (.func f fr cs) m).run P w = stored P w a (.func f fr cs) m := run_store P w a _ m rfl
attribute [local go_sem] run_store_fn
set_option maxRecDepth 100000 in
set_option maxHeartbeats 4000000 in
theorem good_any (s : Ps) (root : Int) (w : World) (hps : PsIn s w w.heap.size) (hsm : ∀ g ∈ s.gs, g.fn ≤ 1000000 ∧ g.kn ≤ 1000000) :
    Calls Try.prog 48 #[.agg #[.slice s.pA s.pn s.pc, .slice s.rA s.rn s.rc], .int .i64 root] w fun e w' => e = demandE (rootP (psV s) root) 470 ∧ Below w.heap.size w w' := by
  have HPs := hidp hps
  have HSm := hidp hsm
  have hpc := hps.pages.2.1
  have hpcc := hps.pages.2.2.1
  have HPn : Hid (s.pn = s.gs.length) := hps.pages.1
  obtain ⟨W0, hW0⟩ : ∃ W0, (w.alloc (.cells #[.slice s.pA s.pn s.pc, .slice s.rA s.rn s.rc] 25)).alloc (.cells #[.int .i64 root] 3) = W0 := ⟨_, rfl⟩
  have hB0 : Below w.heap.size w W0 := hW0 ▸ ((Below.refl _ w).alloc (Nat.le_refl _) _).alloc (by simp) _
  have gp : W0.heap[w.heap.size]? = some (.cells #[.slice s.pA s.pn s.pc, .slice s.rA s.rn s.rc] 25 (0, 0)) := hW0 ▸ (Below.heap_alloc _ _ _ (by simp)).trans (World.alloc_heap_new _ _)
  have gr : W0.heap[w.heap.size + 1]? = some (.cells #[.int .i64 root] 3 (0, 0)) := by
    rw [← hW0]; have := World.alloc_heap_new (w.alloc (.cells #[.slice s.pA s.pn s.pc, .slice s.rA s.rn s.rc] 25)) (.cells #[.int .i64 root] 3); rwa [World.size_alloc] at this
  have hz0 : W0.heap.size = w.heap.size + 2 := by rw [← hW0]; simp
  have HB0 := hidp hB0
  have HGp := hidp gp
  have HGr := hidp gr
  have HZ0 := hidp hz0
  have HW0 := hidp hW0
  have p0 := cell_of_heap (o := 0) gp
  have r0 := cell_of_heap (o := 0) gr
  have lp := lt_of_heap gp
  have lr := lt_of_heap gr
  simp only [List.getElem?_toArray, List.getElem?_cons_zero] at p0 r0
  obtain ⟨z0, hz0'⟩ : ∃ b, decide (0 ≤ root) = b := ⟨_, rfl⟩
  obtain ⟨z1, hz1⟩ : ∃ b, decide (root < (s.pn : Int)) = b := ⟨_, rfl⟩
  have HZa := hidp hz0'
  have HZb := hidp hz1
  clear hB0 gp gr hz0 hps hsm hW0
  go_enter Try.func48, Try.ntmps48
  cases z0
  · have HN : Hid (rootP (psV s) root = false) := by show _ = _; unfold rootP; rw [HZa.out]; rfl
    go_wp2_with fail
    try rw [HW0.out]
    refine (demand_any false 470 _).mono ?_
    rintro e w1 ⟨rfl, rfl⟩
    exact ⟨rfl, by rw [HN.out]; rfl, HB0.out⟩
  cases z1
  · have HN : Hid (rootP (psV s) root = false) := by
      show _ = _; unfold rootP; rw [psV_len, ← HPn.out, HZb.out]; simp
    go_wp2_with fail
    try rw [HW0.out]
    refine (demand_any false 470 _).mono ?_
    rintro e w1 ⟨rfl, rfl⟩
    exact ⟨rfl, by rw [HN.out]; rfl, HB0.out⟩
  have hrt : 0 ≤ root ∧ root < s.pn := ⟨of_decide_eq_true HZa.out, of_decide_eq_true HZb.out⟩
  obtain ⟨r, rfl⟩ : ∃ n : Nat, root = n := ⟨root.toNat, by omega⟩
  go_wp2_with fail
  try rw [HW0.out]
  refine (demand_any true 470 _).mono ?_
  rintro e w1 ⟨rfl, rfl⟩
  simp only [demandE, if_true]
  go_wp2_with fail
  obtain ⟨g, hg⟩ : ∃ g, s.gs[r]? = some g := ⟨_, List.getElem?_eq_getElem (by have := HPn.out; omega)⟩
  obtain ⟨W3, hW3⟩ : ∃ W3, (((W0.alloc (.cells #[.pointer none] 78)).alloc (.cells #[.func (.func 70) #[] #[.pointer (some ⟨W0.heap.size, 0, none⟩)]] 109)).alloc (.cells #[.func (.func 71) #[] #[.pointer (some ⟨w.heap.size, 0, none⟩), .pointer (some ⟨w.heap.size + 1, 0, none⟩), .pointer (some ⟨W0.heap.size + 1 + 1, 0, none⟩), .pointer (some ⟨W0.heap.size + 1, 0, none⟩)]] 110)) = W3 := ⟨_, rfl⟩
  rw [hW3]
  have hb3 : Below W0.heap.size W0 W3 := hW3 ▸ (((Below.refl _ W0).alloc (Nat.le_refl _) _).alloc (by simp) _).alloc (by simp; omega) _
  have gl : W3.heap[W0.heap.size]? = some (.cells #[.pointer none] 78 (0, 0)) := hW3 ▸ (Below.heap_alloc _ _ _ (by simp; omega)).trans ((Below.heap_alloc _ _ _ (by simp)).trans (World.alloc_heap_new _ _))
  have gn : W3.heap[W0.heap.size + 1]? = some (.cells #[.func (.func 70) #[] #[.pointer (some ⟨W0.heap.size, 0, none⟩)]] 109 (0, 0)) := by
    rw [← hW3]
    refine (Below.heap_alloc _ _ _ (by simp)).trans ?_
    have := World.alloc_heap_new (W0.alloc (.cells #[.pointer none] 78)) (.cells #[.func (.func 70) #[] #[.pointer (some ⟨W0.heap.size, 0, none⟩)]] 109)
    rwa [World.size_alloc] at this
  have gv : W3.heap[W0.heap.size + 1 + 1]? = some (.cells #[.func (.func 71) #[] #[.pointer (some ⟨w.heap.size, 0, none⟩), .pointer (some ⟨w.heap.size + 1, 0, none⟩), .pointer (some ⟨W0.heap.size + 1 + 1, 0, none⟩), .pointer (some ⟨W0.heap.size + 1, 0, none⟩)]] 110 (0, 0)) := by
    rw [← hW3]
    have := World.alloc_heap_new ((W0.alloc (.cells #[.pointer none] 78)).alloc (.cells #[.func (.func 70) #[] #[.pointer (some ⟨W0.heap.size, 0, none⟩)]] 109)) (.cells #[.func (.func 71) #[] #[.pointer (some ⟨w.heap.size, 0, none⟩), .pointer (some ⟨w.heap.size + 1, 0, none⟩), .pointer (some ⟨W0.heap.size + 1 + 1, 0, none⟩), .pointer (some ⟨W0.heap.size + 1, 0, none⟩)]] 110)
    rwa [World.size_alloc, World.size_alloc] at this
  have hgood : GoodB s r w.heap.size (w.heap.size + 1) (W0.heap.size + 1 + 1) (W0.heap.size + 1) W0.heap.size W3 :=
    ⟨(hb3.block _ (by have := HZ0.out; omega)).trans HGp.out, (hb3.block _ (by have := HZ0.out; omega)).trans HGr.out, gv, gn, by have := HZ0.out; omega⟩
  have hB3 := HB0.out.trans (hb3.mono HB0.out.size)
  have hlast : LastAt W3 W0.heap.size ([] : List Fc).getLast? := gl
  have HB3 := hidp hB3
  have HRoot : Hid (rootP (psV s) r = (walkP (psV s) r true []).isSome) := by
    show _ = _
    unfold rootP
    rw [decide_eq_true (p := (0 : Int) ≤ r) (by omega), decide_eq_true (p := (r : Int) < (psV s).length) (by rw [psV_len, ← HPn.out]; omega), Int.toNat_natCast]; rfl
  refine (good2_any s r _ _ _ _ _ w.heap.size (by have := HZ0.out; omega) (by omega) HSm.out (r + 1) r (by omega) (Nat.le_refl _) g hg [] W3 hgood (HPs.out.keep (Nat.le_refl _) hB3.block) hB3.size hlast).mono ?_
  rintro e w4 ⟨hk, hno, hyes⟩
  have HB4 : Hid (Below w.heap.size w w4) := HB3.out.trans (hk.toBelow (by have := HB3.out.size; omega) fun b hb e => by have := HZ0.out; omega)
  rw [decide_eq_true (rfl : r = r)] at hno hyes
  rcases hwk : walkP (psV s) r true [] with _ | ⟨m, d⟩
  · obtain rfl := hno hwk
    exact ⟨rfl, by rw [HRoot.out, hwk]; rfl, HB4.out⟩
  · obtain ⟨rfl, _⟩ := hyes m d hwk
    have HR : Hid (rootP (psV s) r = true) := by show _ = _; rw [HRoot.out, hwk]; rfl
    clear hno hyes hk hwk hgood hlast hb3 gl gn gv hB3 hg hW3
    go_wp2_with fail
    go_end0
    exact ⟨by rw [HR.out]; rfl, HB4.out⟩
set_option maxRecDepth 100000 in
set_option maxHeartbeats 4000000 in
theorem pgCheck_any (s : Ps) (w : World) (hps : PsIn s w w.heap.size) (hsm : ∀ g ∈ s.gs, g.fn ≤ 1000000 ∧ g.kn ≤ 1000000) :
    Calls Try.prog 14 #[.agg #[.slice s.pA s.pn s.pc, .slice s.rA s.rn s.rc]] w fun e w' => e = .returned (.int .i64 (errP (checkP (psV s) s.roots))) ∧ Below w.heap.size w w' := by
  have HPs : Hid (∀ W, Below w.heap.size w W → PsIn s W W.heap.size) := fun W h => hps.later h
  have HSm := hidp hsm
  have hrc := hps.roots.2.1
  have hrcc := hps.roots.2.2.1
  have HRn : Hid (s.rn = s.roots.length) := hps.roots.1
  have hmf : ∀ (fn : Fn) (first cap : Array Value) (W : World), (Instr.makeFunc fn first cap).run Try.prog W = .ok (.func fn first cap) W := fun _ _ _ _ => rfl
  clear hps hsm
  obtain ⟨W0, hW0⟩ : ∃ W0, (w.alloc (.cells #[.slice s.pA s.pn s.pc, .slice s.rA s.rn s.rc] 25)).alloc (.cells #[.int .i64 0] 34) = W0 := ⟨_, rfl⟩
  have HB0 : Hid (Below w.heap.size w W0) := hW0 ▸ ((Below.refl _ w).alloc (Nat.le_refl _) _).alloc (by simp) _
  have HGp : Hid (W0.heap[w.heap.size]? = some (.cells #[.slice s.pA s.pn s.pc, .slice s.rA s.rn s.rc] 25 (0, 0))) := hW0 ▸ (Below.heap_alloc _ _ _ (by simp)).trans (World.alloc_heap_new _ _)
  have HGe : Hid (W0.heap[w.heap.size + 1]? = some (.cells #[.int .i64 0] 34 (0, 0))) := by
    show _ = _
    rw [← hW0]; have := World.alloc_heap_new (w.alloc (.cells #[.slice s.pA s.pn s.pc, .slice s.rA s.rn s.rc] 25)) (.cells #[.int .i64 0] 34); rwa [World.size_alloc] at this
  have HW0 := hidp hW0
  clear hW0
  obtain ⟨z0, hz0⟩ : ∃ b, decide (0 < s.rn) = b := ⟨_, rfl⟩
  have HZ := hidp hz0
  go_enter_defers Try.func14, Try.ntmps14
  cases z0
  · have HN : Hid (checkP (psV s) s.roots = false) := by show _ = _; unfold checkP; rw [← HRn.out, HZ.out]; rfl
    go_wp2_with fail
    try rw [HW0.out]
    refine (demand_any false 470 _).mono ?_
    rintro e w1 ⟨rfl, rfl⟩
    simp only [demandE, Bool.false_eq_true, if_false]
    refine leaves_cons (f := 47) (args := #[.pointer (some ⟨w.heap.size + 1, 0, none⟩)]) (by simp) (by simp [go_sem]) ?_
    refine (catchC_panicking (w.heap.size + 1) 0 470 [] _ HGe.out).mono ?_
    rintro e u' w'' ⟨rfl, rfl, h1, h2⟩
    have hce := cell_of_heap (o := 0) h1
    simp only [List.getElem?_toArray, List.getElem?_cons_zero] at hce
    have HB2 : Hid (Below w.heap.size w w'') := HB0.out.trans (h2.toBelow (by have := HB0.out.size; omega) fun b hb e => by omega)
    simp [Leaves, settle, results, Try.results14, go_sem, hce]
    exact ⟨by rw [HN.out]; rfl, HB2.out⟩
  go_wp2_with fail
  try rw [HW0.out]
  refine (demand_any true 470 _).mono ?_
  rintro e w1 ⟨rfl, rfl⟩
  simp only [demandE, if_true]
  have p1 := cell_of_heap (o := 1) HGp.out
  have lp := lt_of_heap HGp.out
  simp only [List.getElem?_toArray, List.getElem?_cons_zero, List.getElem?_cons_succ] at p1
  go_wp2_with fail
  clear p1 lp
  go_loopw [14] (fun i wr => ∃ k : Nat, k ≤ s.rn ∧ i = .int .i64 k ∧ wr.heap[w.heap.size]? = some (.cells #[.slice s.pA s.pn s.pc, .slice s.rA s.rn s.rc] 25 (0, 0)) ∧ wr.heap[w.heap.size + 1]? = some (.cells #[.int .i64 0] 34 (0, 0)) ∧ Below w.heap.size w wr ∧ (s.roots.take k).all (rootP (psV s)) = true) (fun i _ => s.rn - (intOf i).toNat)
  case atStart => exact ⟨0, by omega, rfl, HGp.out, HGe.out, HB0.out, by simp⟩
  case round =>
  obtain ⟨k, hk, rfl, hgp, hge, hbe, hall⟩ := hrel
  have HGp1 := hidp hgp
  have HGe1 := hidp hge
  have HBe := hidp hbe
  have HAll := hidp hall
  have p0 := cell_of_heap (o := 0) hgp
  have p1 := cell_of_heap (o := 1) hgp
  have lp := lt_of_heap hgp
  simp only [List.getElem?_toArray, List.getElem?_cons_zero, List.getElem?_cons_succ] at p0 p1
  clear hgp hge hbe hall
  by_cases hkn : k < s.rn
  · have hkn' : (k : Int) < s.rn := by omega
    obtain ⟨b, off, root, hA, _, hrt, c0⟩ := iSl.get (HPs.out wr HBe.out).roots hkn
    have hix := fun W => ix_intsP (c := s.rc) hA hkn W
    have lb := lt_of_cell c0
    have HRt := hidp hrt
    clear hrt hA
    go_wp2_with fail
    refine (good_any s root wr (HPs.out wr HBe.out) HSm.out).mono ?_
    rintro e w2 ⟨rfl, hb2⟩
    have HB2 := hidp (HBe.out.trans (hb2.mono HBe.out.size))
    have HGp2 := hidp ((hb2.block _ (lt_of_heap HGp1.out)).trans HGp1.out)
    have HGe2 := hidp ((hb2.block _ (lt_of_heap HGe1.out)).trans HGe1.out)
    obtain ⟨ok, hok⟩ : ∃ b, rootP (psV s) root = b := ⟨_, rfl⟩
    rw [hok]
    have HOk := hidp hok
    clear hok hb2 p0 p1 lp c0 lb hix
    cases ok
    · have HN : Hid (checkP (psV s) s.roots = false) := by
        show _ = _
        unfold checkP
        rw [Bool.and_eq_false_iff]
        refine .inr ?_
        rw [Bool.eq_false_iff]
        intro h
        have := List.all_eq_true.1 h root (List.mem_of_getElem? HRt.out)
        rw [HOk.out] at this; cases this
      simp only [demandE, Bool.false_eq_true, if_false]
      refine leaves_cons (f := 47) (args := #[.pointer (some ⟨w.heap.size + 1, 0, none⟩)]) (by simp) (by simp [go_sem]) ?_
      refine (catchC_panicking (w.heap.size + 1) 0 470 [] _ HGe2.out).mono ?_
      rintro e u' w'' ⟨rfl, rfl, h1, h2⟩
      have hce := cell_of_heap (o := 0) h1
      simp only [List.getElem?_toArray, List.getElem?_cons_zero] at hce
      have HB3 : Hid (Below w.heap.size w w'') := HB2.out.trans (h2.toBelow (by have := HB2.out.size; omega) fun b hb e => by omega)
      simp [Leaves, settle, results, Try.results14, go_sem, hce]
      exact ⟨by rw [HN.out]; rfl, HB3.out⟩
    simp only [demandE, if_true]
    go_wp2_with fail
    go_roundw
    case rel => exact ⟨k + 1, by omega, by go_num, HGp2.out, HGe2.out, HB2.out, by rw [take_snoc HRt.out, List.all_append, HAll.out]; simp [HOk.out]⟩
    case measure => simp [intOf]; omega
  have hke : k = s.rn := by omega
  subst hke
  have hkk : ¬ ((s.rn : Int) < s.rn) := by omega
  have HY : Hid (checkP (psV s) s.roots = true) := by
    have h := HAll.out
    rw [List.take_of_length_le (by rw [← HRn.out]; exact Nat.le_refl _)] at h
    show _ = _
    unfold checkP
    rw [← HRn.out, HZ.out, h]; rfl
  have hce := cell_of_heap (o := 0) HGe1.out
  have hze := frozen_of_heap (o := 0) HGe1.out
  have le := lt_of_heap HGe1.out
  simp only [List.getElem?_toArray, List.getElem?_cons_zero] at hce
  clear p0 p1 lp
  go_wp2_with fail
  have h1 := heap_set1 HGe1.out (.int .i64 0)
  have hcs := cell_of_heap (o := 0) h1
  simp only [List.getElem?_toArray, List.getElem?_cons_zero] at hcs
  have HB2 : Hid (Below w.heap.size w (wr.setCell ⟨w.heap.size + 1, 0, none⟩ (.int .i64 0))) := HBe.out.setCell (p := ⟨w.heap.size + 1, 0, none⟩) (by simp) _
  refine leaves_cons (f := 47) (args := #[.pointer (some ⟨w.heap.size + 1, 0, none⟩)]) (by simp) (by simp [go_sem]) ?_
  refine (catchC_idle (w.heap.size + 1) _).mono ?_
  rintro e u' w'' ⟨rfl, rfl, rfl⟩
  simp [Leaves, settle, results, Try.results14, go_sem, hcs]
  exact ⟨by rw [HY.out]; rfl, HB2.out⟩
end Go.Proofs.Ytpnfpdkoeednhaa

end
section
/- The facts below a page, plainly; pages.all makes its iterator. -/
namespace Go.Proofs.Ytpnfpdkoeednhaa
open Go.RowKit

/-- The facts below a page, in their order. -/
def allG (ps : List Pv) : Nat → Nat → List Fc
  | 0, _ => []
  | n + 1, p =>
    match ps[p]? with
    | none => []
    | some g => (List.range (g.facts.length + 1)).flatMap fun i => (if g.kids.length = 0 then [] else if 0 ≤ g.kids.getD i 0 ∧ g.kids.getD i 0 < p then allG ps n (g.kids.getD i 0).toNat else []) ++ g.facts[i]?.toList
theorem allG_fuel (ps : List Pv) : ∀ n m p : Nat, p < n → p < m → allG ps n p = allG ps m p
  | 0, _, _, h, _ => by omega
  | _ + 1, 0, _, _, h => by omega
  | n + 1, m + 1, p, _, _ => by
    unfold allG
    split
    · rfl
    · rename_i g _
      congr 1
      funext i
      congr 1
      split
      · rfl
      · split
        · rename_i h
          exact allG_fuel ps n m _ (by omega) (by omega)
        · rfl
def allT (ps : List Pv) (p : Nat) : List Fc := allG ps (p + 1) p
/-- What comes below the first pages below a page. -/
def subT (ps : List Pv) (p : Nat) (g : Pv) (i : Nat) : List Fc := if g.kids.length = 0 then [] else if 0 ≤ g.kids.getD i 0 ∧ g.kids.getD i 0 < p then allT ps (g.kids.getD i 0).toNat else []
def outT (ps : List Pv) (p : Nat) (g : Pv) (j : Nat) : List Fc := (List.range j).flatMap fun i => subT ps p g i ++ g.facts[i]?.toList
theorem allT_eq {ps : List Pv} {p : Nat} {g : Pv} (hg : ps[p]? = some g) : allT ps p = outT ps p g (g.facts.length + 1) := by
  unfold allT allG outT
  rw [hg]
  dsimp only
  congr 1
  funext i
  congr 1
  unfold subT
  split
  · rfl
  · split
    · rename_i h
      exact allG_fuel ps _ _ _ (by omega) (by omega)
    · rfl
theorem outT_succ (ps : List Pv) (p : Nat) (g : Pv) (j : Nat) : outT ps p g (j + 1) = outT ps p g j ++ (subT ps p g j ++ g.facts[j]?.toList) := by
  unfold outT; rw [List.range_succ, List.flatMap_append]; simp
/-- A page that a walk has gone through. -/
def OkT (ps : List Pv) (p : Nat) : Prop := ∃ root l, (walkP ps p root l).isSome = true
theorem loopW_sub {sub : Int → List Fc → Option (List Fc × Nat)} {g : Pv} {l : List Fc} (hk : g.kids.length ≠ 0) : ∀ (n : Nat), (loopW sub g l n).isSome = true → ∀ i, i < n → ∃ m r, sub (g.kids.getD i 0) m = some r
  | 0, _, i, hi => by omega
  | n + 1, h, i, hi => by
    cases hl : loopW sub g l n with
    | none => rw [loopW_none hl (n + 1) (by omega)] at h; cases h
    | some s =>
      rcases Nat.lt_or_ge i n with h1 | h1
      · exact loopW_sub hk n (by rw [hl]; rfl) i h1
      · obtain rfl : i = n := by omega
        rw [loopW_succ, hl] at h
        simp only [stepW, Option.bind_some, subW, if_neg hk] at h
        cases hs : sub (g.kids.getD i 0) s.1 with
        | none => simp only [hs, Option.bind_none] at h; cases h
        | some r => exact ⟨_, _, hs⟩
theorem OkT.page {ps : List Pv} {p : Nat} (h : OkT ps p) : ∃ g, ps[p]? = some g ∧ (g.kids.length = 0 ∨ (g.kids.length = g.facts.length + 1 ∧ ∀ i, i < g.kids.length → ∃ kn : Nat, g.kids[i]? = some (kn : Int) ∧ kn < p ∧ OkT ps kn)) := by
  obtain ⟨root, l, h⟩ := h
  cases hg : ps[p]? with
  | none => rw [walkP_no hg] at h; cases h
  | some g =>
    refine ⟨g, rfl, ?_⟩
    rw [walkP_eq hg] at h
    split at h
    · rename_i hok
      rw [Option.isSome_map] at h
      unfold pgOk at hok
      simp only [Bool.and_eq_true, Bool.or_eq_true, decide_eq_true_eq] at hok
      rcases Nat.eq_zero_or_pos g.kids.length with h0 | h0
      · exact .inl h0
      · have hl : g.kids.length = g.facts.length + 1 := by omega
        refine .inr ⟨hl, fun i hi => ?_⟩
        obtain ⟨m, r, hs⟩ := loopW_sub (by omega) _ h i (by omega)
        unfold kidW at hs
        split at hs
        · rename_i hk
          have hgi : g.kids[i]? = some (g.kids.getD i 0) := by rw [List.getD_eq_getElem?_getD, List.getElem?_eq_getElem hi]; rfl
          exact ⟨(g.kids.getD i 0).toNat, by rw [hgi]; congr 1; omega, by omega, false, m, by rw [hs]; rfl⟩
        · cases hs
    · cases h
theorem subT_kid {ps : List Pv} {p : Nat} {g : Pv} {i kn : Nat} (hk : g.kids[i]? = some (kn : Int)) (hp : kn < p) : subT ps p g i = allT ps kn := by
  have h0 : g.kids.length ≠ 0 := fun e => by rw [List.length_eq_zero_iff.1 e] at hk; simp at hk
  have hd : g.kids.getD i 0 = kn := by rw [List.getD_eq_getElem?_getD, hk]; rfl
  unfold subT
  rw [if_neg h0, hd, if_pos (by omega), Int.toNat_natCast]
theorem subT_leaf {ps : List Pv} {p : Nat} {g : Pv} {i : Nat} (hk : g.kids.length = 0) : subT ps p g i = [] := by unfold subT; rw [if_pos hk]
set_option maxRecDepth 100000 in
set_option maxHeartbeats 1000000 in
theorem pgall_any (s : Ps) (q : Int) (w : World) : Calls Try.prog 37 #[.agg #[.slice s.pA s.pn s.pc, .slice s.rA s.rn s.rc], .int .i64 q] w fun e w' =>
    e = .returned (.func (.func 62) #[] #[.pointer (some ⟨w.heap.size, 0, none⟩), .pointer (some ⟨w.heap.size + 1, 0, none⟩)]) ∧ w'.heap[w.heap.size]? = some (.cells #[.slice s.pA s.pn s.pc, .slice s.rA s.rn s.rc] 25 (0, 0)) ∧ w'.heap[w.heap.size + 1]? = some (.cells #[.int .i64 q] 3 (0, 0)) ∧ Below w.heap.size w w' := by
  have hmf : ∀ (fn : Fn) (first cap : Array Value) (W : World), (Instr.makeFunc fn first cap).run Try.prog W = .ok (.func fn first cap) W := fun _ _ _ _ => rfl
  go_enter Try.func37, Try.ntmps37
  go_wp2_with fail
  go_ret
  refine ⟨rfl, (Below.heap_alloc _ _ _ (by simp)).trans (World.alloc_heap_new _ _), ?_, ((Below.refl _ w).alloc (Nat.le_refl _) _).alloc (by simp) _⟩
  have := World.alloc_heap_new (w.alloc (.cells #[.slice s.pA s.pn s.pc, .slice s.rA s.rn s.rc] 25)) (.cells #[.int .i64 q] 3)
  rwa [World.size_alloc] at this
end Go.Proofs.Ytpnfpdkoeednhaa

end

