/- PagesKept walked (printed by tools/gen147.py). -/
import Derived.Test.YtpnfpdkoeednhaaA35
import Derived.Deep.DeepCutAuto
namespace Go.Proofs.Ytpnfpdkoeednhaa
open Go.RowKit Go.Shelf Go.Sort

/-- The boxes of the pages and the fact. -/
structure KpA (s : Ps) (f : Fc) (n : Nat) (w0 w : World) : Prop where
  p : w.heap[n]? = some (.cells #[.slice s.pA s.pn s.pc, .slice s.rA s.rn s.rc] 25 (0, 0))
  f : w.heap[n + 1]? = some (.cells #[.int .i64 f.key.kind, .int .i64 f.key.subj, .int .i64 f.key.obj, .int .i64 f.val, .int .i64 f.fr, .int .i64 f.to, .int .i64 f.known, .int .i64 f.no] 31 (0, 0))
  below : Below w0.heap.size w0 w
theorem KpA.later {s : Ps} {f : Fc} {n : Nat} {w0 w w' : World} (h : KpA s f n w0 w) (hb : Below w.heap.size w w') : KpA s f n w0 w' :=
  ⟨(hb.block _ (lt_of_heap h.p)).trans h.p, (hb.block _ (lt_of_heap h.f)).trans h.f, h.below.trans (hb.mono h.below.size)⟩
/-- And of what Put hands back. -/
structure KpB (s x : Ps) (f : Fc) (n X : Nat) (w0 w : World) : Prop where
  a : KpA s f n w0 w
  box : w.heap[X]? = some (.cells #[.slice x.pA x.pn x.pc, .slice x.rA x.rn x.rc] 25 (0, 0))
  inn : PsIn s w w.heap.size
  res : PutRes (psV s) s.roots f x w
theorem KpB.later {s x : Ps} {f : Fc} {n X : Nat} {w0 w w' : World} (h : KpB s x f n X w0 w) (hb : Below w.heap.size w w') : KpB s x f n X w0 w' :=
  ⟨h.a.later hb, (hb.block _ (lt_of_heap h.box)).trans h.box, h.inn.later hb, h.res.later hb⟩
theorem good_lv {ps : List Pv} {p d : Nat} (h : GoodR ps p d) : d ≤ p + 1 :=
  walkP_lv ps (p + 1) p true [] (allT ps p) d (by omega) (walkP_iff.2 ⟨h.1, rfl, ChainP.of_none.2 ⟨h.2.1, h.2.2⟩⟩)
theorem put_len {ps : List Pv} {roots : List Int} {f : Fc} (h : putE ps roots f = 0) : (putPs ps roots f).length ≤ 3 * ps.length + 3 := by
  obtain ⟨h1, h2, h3⟩ := putE_zero.1 h
  obtain ⟨d, hG, _⟩ := last_good h1
  obtain ⟨new, d', e, _, hn, _⟩ := put_lawD hG h2 h3
  show (putW ps (lastR roots) f).1.length ≤ _
  rw [e, List.length_append]
  have := good_lv hG
  have := hG.1.lt
  omega
set_option maxRecDepth 100000 in
set_option maxHeartbeats 8000000 in
theorem keptP_any (s : Ps) (f : Fc) (v : Int) (w : World) (hps : PsIn s w w.heap.size) :
    Calls Try.prog 6 #[psVal s, .agg #[.int .i64 f.key.kind, .int .i64 f.key.subj, .int .i64 f.key.obj, .int .i64 f.val, .int .i64 f.fr, .int .i64 f.to, .int .i64 f.known, .int .i64 f.no], .int .i64 v] w fun e w' => e = .returned (.bool true) ∧ Below w.heap.size w w' := by
  obtain ⟨n, hn⟩ : ∃ n, w.heap.size = n := ⟨_, rfl⟩
  obtain ⟨V, hV⟩ : ∃ V, w.alloc (.cells #[.slice s.pA s.pn s.pc, .slice s.rA s.rn s.rc] 25) = V := ⟨_, rfl⟩
  obtain ⟨W, hW⟩ : ∃ W, V.alloc (.cells #[.int .i64 f.key.kind, .int .i64 f.key.subj, .int .i64 f.key.obj, .int .i64 f.val, .int .i64 f.fr, .int .i64 f.to, .int .i64 f.known, .int .i64 f.no] 31) = W := ⟨_, rfl⟩
  have c0 : Below w.heap.size w V := hV ▸ (Below.refl _ w).alloc (Nat.le_refl _) _
  have c1 : Below V.heap.size V W := hW ▸ (Below.refl _ V).alloc (Nat.le_refl _) _
  have z0 : V.heap.size = n + 1 := by rw [← hV]; simp [hn]
  have g0 : W.heap[n]? = some (.cells #[.slice s.pA s.pn s.pc, .slice s.rA s.rn s.rc] 25 (0, 0)) := (c1.block _ (by omega)).trans (by rw [← hV, ← hn]; exact World.alloc_heap_new _ _)
  have g1 : W.heap[n + 1]? = some (.cells #[.int .i64 f.key.kind, .int .i64 f.key.subj, .int .i64 f.key.obj, .int .i64 f.val, .int .i64 f.fr, .int .i64 f.to, .int .i64 f.known, .int .i64 f.no] 31 (0, 0)) := by rw [← hW, ← z0]; exact World.alloc_heap_new _ _
  have cW := c0.trans (c1.mono c0.size)
  have HPs : Hid (∀ W', Below W.heap.size W W' → PsIn s W' W'.heap.size) := fun W' h => hps.later (cW.trans (h.mono cW.size))
  have HK0 : Hid (KpA s f n w W) := ⟨g0, g1, cW⟩
  have hpc := hps.pages.2.1
  have hpc2 := hps.pages.2.2.1
  have hrc := hps.roots.2.1
  have hrc2 := hps.roots.2.2.1
  have HLs : Hid (s.pn = (psV s).length ∧ s.rn = s.roots.length) := ⟨by rw [psV_len]; exact hps.pages.1, hps.roots.1⟩
  have HPw := hidp hps
  clear c0 c1 cW g0 g1 hps
  go_enter Try.func6, Try.ntmps6
  go_wp2_with fail
  clear hV hW hn z0
  refine (sane_any W).mono ?_
  rintro e w1 ⟨rfl, hb1⟩
  have HB1 := hidp hb1
  have HK1 := hidp (HK0.out.later hb1)
  clear hb1
  have x0 := cell_of_heap (o := 0) HK1.out.p
  have x1 := cell_of_heap (o := 1) HK1.out.p
  have x2 := lt_of_heap HK1.out.p
  have f0 := cell_of_heap (o := 0) HK1.out.f
  have f1 := cell_of_heap (o := 1) HK1.out.f
  have f2 := cell_of_heap (o := 2) HK1.out.f
  have f3 := cell_of_heap (o := 3) HK1.out.f
  have f4 := cell_of_heap (o := 4) HK1.out.f
  have f5 := cell_of_heap (o := 5) HK1.out.f
  have f6 := cell_of_heap (o := 6) HK1.out.f
  have f7 := cell_of_heap (o := 7) HK1.out.f
  have f8 := lt_of_heap HK1.out.f
  simp only [List.getElem?_toArray, List.getElem?_cons_zero, List.getElem?_cons_succ] at x0 x1 f0 f1 f2 f3 f4 f5 f6 f7
  go_wp2_with fail
  refine (few_any s w1 (HPs.out _ HB1.out)).mono ?_
  rintro e w2 ⟨rfl, hb2⟩
  have HB2 := hidp (HB1.out.trans (hb2.mono HB1.out.size))
  have HK2 := hidp (HK1.out.later hb2)
  obtain ⟨few, hfew⟩ : ∃ f, fewP (psV s) s.roots = f := ⟨_, rfl⟩
  have HF := hidp hfew
  rw [hfew]
  clear x0 x1 x2 f0 f1 f2 f3 f4 f5 f6 f7 f8
  clear hb2 hfew
  have x0 := cell_of_heap (o := 0) HK2.out.p
  have x1 := cell_of_heap (o := 1) HK2.out.p
  have x2 := lt_of_heap HK2.out.p
  have f0 := cell_of_heap (o := 0) HK2.out.f
  have f1 := cell_of_heap (o := 1) HK2.out.f
  have f2 := cell_of_heap (o := 2) HK2.out.f
  have f3 := cell_of_heap (o := 3) HK2.out.f
  have f4 := cell_of_heap (o := 4) HK2.out.f
  have f5 := cell_of_heap (o := 5) HK2.out.f
  have f6 := cell_of_heap (o := 6) HK2.out.f
  have f7 := cell_of_heap (o := 7) HK2.out.f
  have f8 := lt_of_heap HK2.out.f
  simp only [List.getElem?_toArray, List.getElem?_cons_zero, List.getElem?_cons_succ] at x0 x1 f0 f1 f2 f3 f4 f5 f6 f7
  cases few
  · go_wp2_with fail
    go_ret
    exact ⟨rfl, HK2.out.below⟩
  have HSlim := hidp (few_slim HPw.out HF.out)
  have HLen : Hid (∀ v, (allV s v).length ≤ 1000000) := fun v => by
    rw [allV_eq]
    have := allB_len HF.out v
    omega
  go_wp2_with fail
  refine (put_any s f w2.heap.size w2 (HPs.out _ HB2.out) (Nat.le_refl _) HSlim.out.1 ⟨by have := HSlim.out.2.1; omega, by have := HSlim.out.2.2; omega⟩).mono ?_
  rintro e w3 ⟨x, rfl, hres, hb3, -⟩
  obtain ⟨pe, hpe⟩ : ∃ e, putE (psV s) s.roots f = e := ⟨_, rfl⟩
  have HPe := hidp hpe
  rw [hpe]
  have HB3 := hidp (HB2.out.trans (hb3.mono HB2.out.size))
  have HK3 := hidp (HK2.out.later hb3)
  obtain ⟨X, hX⟩ : ∃ X, w3.heap.size = X := ⟨_, rfl⟩
  obtain ⟨W3, hW3⟩ : ∃ W, w3.alloc (.cells #[.slice x.pA x.pn x.pc, .slice x.rA x.rn x.rc] 25) = W := ⟨_, rfl⟩
  have c3 : Below w3.heap.size w3 W3 := hW3 ▸ (Below.refl _ w3).alloc (Nat.le_refl _) _
  have g3 : W3.heap[X]? = some (.cells #[.slice x.pA x.pn x.pc, .slice x.rA x.rn x.rc] 25 (0, 0)) := by rw [← hW3, ← hX]; exact World.alloc_heap_new _ _
  have HK4 : Hid (KpB s x f n X w W3) := ⟨HK3.out.later c3, g3, HPs.out _ (HB3.out.trans (c3.mono HB3.out.size)), hres.later c3⟩
  clear x0 x1 x2 f0 f1 f2 f3 f4 f5 f6 f7 f8
  have hxc := hres.1.inn.pages.2.1
  have hxc2 := hres.1.inn.pages.2.2.1
  have hxr := hres.1.inn.roots.2.1
  have hxr2 := hres.1.inn.roots.2.2.1
  have HLx : Hid (x.pn = x.gs.length ∧ x.rn = x.roots.length) := ⟨hres.1.inn.pages.1, hres.1.inn.roots.1⟩
  clear hb3 hpe g3 c3 hres
  by_cases hp0 : pe = 0
  case neg =>
    have he0 : (pe != 0) = true := by simpa using hp0
    have hxp : x.pn = 0 := by rw [HLx.out.1, (HK4.out.res.2.2 (by rw [HPe.out]; exact hp0)).1]; rfl
    have hxq : x.rn = 0 := by rw [HLx.out.2, (HK4.out.res.2.2 (by rw [HPe.out]; exact hp0)).2]; rfl
    clear hp0
    have x0 := cell_of_heap (o := 0) HK4.out.a.p
    have x1 := cell_of_heap (o := 1) HK4.out.a.p
    have x2 := lt_of_heap HK4.out.a.p
    have f0 := cell_of_heap (o := 0) HK4.out.a.f
    have f1 := cell_of_heap (o := 1) HK4.out.a.f
    have f2 := cell_of_heap (o := 2) HK4.out.a.f
    have f3 := cell_of_heap (o := 3) HK4.out.a.f
    have f4 := cell_of_heap (o := 4) HK4.out.a.f
    have f5 := cell_of_heap (o := 5) HK4.out.a.f
    have f6 := cell_of_heap (o := 6) HK4.out.a.f
    have f7 := cell_of_heap (o := 7) HK4.out.a.f
    have f8 := lt_of_heap HK4.out.a.f
    simp only [List.getElem?_toArray, List.getElem?_cons_zero, List.getElem?_cons_succ] at x0 x1 f0 f1 f2 f3 f4 f5 f6 f7
    have y0 := cell_of_heap (o := 0) HK4.out.box
    have y1 := cell_of_heap (o := 1) HK4.out.box
    have y2 := lt_of_heap HK4.out.box
    simp only [List.getElem?_toArray, List.getElem?_cons_zero, List.getElem?_cons_succ] at y0 y1
    rw [hxp] at y0
    rw [hxq] at y1
    rw [hxp, hxq] at hW3
    go_wp2_with fail
    go_ret
    exact ⟨rfl, HK4.out.a.below⟩
  subst hp0
  have HQ : Hid (psV x = putPs (psV s) s.roots f ∧ x.roots = putRs (psV s) s.roots f) := HK4.out.res.2.1 HPe.out
  have HXs := hidp HK4.out.res.1.slim
  have HLenX : Hid (∀ v, (allV x v).length ≤ 1000000) := fun v => by
    rw [allV_eq, HQ.out.1, HQ.out.2]
    have := allB_len_put HF.out HPe.out v
    omega
  have hrx : Hid (x.rn = s.rn + 1) := by
    show _ = _
    rw [HLx.out.2, HQ.out.2, List.length_append, HLs.out.2]; rfl
  have x0 := cell_of_heap (o := 0) HK4.out.a.p
  have x1 := cell_of_heap (o := 1) HK4.out.a.p
  have x2 := lt_of_heap HK4.out.a.p
  have f0 := cell_of_heap (o := 0) HK4.out.a.f
  have f1 := cell_of_heap (o := 1) HK4.out.a.f
  have f2 := cell_of_heap (o := 2) HK4.out.a.f
  have f3 := cell_of_heap (o := 3) HK4.out.a.f
  have f4 := cell_of_heap (o := 4) HK4.out.a.f
  have f5 := cell_of_heap (o := 5) HK4.out.a.f
  have f6 := cell_of_heap (o := 6) HK4.out.a.f
  have f7 := cell_of_heap (o := 7) HK4.out.a.f
  have f8 := lt_of_heap HK4.out.a.f
  simp only [List.getElem?_toArray, List.getElem?_cons_zero, List.getElem?_cons_succ] at x0 x1 f0 f1 f2 f3 f4 f5 f6 f7
  have y0 := cell_of_heap (o := 0) HK4.out.box
  have y1 := cell_of_heap (o := 1) HK4.out.box
  have y2 := lt_of_heap HK4.out.box
  simp only [List.getElem?_toArray, List.getElem?_cons_zero, List.getElem?_cons_succ] at y0 y1
  go_wp2_with fail
  clear hW3 hX
  refine (begins_any s x W3 HK4.out.inn HK4.out.res.1.inn).mono ?_
  rintro e w5 ⟨rfl, hb5⟩
  rw [HQ.out.1, HQ.out.2, kept_beg HPe.out]
  have HK5 := hidp (HK4.out.later hb5)
  clear x0 x1 x2 f0 f1 f2 f3 f4 f5 f6 f7 f8 y0 y1 y2
  clear hb5
  have x0 := cell_of_heap (o := 0) HK5.out.a.p
  have x1 := cell_of_heap (o := 1) HK5.out.a.p
  have x2 := lt_of_heap HK5.out.a.p
  have f0 := cell_of_heap (o := 0) HK5.out.a.f
  have f1 := cell_of_heap (o := 1) HK5.out.a.f
  have f2 := cell_of_heap (o := 2) HK5.out.a.f
  have f3 := cell_of_heap (o := 3) HK5.out.a.f
  have f4 := cell_of_heap (o := 4) HK5.out.a.f
  have f5 := cell_of_heap (o := 5) HK5.out.a.f
  have f6 := cell_of_heap (o := 6) HK5.out.a.f
  have f7 := cell_of_heap (o := 7) HK5.out.a.f
  have f8 := lt_of_heap HK5.out.a.f
  simp only [List.getElem?_toArray, List.getElem?_cons_zero, List.getElem?_cons_succ] at x0 x1 f0 f1 f2 f3 f4 f5 f6 f7
  have y0 := cell_of_heap (o := 0) HK5.out.box
  have y1 := cell_of_heap (o := 1) HK5.out.box
  have y2 := lt_of_heap HK5.out.box
  simp only [List.getElem?_toArray, List.getElem?_cons_zero, List.getElem?_cons_succ] at y0 y1
  go_wp2_with fail
  refine (pgCheck_any x w5 HK5.out.res.1.inn HXs.out).mono ?_
  rintro e w6 ⟨rfl, hb6⟩
  rw [HQ.out.1, HQ.out.2, put_check HPe.out]
  rw [show errP true = 0 from rfl]
  have HK6 := hidp (HK5.out.later hb6)
  clear x0 x1 x2 f0 f1 f2 f3 f4 f5 f6 f7 f8 y0 y1 y2
  clear hb6
  have x0 := cell_of_heap (o := 0) HK6.out.a.p
  have x1 := cell_of_heap (o := 1) HK6.out.a.p
  have x2 := lt_of_heap HK6.out.a.p
  have f0 := cell_of_heap (o := 0) HK6.out.a.f
  have f1 := cell_of_heap (o := 1) HK6.out.a.f
  have f2 := cell_of_heap (o := 2) HK6.out.a.f
  have f3 := cell_of_heap (o := 3) HK6.out.a.f
  have f4 := cell_of_heap (o := 4) HK6.out.a.f
  have f5 := cell_of_heap (o := 5) HK6.out.a.f
  have f6 := cell_of_heap (o := 6) HK6.out.a.f
  have f7 := cell_of_heap (o := 7) HK6.out.a.f
  have f8 := lt_of_heap HK6.out.a.f
  simp only [List.getElem?_toArray, List.getElem?_cons_zero, List.getElem?_cons_succ] at x0 x1 f0 f1 f2 f3 f4 f5 f6 f7
  have y0 := cell_of_heap (o := 0) HK6.out.box
  have y1 := cell_of_heap (o := 1) HK6.out.box
  have y2 := lt_of_heap HK6.out.box
  simp only [List.getElem?_toArray, List.getElem?_cons_zero, List.getElem?_cons_succ] at y0 y1
  have hr1 : ((x.rn : Int) != (s.rn : Int) + 1) = false := by rw [hrx.out]; simp
  have hwr : IntKind.i64.wrap ((s.rn : Int) + 1) = (s.rn : Int) + 1 := IntWalk.i64_in _ (by have h1 := HSlim.out.2.2; have h2 := HLs.out.2; omega)
  go_wp2_with fail
  refine (pgAll_any s v w6 HK6.out.inn HSlim.out.1 (HLen.out v)).mono ?_
  rintro e w7 ⟨A1, n1, d1, rfl, hl1, hb7⟩
  have HK7 := hidp (HK6.out.later hb7)
  have HL1 := hidp hl1
  clear x0 x1 x2 f0 f1 f2 f3 f4 f5 f6 f7 f8 y0 y1 y2
  clear hb7 hl1
  have x0 := cell_of_heap (o := 0) HK7.out.a.p
  have x1 := cell_of_heap (o := 1) HK7.out.a.p
  have x2 := lt_of_heap HK7.out.a.p
  have f0 := cell_of_heap (o := 0) HK7.out.a.f
  have f1 := cell_of_heap (o := 1) HK7.out.a.f
  have f2 := cell_of_heap (o := 2) HK7.out.a.f
  have f3 := cell_of_heap (o := 3) HK7.out.a.f
  have f4 := cell_of_heap (o := 4) HK7.out.a.f
  have f5 := cell_of_heap (o := 5) HK7.out.a.f
  have f6 := cell_of_heap (o := 6) HK7.out.a.f
  have f7 := cell_of_heap (o := 7) HK7.out.a.f
  have f8 := lt_of_heap HK7.out.a.f
  simp only [List.getElem?_toArray, List.getElem?_cons_zero, List.getElem?_cons_succ] at x0 x1 f0 f1 f2 f3 f4 f5 f6 f7
  have y0 := cell_of_heap (o := 0) HK7.out.box
  have y1 := cell_of_heap (o := 1) HK7.out.box
  have y2 := lt_of_heap HK7.out.box
  simp only [List.getElem?_toArray, List.getElem?_cons_zero, List.getElem?_cons_succ] at y0 y1
  go_wp2_with fail
  refine (pgAll_any x v w7 HK7.out.res.1.inn HXs.out (HLenX.out v)).mono ?_
  rintro e w8 ⟨A2, n2, d2, rfl, hl2, hb8⟩
  have HK8 := hidp (HK7.out.later hb8)
  have HL2 := hidp hl2
  have HL1' := hidp (HL1.out.keep fStable hb8.size hb8.block)
  rw [verOk_eq s v, verOk_eq x v, HQ.out.1, HQ.out.2]
  clear x0 x1 x2 f0 f1 f2 f3 f4 f5 f6 f7 f8 y0 y1 y2
  clear hb8 hl2
  obtain ⟨g1, hg1⟩ : ∃ g, errP (verB (psV s) s.roots v) = g := ⟨_, rfl⟩
  obtain ⟨g2, hg2⟩ : ∃ g, errP (verB (putPs (psV s) s.roots f) (putRs (psV s) s.roots f) v) = g := ⟨_, rfl⟩
  have HG1 := hidp hg1
  have HG2 := hidp hg2
  rw [hg1, hg2]
  clear hg1 hg2
  go_upto_region 12 with fail
  go_cut [87] (fun s87 wx => s87 = .bool false ∧ Below w8.heap.size w8 wx)
  case first =>
    cases hv : verB (psV s) s.roots v with
    | false =>
      have hge : (g1 == 0) = false := by rw [← HG1.out, hv]; rfl
      clear hv
      go_wp2_with fail
      go_meet
      exact ⟨rfl, Below.refl _ _⟩
    | true =>
      obtain ⟨hv2, ha2⟩ := kept_all HPe.out hv
      have hge : (g1 == 0) = true := by rw [← HG1.out, hv]; rfl
      have hge2 : (g2 != 0) = false := by rw [← HG2.out, hv2]; rfl
      have HA2 := hidp ha2
      clear hv hv2 ha2
      go_wp2_with fail
      refine (fSame_any A1 A2 n1 n2 d1 d2 _ _ w8 HL1'.out HL2.out).mono ?_
      rintro e wz ⟨rfl, hbz⟩
      rw [show decide (allV s v = allV x v) = true by rw [allV_eq, allV_eq, HQ.out.1, HQ.out.2, HA2.out]; simp]
      go_wp2_with fail
      go_meet
      exact ⟨rfl, hbz⟩
  case rest =>
  rename World => w9
  obtain ⟨rfl, hb9⟩ := hcut
  have HK9 := hidp (HK8.out.later hb9)
  clear hb9
  have x0 := cell_of_heap (o := 0) HK9.out.a.p
  have x1 := cell_of_heap (o := 1) HK9.out.a.p
  have x2 := lt_of_heap HK9.out.a.p
  have f0 := cell_of_heap (o := 0) HK9.out.a.f
  have f1 := cell_of_heap (o := 1) HK9.out.a.f
  have f2 := cell_of_heap (o := 2) HK9.out.a.f
  have f3 := cell_of_heap (o := 3) HK9.out.a.f
  have f4 := cell_of_heap (o := 4) HK9.out.a.f
  have f5 := cell_of_heap (o := 5) HK9.out.a.f
  have f6 := cell_of_heap (o := 6) HK9.out.a.f
  have f7 := cell_of_heap (o := 7) HK9.out.a.f
  have f8 := lt_of_heap HK9.out.a.f
  simp only [List.getElem?_toArray, List.getElem?_cons_zero, List.getElem?_cons_succ] at x0 x1 f0 f1 f2 f3 f4 f5 f6 f7
  have y0 := cell_of_heap (o := 0) HK9.out.box
  have y1 := cell_of_heap (o := 1) HK9.out.box
  have y2 := lt_of_heap HK9.out.box
  simp only [List.getElem?_toArray, List.getElem?_cons_zero, List.getElem?_cons_succ] at y0 y1
  have hr0 : Hid (1 ≤ s.rn) := by
    show _ ≤ _
    obtain ⟨_, _, h, _⟩ := last_good (putE_zero.1 HPe.out).1
    have := HLs.out.2
    omega
  have hwm : IntKind.i64.wrap ((s.rn : Int) - 1) = ((s.roots.length - 1 : Nat) : Int) := by
    have h1 := HLs.out.2
    have h2 := hr0.out
    rw [show ((s.roots.length - 1 : Nat) : Int) = (s.rn : Int) - 1 by omega]
    exact IntWalk.i64_in _ (by omega)
  have hwx : IntKind.i64.wrap ((x.rn : Int) - 1) = ((s.roots.length : Nat) : Int) := by
    have h1 := HLs.out.2
    have h2 := hrx.out
    rw [show ((s.roots.length : Nat) : Int) = (x.rn : Int) - 1 by omega]
    exact IntWalk.i64_in _ (by omega)
  have HLast := hidp (kept_last HPe.out)
  go_wp2_with fail
  refine (pgAll_any s ((s.roots.length - 1 : Nat) : Int) w9 HK9.out.inn HSlim.out.1 (HLen.out _)).mono ?_
  rintro e wa ⟨A3, n3, d3, rfl, hl3, hba⟩
  have HKa := hidp (HK9.out.later hba)
  rw [verOk_eq, HLast.out.1, show errP true = 0 from rfl]
  obtain ⟨la, hla⟩ : ∃ l, allB (psV s) s.roots ((s.roots.length - 1 : Nat) : Int) = l := ⟨_, rfl⟩
  rw [allV_eq, hla] at hl3
  have HL3 := hidp hl3
  have HLa := hidp hla
  have h3c := hl3.2.1
  have h3c2 := hl3.2.2.1
  clear x0 x1 x2 f0 f1 f2 f3 f4 f5 f6 f7 f8 y0 y1 y2
  clear hba hl3 hla
  have x0 := cell_of_heap (o := 0) HKa.out.a.p
  have x1 := cell_of_heap (o := 1) HKa.out.a.p
  have x2 := lt_of_heap HKa.out.a.p
  have f0 := cell_of_heap (o := 0) HKa.out.a.f
  have f1 := cell_of_heap (o := 1) HKa.out.a.f
  have f2 := cell_of_heap (o := 2) HKa.out.a.f
  have f3 := cell_of_heap (o := 3) HKa.out.a.f
  have f4 := cell_of_heap (o := 4) HKa.out.a.f
  have f5 := cell_of_heap (o := 5) HKa.out.a.f
  have f6 := cell_of_heap (o := 6) HKa.out.a.f
  have f7 := cell_of_heap (o := 7) HKa.out.a.f
  have f8 := lt_of_heap HKa.out.a.f
  simp only [List.getElem?_toArray, List.getElem?_cons_zero, List.getElem?_cons_succ] at x0 x1 f0 f1 f2 f3 f4 f5 f6 f7
  have y0 := cell_of_heap (o := 0) HKa.out.box
  have y1 := cell_of_heap (o := 1) HKa.out.box
  have y2 := lt_of_heap HKa.out.box
  simp only [List.getElem?_toArray, List.getElem?_cons_zero, List.getElem?_cons_succ] at y0 y1
  go_wp2_with fail
  refine (pgAll_any x ((s.roots.length : Nat) : Int) wa HKa.out.res.1.inn HXs.out (HLenX.out _)).mono ?_
  rintro e wb ⟨A4, n4, d4, rfl, hl4, hbb⟩
  have HKb := hidp (HKa.out.later hbb)
  rw [verOk_eq, HQ.out.1, HQ.out.2, HLast.out.2.1, show errP true = 0 from rfl]
  obtain ⟨lb, hlb⟩ : ∃ l, allB (putPs (psV s) s.roots f) (putRs (psV s) s.roots f) ((s.roots.length : Nat) : Int) = l := ⟨_, rfl⟩
  rw [allV_eq, HQ.out.1, HQ.out.2, hlb] at hl4
  have HL4 : Hid (∀ W', Below wb.heap.size wb W' → fSl W' W'.heap.size A4 n4 d4 lb) := fun W' h => hl4.keep fStable h.size h.block
  have HL3' : Hid (∀ W', Below wb.heap.size wb W' → fSl W' W'.heap.size A3 n3 d3 la) := fun W' h => HL3.out.keep fStable (Nat.le_trans hbb.size h.size) (hbb.trans (h.mono hbb.size)).block
  obtain ⟨a, ha1, ha2, ha3, ha4, ha5, ha6⟩ := insR_step (l := la) (m := lb) (f := f) (by rw [← HLa.out, ← hlb]; exact HLast.out.2.2.1) (by rw [← HLa.out]; exact HLast.out.2.2.2)
  have HA : Hid (a ≤ n3 ∧ n4 = n3 + 1) := ⟨by have := HL3.out.1; omega, by have := HL3.out.1; have := hl4.1; omega⟩
  have HIn : Hid ((∀ k, k < a → lb[k]? = la[k]?) ∧ lb[a]? = some f ∧ f ∉ la ∧ ∀ k, a < k → lb[k]? = la[k - 1]?) := ⟨ha3, ha4, ha5, ha6⟩
  have h4c := hl4.2.1
  have h4c2 := hl4.2.2.1
  have hw3 : IntKind.i64.wrap ((n3 : Int) + 1) = (n3 : Int) + 1 := IntWalk.i64_in _ (by have := HA.out.2; omega)
  have hn4 : ((n4 : Int) != (n3 : Int) + 1) = false := by rw [HA.out.2]; simp
  clear x0 x1 x2 f0 f1 f2 f3 f4 f5 f6 f7 f8 y0 y1 y2
  clear hbb hl4 hlb ha1 ha2 ha3 ha4 ha5 ha6
  go_wp2_with fail
  clear hr1 hwr hwm hwx hw3 hn4
  go_loopw [17, 18, 19] (fun s17 s18 s19 wr => ∃ k : Nat, k ≤ n4 ∧ s17 = .int .i64 (nK a k : Nat) ∧ s18 = .bool (mK a k) ∧ s19 = .int .i64 k ∧ Below wb.heap.size wb wr) (fun _ _ s19 _ => n4 - (intOf s19).toNat)
  case atStart => exact ⟨0, by omega, by rw [(nK_zero a).1]; rfl, by rw [(nK_zero a).2], rfl, Below.refl _ _⟩
  case round =>
  obtain ⟨k, hk, rfl, rfl, rfl, hbw⟩ := hrel
  have HBw := hidp hbw
  have HKw := hidp (HKb.out.later hbw)
  clear hbw
  by_cases hkn : k < n4
  · have hkn' : (k : Int) < n4 := by omega
    obtain ⟨b4, o4, z, hA4, _, hz, c0, c1, c2, c3, c4, c5, c6, c7⟩ := fSl.get (HL4.out _ HBw.out) hkn
    have hix4 := fun W => ix_FactsP (c := d4) hA4 hkn W
    have m4 := lt_of_cell c0
    have HZ := hidp hz
    have hwk : IntKind.i64.wrap ((k : Int) + 1) = (k : Int) + 1 := IntWalk.i64_in _ (by omega)
    clear hz hA4
    by_cases hka : k = a
    · have HE := hidp hka
      obtain rfl : z = f := Option.some.inj (HZ.out.symm.trans (by rw [hka]; exact HIn.out.2.1))
      have e1 : nK a k = a ∧ mK a k = false ∧ nK a (k + 1) = a ∧ mK a (k + 1) = true := by rw [hka]; exact nK_at a
      rw [e1.1, e1.2.1]
      have HN := hidp e1.2.2
      have hff := fun W => f_eql z z W
      rw [decide_eq_true (rfl : z = z)] at hff
      clear hka e1
      go_upto_region 22 with fail
      go_cut [140] (fun s140 wx => s140 = .bool false ∧ Below wr.heap.size wr wx)
      case first =>
        by_cases han : a < n3
        · have han' : (a : Int) < n3 := by omega
          have hdn : decide ((a : Int) < (n3 : Int)) = true := decide_eq_true han'
          obtain ⟨b3, o3, y, hA3, _, hy, e0, e1, e2, e3, e4, e5, e6, e7⟩ := fSl.get (HL3'.out _ HBw.out) han
          have hix3 := fun W => ix_FactsP (c := d3) hA3 han W
          have m3 := lt_of_cell e0
          have hne : decide (z = y) = false := decide_eq_false fun e => HIn.out.2.2.1 (by rw [e]; exact List.mem_of_getElem? hy)
          have hfe := fun W => f_eql z y W
          rw [hne] at hfe
          clear hy hA3 hne hff
          go_quiet (fail)
          have hbn := below_drewN (Below.refl wr.heap.size wr) nq
          generalize wr.drewN nq = wn at hbn ⊢
          go_wp2_with fail
          go_meet
          exact ⟨rfl, hbn⟩
        · have han' : ¬ ((a : Int) < n3) := by omega
          have hdn : decide ((a : Int) < (n3 : Int)) = false := decide_eq_false han'
          clear hff
          go_quiet (fail)
          have hbn := below_drewN (Below.refl wr.heap.size wr) nq
          generalize wr.drewN nq = wn at hbn ⊢
          go_wp2_with fail
          go_meet
          exact ⟨rfl, hbn⟩
      case rest =>
      obtain ⟨rfl, hbn⟩ := hcut
      rename World => wn
      have HBn := hidp (HBw.out.trans (hbn.mono HBw.out.size))
      have HKn := hidp (HKb.out.later HBn.out)
      clear hbn c0 c1 c2 c3 c4 c5 c6 c7 m4 hix4
      obtain ⟨b4, o4, z4, hA4, _, hz, c0, c1, c2, c3, c4, c5, c6, c7⟩ := fSl.get (HL4.out _ HBn.out) hkn
      obtain rfl : z4 = z := Option.some.inj (hz.symm.trans HZ.out)
      have hix4 := fun W => ix_FactsP (c := d4) hA4 hkn W
      have m4 := lt_of_cell c0
      clear hz hA4
      have x0 := cell_of_heap (o := 0) HKn.out.a.p
      have x1 := cell_of_heap (o := 1) HKn.out.a.p
      have x2 := lt_of_heap HKn.out.a.p
      have f0 := cell_of_heap (o := 0) HKn.out.a.f
      have f1 := cell_of_heap (o := 1) HKn.out.a.f
      have f2 := cell_of_heap (o := 2) HKn.out.a.f
      have f3 := cell_of_heap (o := 3) HKn.out.a.f
      have f4 := cell_of_heap (o := 4) HKn.out.a.f
      have f5 := cell_of_heap (o := 5) HKn.out.a.f
      have f6 := cell_of_heap (o := 6) HKn.out.a.f
      have f7 := cell_of_heap (o := 7) HKn.out.a.f
      have f8 := lt_of_heap HKn.out.a.f
      simp only [List.getElem?_toArray, List.getElem?_cons_zero, List.getElem?_cons_succ] at x0 x1 f0 f1 f2 f3 f4 f5 f6 f7
      go_wp2_with fail
      go_quiet (fail)
      have hbn := HBn.out.trans ((below_drewN (Below.refl wn.heap.size wn) nq).mono HBn.out.size)
      generalize wn.drewN nq = wm at hbn ⊢
      go_wp2_with fail
      go_roundw
      case rel => exact ⟨k + 1, by omega, by rw [HN.out.1], by rw [HN.out.2], by go_num, hbn⟩
      case measure => simp [intOf]; omega
    · obtain ⟨j, HJ⟩ : ∃ j, Hid (nK a k = j ∧ nK a (k + 1) = j + 1 ∧ mK a (k + 1) = mK a k ∧ j < n3 ∧ lb[k]? = la[j]?) := by
        rcases Nat.lt_or_ge k a with h | h
        · obtain ⟨h1, h2, h3, h4⟩ := nK_lt h
          exact ⟨k, h1, h3, by rw [h4, h2], by have := HA.out.1; omega, HIn.out.1 k h⟩
        · have h' : a < k := by omega
          obtain ⟨h1, h2, h3, h4⟩ := nK_gt h'
          exact ⟨k - 1, h1, h3, by rw [h4, h2], by have := HA.out.2; omega, HIn.out.2.2.2 k h'⟩
      have hjn := HJ.out.2.2.2.1
      have hjn' : (j : Int) < n3 := by omega
      have hdn : decide ((j : Int) < (n3 : Int)) = true := decide_eq_true hjn'
      rw [HJ.out.1]
      obtain ⟨mk, hmk⟩ : ∃ b, mK a k = b := ⟨_, rfl⟩
      rw [hmk]
      have HM : Hid (mK a (k + 1) = mk) := hidp (HJ.out.2.2.1.trans hmk)
      clear hmk
      obtain ⟨b3, o3, y, hA3, _, hy, e0, e1, e2, e3, e4, e5, e6, e7⟩ := fSl.get (HL3'.out _ HBw.out) hjn
      have hix3 := fun W => ix_FactsP (c := d3) hA3 hjn W
      have m3 := lt_of_cell e0
      obtain rfl : y = z := Option.some.inj (hy.symm.trans (HJ.out.2.2.2.2.symm.trans HZ.out))
      have hfe := fun W => f_eql y y W
      rw [decide_eq_true (rfl : y = y)] at hfe
      have hwj : IntKind.i64.wrap ((j : Int) + 1) = (j : Int) + 1 := IntWalk.i64_in _ (by omega)
      clear hy hA3 hka
      go_wp2_with fail
      go_quiet (fail)
      have hbn := HBw.out.trans ((below_drewN (Below.refl wr.heap.size wr) nq).mono HBw.out.size)
      generalize wr.drewN nq = wm at hbn ⊢
      go_wp2_with fail
      go_roundw
      case rel => exact ⟨k + 1, by omega, by rw [HJ.out.2.1]; go_num, by rw [HM.out], by go_num, hbn⟩
      case measure => simp [intOf]; omega
  · have hkn' : ¬ ((k : Int) < n4) := by omega
    have hend : nK a k = n3 ∧ mK a k = true := by
      have h1 := HA.out.1
      have h2 := HA.out.2
      obtain ⟨h3, h4, _⟩ := nK_gt (a := a) (k := k) (by omega)
      exact ⟨by rw [h3]; omega, h4⟩
    rw [hend.1, hend.2]
    clear hend
    have x0 := cell_of_heap (o := 0) HKw.out.a.p
    have x1 := cell_of_heap (o := 1) HKw.out.a.p
    have x2 := lt_of_heap HKw.out.a.p
    have f0 := cell_of_heap (o := 0) HKw.out.a.f
    have f1 := cell_of_heap (o := 1) HKw.out.a.f
    have f2 := cell_of_heap (o := 2) HKw.out.a.f
    have f3 := cell_of_heap (o := 3) HKw.out.a.f
    have f4 := cell_of_heap (o := 4) HKw.out.a.f
    have f5 := cell_of_heap (o := 5) HKw.out.a.f
    have f6 := cell_of_heap (o := 6) HKw.out.a.f
    have f7 := cell_of_heap (o := 7) HKw.out.a.f
    have f8 := lt_of_heap HKw.out.a.f
    simp only [List.getElem?_toArray, List.getElem?_cons_zero, List.getElem?_cons_succ] at x0 x1 f0 f1 f2 f3 f4 f5 f6 f7
    have y0 := cell_of_heap (o := 0) HKw.out.box
    have y1 := cell_of_heap (o := 1) HKw.out.box
    have y2 := lt_of_heap HKw.out.box
    simp only [List.getElem?_toArray, List.getElem?_cons_zero, List.getElem?_cons_succ] at y0 y1
    go_wp2_with fail
    refine (put_any x f wr.heap.size wr HKw.out.res.1.inn (Nat.le_refl _) HXs.out ?_).mono ?_
    · have h1 := put_len HPe.out
      have h2 := HSlim.out.2.1
      have h3 := HSlim.out.2.2
      rw [← HQ.out.1, psV_len, psV_len] at h1
      refine ⟨by omega, ?_⟩
      rw [HQ.out.2, List.length_append, List.length_singleton]; omega
    rintro e wz ⟨x2, rfl, -, hbz, -⟩
    rw [HQ.out.1, HQ.out.2, kept_twice HPe.out]
    have HBz := hidp (HKw.out.a.below.trans (hbz.mono HKw.out.a.below.size))
    have hbz2 := hidp hbz.size
    clear hbz
    go_wp2_with fail
    go_ret
    exact ⟨rfl, HBz.out.alloc HBz.out.size _⟩
end Go.Proofs.Ytpnfpdkoeednhaa
