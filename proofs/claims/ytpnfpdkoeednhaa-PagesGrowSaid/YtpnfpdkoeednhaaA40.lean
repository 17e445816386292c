/- PagesGrow walked (printed by tools/gen152.py). -/
import Derived.Test.YtpnfpdkoeednhaaA36
import Derived.Test.YtpnfpdkoeednhaaA39
namespace Go.Proofs.Ytpnfpdkoeednhaa
open Go.RowKit Go.Shelf Go.Sort

set_option maxRecDepth 100000 in
set_option maxHeartbeats 8000000 in
theorem growP_any (s : Ps) (f : Fc) (w : World) (hps : PsIn s w w.heap.size) :
    Calls Try.prog 7 #[psVal s, .agg #[.int .i64 f.key.kind, .int .i64 f.key.subj, .int .i64 f.key.obj, .int .i64 f.val, .int .i64 f.fr, .int .i64 f.to, .int .i64 f.known, .int .i64 f.no]] w fun e w' => e = .returned (.bool true) ∧ Below w.heap.size w w' := by
  obtain ⟨n, hn⟩ : ∃ n, w.heap.size = n := ⟨_, rfl⟩
  obtain ⟨V, hV⟩ : ∃ V, w.alloc (.cells #[.slice s.pA s.pn s.pc, .slice s.rA s.rn s.rc] 25) = V := ⟨_, rfl⟩
  obtain ⟨W, hW⟩ : ∃ W, V.alloc (.cells #[.int .i64 f.key.kind, .int .i64 f.key.subj, .int .i64 f.key.obj, .int .i64 f.val, .int .i64 f.fr, .int .i64 f.to, .int .i64 f.known, .int .i64 f.no] 31) = W := ⟨_, rfl⟩
  have c0 : Below w.heap.size w V := hV ▸ (Below.refl _ w).alloc (Nat.le_refl _) _
  have c1 : Below V.heap.size V W := hW ▸ (Below.refl _ V).alloc (Nat.le_refl _) _
  have z0 : V.heap.size = n + 1 := by rw [← hV]; simp [hn]
  have g0 : W.heap[n]? = some (.cells #[.slice s.pA s.pn s.pc, .slice s.rA s.rn s.rc] 25 (0, 0)) := (c1.block _ (by omega)).trans (by rw [← hV, ← hn]; exact World.alloc_heap_new _ _)
  have g1 : W.heap[n + 1]? = some (.cells #[.int .i64 f.key.kind, .int .i64 f.key.subj, .int .i64 f.key.obj, .int .i64 f.val, .int .i64 f.fr, .int .i64 f.to, .int .i64 f.known, .int .i64 f.no] 31 (0, 0)) := by rw [← hW, ← z0]; exact World.alloc_heap_new _ _
  have cW := c0.trans (c1.mono c0.size)
  have HPs : Hid (∀ W', Below W.heap.size W W' → PsIn s W' W'.heap.size) := fun W' h => hps.later (cW.trans (h.mono cW.size))
  have HK0 : Hid (KpA s f n w W) := ⟨g0, g1, cW⟩
  have hpc := hps.pages.2.1
  have hpc2 := hps.pages.2.2.1
  have hrc := hps.roots.2.1
  have hrc2 := hps.roots.2.2.1
  have HLs : Hid (s.pn = (psV s).length ∧ s.rn = s.roots.length) := ⟨by rw [psV_len]; exact hps.pages.1, hps.roots.1⟩
  have HPw := hidp hps
  clear c0 c1 cW g0 g1 hps
  go_enter Try.func7, Try.ntmps7
  go_wp2_with fail
  clear hV hW hn z0
  refine (sane_any W).mono ?_
  rintro e w1 ⟨rfl, hb1⟩
  have HB1 := hidp hb1
  have HK1 := hidp (HK0.out.later hb1)
  clear hb1
  have x0 := cell_of_heap (o := 0) HK1.out.p
  have x1 := cell_of_heap (o := 1) HK1.out.p
  have x2 := lt_of_heap HK1.out.p
  have f0 := cell_of_heap (o := 0) HK1.out.f
  have f1 := cell_of_heap (o := 1) HK1.out.f
  have f2 := cell_of_heap (o := 2) HK1.out.f
  have f3 := cell_of_heap (o := 3) HK1.out.f
  have f4 := cell_of_heap (o := 4) HK1.out.f
  have f5 := cell_of_heap (o := 5) HK1.out.f
  have f6 := cell_of_heap (o := 6) HK1.out.f
  have f7 := cell_of_heap (o := 7) HK1.out.f
  have f8 := lt_of_heap HK1.out.f
  simp only [List.getElem?_toArray, List.getElem?_cons_zero, List.getElem?_cons_succ] at x0 x1 f0 f1 f2 f3 f4 f5 f6 f7
  go_wp2_with fail
  refine (few_any s w1 (HPs.out _ HB1.out)).mono ?_
  rintro e w2 ⟨rfl, hb2⟩
  have HB2 := hidp (HB1.out.trans (hb2.mono HB1.out.size))
  have HK2 := hidp (HK1.out.later hb2)
  obtain ⟨few, hfew⟩ : ∃ f, fewP (psV s) s.roots = f := ⟨_, rfl⟩
  have HF := hidp hfew
  rw [hfew]
  clear x0 x1 x2 f0 f1 f2 f3 f4 f5 f6 f7 f8
  clear hb2 hfew
  have x0 := cell_of_heap (o := 0) HK2.out.p
  have x1 := cell_of_heap (o := 1) HK2.out.p
  have x2 := lt_of_heap HK2.out.p
  have f0 := cell_of_heap (o := 0) HK2.out.f
  have f1 := cell_of_heap (o := 1) HK2.out.f
  have f2 := cell_of_heap (o := 2) HK2.out.f
  have f3 := cell_of_heap (o := 3) HK2.out.f
  have f4 := cell_of_heap (o := 4) HK2.out.f
  have f5 := cell_of_heap (o := 5) HK2.out.f
  have f6 := cell_of_heap (o := 6) HK2.out.f
  have f7 := cell_of_heap (o := 7) HK2.out.f
  have f8 := lt_of_heap HK2.out.f
  simp only [List.getElem?_toArray, List.getElem?_cons_zero, List.getElem?_cons_succ] at x0 x1 f0 f1 f2 f3 f4 f5 f6 f7
  cases few
  · go_wp2_with fail
    go_ret
    exact ⟨rfl, HK2.out.below⟩
  have HSlim := hidp (few_slim HPw.out HF.out)
  have HLen : Hid (∀ v, (allV s v).length ≤ 1000000) := fun v => by
    rw [allV_eq]
    have := allB_len HF.out v
    omega
  go_wp2_with fail
  refine (put_any s f w2.heap.size w2 (HPs.out _ HB2.out) (Nat.le_refl _) HSlim.out.1 ⟨by have := HSlim.out.2.1; omega, by have := HSlim.out.2.2; omega⟩).mono ?_
  rintro e w3 ⟨x, rfl, hres, hb3, -⟩
  obtain ⟨pe, hpe⟩ : ∃ e, putE (psV s) s.roots f = e := ⟨_, rfl⟩
  have HPe := hidp hpe
  rw [hpe]
  have HB3 := hidp (HB2.out.trans (hb3.mono HB2.out.size))
  have HK3 := hidp (HK2.out.later hb3)
  obtain ⟨X, hX⟩ : ∃ X, w3.heap.size = X := ⟨_, rfl⟩
  obtain ⟨W3, hW3⟩ : ∃ W, w3.alloc (.cells #[.slice x.pA x.pn x.pc, .slice x.rA x.rn x.rc] 25) = W := ⟨_, rfl⟩
  have c3 : Below w3.heap.size w3 W3 := hW3 ▸ (Below.refl _ w3).alloc (Nat.le_refl _) _
  have g3 : W3.heap[X]? = some (.cells #[.slice x.pA x.pn x.pc, .slice x.rA x.rn x.rc] 25 (0, 0)) := by rw [← hW3, ← hX]; exact World.alloc_heap_new _ _
  have HK4 : Hid (KpB s x f n X w W3) := ⟨HK3.out.later c3, g3, HPs.out _ (HB3.out.trans (c3.mono HB3.out.size)), hres.later c3⟩
  clear x0 x1 x2 f0 f1 f2 f3 f4 f5 f6 f7 f8
  have hxc := hres.1.inn.pages.2.1
  have hxc2 := hres.1.inn.pages.2.2.1
  have hxr := hres.1.inn.roots.2.1
  have hxr2 := hres.1.inn.roots.2.2.1
  have HLx : Hid (x.pn = x.gs.length ∧ x.rn = x.roots.length) := ⟨hres.1.inn.pages.1, hres.1.inn.roots.1⟩
  clear hb3 hpe g3 c3 hres
  by_cases hp0 : pe = 0
  case neg =>
    have he0 : (pe != 0) = true := by simpa using hp0
    clear hp0
    go_wp2_with fail
    go_ret
    exact ⟨rfl, HK4.out.a.below⟩
  subst hp0
  have HQ : Hid (psV x = putPs (psV s) s.roots f ∧ x.roots = putRs (psV s) s.roots f) := HK4.out.res.2.1 HPe.out
  have HXs := hidp HK4.out.res.1.slim
  have hrx : Hid (x.rn = s.rn + 1) := by
    show _ = _
    rw [HLx.out.2, HQ.out.2, List.length_append, HLs.out.2]; rfl
  obtain ⟨d, nm, hG, hnm, hn1, hn2, hver, hlen, htail⟩ := grow_law HPe.out
  have HG := hidp hG
  have hd : d ≤ 201 := by
    have h1 := (good_lvG hG).2
    have h2 := hG.1.lt
    rw [psV_len] at h2
    have := HSlim.out.2.1
    omega
  have HPn : Hid (x.pn = s.pn + nm ∧ s.pn ≤ 200) := by
    have h1 := HLs.out.1
    have h2 := HLx.out.1
    rw [← psV_len, HQ.out.1] at h2
    refine ⟨by omega, ?_⟩
    rw [h1, psV_len]
    exact HSlim.out.2.1
  have HVer := hidp hver
  obtain ⟨rl, hrl⟩ : ∃ l, reachB (putPs (psV s) s.roots f) (putRs (psV s) s.roots f) (s.roots.length : Nat) = l := ⟨_, rfl⟩
  have HRl := hidp hrl
  rw [hrl] at hlen htail
  have HTail := hidp htail
  have HRv : Hid (reachV x ((s.roots.length : Nat) : Int) = rl) := by
    show _ = _
    rw [reachV_eq, HQ.out.1, HQ.out.2]; exact HRl.out
  have HRlen : Hid (rl.length ≤ 1000000) := by
    show _ ≤ _
    have h1 := reachB_len (ps := putPs (psV s) s.roots f) (roots := putRs (psV s) s.roots f) (v := ((s.roots.length : Nat) : Int))
    have h2 := HLx.out.1
    rw [← psV_len, HQ.out.1] at h2
    have := HPn.out
    rw [HRl.out] at h1
    omega
  have hwm : IntKind.i64.wrap ((x.pn : Int) - (s.pn : Int)) = (nm : Int) := by
    have := HPn.out
    rw [show (x.pn : Int) - (s.pn : Int) = (nm : Int) by omega]
    exact IntWalk.i64_in _ (by omega)
  have hwx : IntKind.i64.wrap ((x.rn : Int) - 1) = ((s.roots.length : Nat) : Int) := by
    have h1 := HLs.out.2
    have h2 := hrx.out
    have := HSlim.out.2.2
    rw [show ((s.roots.length : Nat) : Int) = (x.rn : Int) - 1 by omega]
    exact IntWalk.i64_in _ (by omega)
  clear hG hnm hver hrl htail
  have x0 := cell_of_heap (o := 0) HK4.out.a.p
  have x1 := cell_of_heap (o := 1) HK4.out.a.p
  have x2 := lt_of_heap HK4.out.a.p
  have f0 := cell_of_heap (o := 0) HK4.out.a.f
  have f1 := cell_of_heap (o := 1) HK4.out.a.f
  have f2 := cell_of_heap (o := 2) HK4.out.a.f
  have f3 := cell_of_heap (o := 3) HK4.out.a.f
  have f4 := cell_of_heap (o := 4) HK4.out.a.f
  have f5 := cell_of_heap (o := 5) HK4.out.a.f
  have f6 := cell_of_heap (o := 6) HK4.out.a.f
  have f7 := cell_of_heap (o := 7) HK4.out.a.f
  have f8 := lt_of_heap HK4.out.a.f
  simp only [List.getElem?_toArray, List.getElem?_cons_zero, List.getElem?_cons_succ] at x0 x1 f0 f1 f2 f3 f4 f5 f6 f7
  have y0 := cell_of_heap (o := 0) HK4.out.box
  have y1 := cell_of_heap (o := 1) HK4.out.box
  have y2 := lt_of_heap HK4.out.box
  simp only [List.getElem?_toArray, List.getElem?_cons_zero, List.getElem?_cons_succ] at y0 y1
  go_wp2_with fail
  clear hW3 hX
  refine (pgReach_any x ((s.roots.length : Nat) : Int) W3 HK4.out.res.1.inn HXs.out (by rw [HRv.out]; exact HRlen.out)).mono ?_
  rintro e w5 ⟨A5, n5, d5, rfl, hr5, hb5⟩
  rw [verOk_eq, HQ.out.1, HQ.out.2, HVer.out, show errP true = 0 from rfl]
  rw [HRv.out] at hr5
  have HK5 := hidp (HK4.out.later hb5)
  have HR5 : Hid (∀ W', Below w5.heap.size w5 W' → iSl W' W'.heap.size A5 n5 d5 rl) := fun W' h => hr5.keep (Rep.flat_stable _) h.size h.block
  have HN5 := hidp hr5.1
  have h5c := hr5.2.1
  have h5c2 := hr5.2.2.1
  clear x0 x1 x2 f0 f1 f2 f3 f4 f5 f6 f7 f8 y0 y1 y2
  clear hb5 hr5
  have x0 := cell_of_heap (o := 0) HK5.out.a.p
  have x1 := cell_of_heap (o := 1) HK5.out.a.p
  have x2 := lt_of_heap HK5.out.a.p
  have f0 := cell_of_heap (o := 0) HK5.out.a.f
  have f1 := cell_of_heap (o := 1) HK5.out.a.f
  have f2 := cell_of_heap (o := 2) HK5.out.a.f
  have f3 := cell_of_heap (o := 3) HK5.out.a.f
  have f4 := cell_of_heap (o := 4) HK5.out.a.f
  have f5 := cell_of_heap (o := 5) HK5.out.a.f
  have f6 := cell_of_heap (o := 6) HK5.out.a.f
  have f7 := cell_of_heap (o := 7) HK5.out.a.f
  have f8 := lt_of_heap HK5.out.a.f
  simp only [List.getElem?_toArray, List.getElem?_cons_zero, List.getElem?_cons_succ] at x0 x1 f0 f1 f2 f3 f4 f5 f6 f7
  have y0 := cell_of_heap (o := 0) HK5.out.box
  have y1 := cell_of_heap (o := 1) HK5.out.box
  have y2 := lt_of_heap HK5.out.box
  simp only [List.getElem?_toArray, List.getElem?_cons_zero, List.getElem?_cons_succ] at y0 y1
  have hm1 : ¬ ((nm : Int) < 1) := by omega
  go_wp2_with fail
  refine (r47Levels_any s d w5 HK5.out.inn HSlim.out.1 (few_sum HF.out) (putE_zero.1 HPe.out).1 HG.out).mono ?_
  rintro e w6 ⟨rfl, hb6⟩
  have HK6 := hidp (HK5.out.later hb6)
  have HB6 := hidp hb6
  clear x0 x1 x2 f0 f1 f2 f3 f4 f5 f6 f7 f8 y0 y1 y2
  clear hb6
  have x0 := cell_of_heap (o := 0) HK6.out.a.p
  have x1 := cell_of_heap (o := 1) HK6.out.a.p
  have x2 := lt_of_heap HK6.out.a.p
  have f0 := cell_of_heap (o := 0) HK6.out.a.f
  have f1 := cell_of_heap (o := 1) HK6.out.a.f
  have f2 := cell_of_heap (o := 2) HK6.out.a.f
  have f3 := cell_of_heap (o := 3) HK6.out.a.f
  have f4 := cell_of_heap (o := 4) HK6.out.a.f
  have f5 := cell_of_heap (o := 5) HK6.out.a.f
  have f6 := cell_of_heap (o := 6) HK6.out.a.f
  have f7 := cell_of_heap (o := 7) HK6.out.a.f
  have f8 := lt_of_heap HK6.out.a.f
  simp only [List.getElem?_toArray, List.getElem?_cons_zero, List.getElem?_cons_succ] at x0 x1 f0 f1 f2 f3 f4 f5 f6 f7
  have y0 := cell_of_heap (o := 0) HK6.out.box
  have y1 := cell_of_heap (o := 1) HK6.out.box
  have y2 := lt_of_heap HK6.out.box
  simp only [List.getElem?_toArray, List.getElem?_cons_zero, List.getElem?_cons_succ] at y0 y1
  have hw2 : IntKind.i64.wrap (2 * (d : Int)) = 2 * (d : Int) := IntWalk.i64_in _ (by omega)
  have hw3 : IntKind.i64.wrap (2 * (d : Int) + 1) = 2 * (d : Int) + 1 := IntWalk.i64_in _ (by omega)
  have hm2 : ¬ (2 * (d : Int) + 1 < (nm : Int)) := by omega
  have hm3 : ¬ ((n5 : Int) < (nm : Int)) := by have := HN5.out; omega
  go_wp2_with fail
  clear x0 x1 x2 f0 f1 f2 f3 f4 f5 f6 f7 f8 y0 y1 y2
  clear hw2 hw3 hm1 hm2 hm3 hwm hwx
  go_loopw [10] (fun s10 wr => ∃ i : Nat, i ≤ nm ∧ s10 = .int .i64 i ∧ Below w6.heap.size w6 wr) (fun s10 _ => nm - (intOf s10).toNat)
  case atStart => exact ⟨0, by omega, rfl, Below.refl _ _⟩
  case round =>
  obtain ⟨i, hi, rfl, hbw⟩ := hrel
  have HKw := hidp (HK6.out.later hbw)
  by_cases hin : i < nm
  case neg =>
    have hin' : ¬ ((i : Int) < nm) := by omega
    go_wp2_with fail
    go_ret
    exact ⟨rfl, HKw.out.a.below⟩
  have hin' : (i : Int) < nm := by omega
  obtain ⟨k, HKk⟩ : ∃ k, Hid (k = n5 - 1 - i) := ⟨_, rfl⟩
  have hkn : k < n5 := by have := HKk.out; have := HN5.out; omega
  obtain ⟨b5, o5, z, hA5, _, hz, c0⟩ := iSl.get (HR5.out wr (HB6.out.trans (hbw.mono HB6.out.size))) hkn
  have hix := fun W => ix_intsP (c := d5) hA5 hkn W
  have lz := lt_of_cell c0
  have hzv : z = (x.pn : Int) - 1 - i := by
    have h1 := HTail.out i hin
    rw [show rl.length - 1 - i = k by have := HKk.out; have := HN5.out; omega, hz] at h1
    have h2 := HLx.out.1
    rw [← psV_len, HQ.out.1] at h2
    have h3 := Option.some.inj h1
    omega
  have hne : (z != (x.pn : Int) - 1 - i) = false := by rw [hzv]; simp
  have hwa : IntKind.i64.wrap ((n5 : Int) - 1) = (n5 : Int) - 1 := IntWalk.i64_in _ (by omega)
  have hwb : IntKind.i64.wrap ((n5 : Int) - 1 - (i : Int)) = (k : Int) := by
    have := HKk.out
    rw [show (n5 : Int) - 1 - (i : Int) = (k : Int) by omega]
    exact IntWalk.i64_in _ (by omega)
  have hwc : IntKind.i64.wrap ((x.pn : Int) - 1) = (x.pn : Int) - 1 := IntWalk.i64_in _ (by have := HPn.out; omega)
  have hwd : IntKind.i64.wrap ((x.pn : Int) - 1 - (i : Int)) = (x.pn : Int) - 1 - (i : Int) := IntWalk.i64_in _ (by have := HPn.out; omega)
  have hwi : IntKind.i64.wrap ((i : Int) + 1) = (i : Int) + 1 := IntWalk.i64_in _ (by omega)
  have y0 := cell_of_heap (o := 0) HKw.out.box
  have y1 := cell_of_heap (o := 1) HKw.out.box
  have y2 := lt_of_heap HKw.out.box
  simp only [List.getElem?_toArray, List.getElem?_cons_zero, List.getElem?_cons_succ] at y0 y1
  have HBn := hidp hbw
  clear hz hA5 hzv hbw
  go_wp2_with fail
  go_quiet (fail)
  have hbn := HBn.out.trans ((below_drewN (Below.refl wr.heap.size wr) nq).mono HBn.out.size)
  generalize wr.drewN nq = wn at hbn ⊢
  go_wp2_with fail
  go_roundw
  case rel => exact ⟨i + 1, by omega, by go_num, hbn⟩
  case measure => simp [intOf]; omega
end Go.Proofs.Ytpnfpdkoeednhaa
