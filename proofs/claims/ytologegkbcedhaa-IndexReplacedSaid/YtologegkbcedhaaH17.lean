/- IndexReplaced walked. Regions printed by tools/gen62.py. -/
import Derived.Test.YtologegkbcedhaaH12
import Derived.Test.YtologegkbcedhaaClip
namespace Go.Proofs.Ytologegkbcedhaa
open Go.RowKit Go.Shelf

theorem allTo_mem (ds : List (List Rd)) (n : Nat) (x : Lk) : x ∈ allTo ds n ↔ ∃ i : Nat, i < n ∧ x.2 = (i : Int) ∧ x.1 ∈ ds.getD i [] := by
  unfold allTo
  simp only [List.mem_flatMap, List.mem_range, linksOf, List.mem_map]
  constructor
  · rintro ⟨i, hi, r, hr, rfl⟩; exact ⟨i, hi, rfl, hr⟩
  · rintro ⟨i, hi, h1, h2⟩; exact ⟨i, hi, x.1, h2, by rw [← h1]⟩
theorem repl_build {ds : List (List Rd)} {k : Nat} (hk : k < ds.length) (rs : List Rd) : replL (buildL ds) k rs = buildL (ds.set k rs) := by
  refine ordOf_congr linL fun x => ?_
  rw [List.length_set, List.mem_append, List.mem_filter, buildL, ordL, ordOf_mem, allTo_mem, allTo_mem, linksOf, List.mem_map]
  have hg : ∀ i, (ds.set k rs).getD i [] = if i = k then rs else ds.getD i [] := fun i => by
    rw [List.getD_eq_getElem?_getD, List.getD_eq_getElem?_getD, List.getElem?_set]
    by_cases h : k = i
    · subst h; simp [hk]
    · simp [h, Ne.symm h]
  constructor
  · rintro (⟨⟨i, hi, h1, h2⟩, h3⟩ | ⟨r, hr, rfl⟩)
    · refine ⟨i, hi, h1, ?_⟩
      rw [hg, if_neg]
      · exact h2
      · rintro rfl; simp [h1] at h3
    · exact ⟨k, hk, rfl, by rw [hg, if_pos rfl]; exact hr⟩
  · rintro ⟨i, hi, h1, h2⟩
    rw [hg] at h2
    by_cases h : i = k
    · subst h
      rw [if_pos rfl] at h2
      exact .inr ⟨x.1, h2, by rw [← h1]⟩
    · rw [if_neg h] at h2
      refine .inl ⟨⟨i, hi, h1, h2⟩, ?_⟩
      simp only [decide_eq_true_iff]
      rw [h1]
      omega
theorem allTo_set_len (ds : List (List Rd)) (k : Nat) (rs : List Rd) : ∀ n, (allTo (ds.set k rs) n).length ≤ (allTo ds n).length + if k < n then rs.length else 0
  | 0 => by simp [allTo]
  | n + 1 => by
    have ih := allTo_set_len ds k rs n
    have hs : ∀ ds : List (List Rd), (allTo ds (n + 1)).length = (allTo ds n).length + (ds.getD n []).length := fun ds => by
      unfold allTo
      rw [List.range_succ, List.flatMap_append, List.length_append]
      simp [linksOf]
    rw [hs, hs]
    have hg : ((ds.set k rs).getD n []).length ≤ (ds.getD n []).length + if k = n then rs.length else 0 := by
      rw [List.getD_eq_getElem?_getD, List.getD_eq_getElem?_getD, List.getElem?_set]
      by_cases h : k = n
      · subst h
        by_cases h2 : k < ds.length <;> simp [h2]
      · simp [h]
    by_cases h : k = n
    · subst h
      simp at ih hg ⊢
      omega
    · rw [if_neg h] at hg
      by_cases h2 : k < n
      · rw [if_pos h2] at ih
        rw [if_pos (by omega)]
        omega
      · rw [if_neg h2] at ih
        rw [if_neg (by omega)]
        omega
theorem fewD_bd2 {l : List De} (h : fewD l = true) : l.length ≤ 12 ∧ (allTo (l.map (·.2)) l.length).length ≤ 60 := by
  simpa [fewD] using h
theorem deInfo : (Try.prog.info? 35).map (fun i => (i.zero, i.size, i.bytes)) = some (some (.agg #[.int .i64 0, .int .i64 0, .int .i64 0, .int .i64 0, .int .i64 0, .int .i64 0, .int .i64 0, .slice none 0 0, .slice none 0 0, .slice none 0 0]), 10, 128) := by kernel_rfl
theorem mod_at {z : Int} (hz : 0 ≤ z) {n : Nat} (hn : 0 < n) : ∃ i : Nat, i < n ∧ z.tmod n = (i : Int) := by
  refine ⟨(z.tmod n).toNat, ?_, ?_⟩
  · have h1 := Int.tmod_lt_of_pos z (show (0 : Int) < n by omega)
    have h2 := Int.tmod_nonneg (n : Int) hz
    omega
  · have h2 := Int.tmod_nonneg (n : Int) hz
    omega

theorem hBDd_box {w0 wa wb : World} {b : Nat} {o : Obj} (h : w0.heap[b]? = some o) (h1 : Below w0.heap.size w0 wa) (h2 : Below wa.heap.size wa wb) : wb.heap[b]? = some o :=
  (h2.block _ (Nat.lt_of_lt_of_le (lt_of_heap h) h1.size)).trans ((h1.block _ (lt_of_heap h)).trans h)
def ReplacedCalls : Prop := ∀ (A : Option Addr) (n c : Nat) (l : List De) (z : Int) (d : DeV) (rs : List Rd) (w : World), deSl w w.heap.size A n c l → (∀ x ∈ l, x.1.rn ≤ 70368744177664) → 0 ≤ z → RdSl w w.heap.size d.rA d.rn d.rc rs →
  Calls Try.prog 7 #[.slice A n c, .int .u64 z, .agg #[.int .i64 d.q0, .int .i64 d.q1, .int .i64 d.q2, .int .i64 d.q3, .int .i64 d.an, .int .i64 d.la, .int .i64 d.kn, .slice d.wA d.wn d.wc, .slice d.rA d.rn d.rc, .slice d.mA d.mn d.mc]] w fun e w' => e = .returned (.bool true) ∧ Below w.heap.size w w'
set_option maxRecDepth 100000 in
set_option maxHeartbeats 8000000 in
theorem replaced_calls : ReplacedCalls := by
  intro A n c l z d rs w hl hB hz0 hrs
  obtain ⟨i0, hi, hzz, hs, hbb⟩ := info_parts deInfo
  have HL := hidp hl
  have HN := hidp hl.1
  have HRS := hidp hrs
  have hcap := hl.2.2.1
  have hlen := hl.2.1
  obtain ⟨W0, hW0⟩ : ∃ W0, w.alloc (.cells #[.int .i64 d.q0, .int .i64 d.q1, .int .i64 d.q2, .int .i64 d.q3, .int .i64 d.an, .int .i64 d.la, .int .i64 d.kn, .slice d.wA d.wn d.wc, .slice d.rA d.rn d.rc, .slice d.mA d.mn d.mc] 35) = W0 := ⟨_, rfl⟩
  have hBW : Below w.heap.size w W0 := by rw [← hW0]; exact (Below.refl _ w).alloc (Nat.le_refl _) _
  have g0 : W0.heap[w.heap.size]? = some (.cells #[.int .i64 d.q0, .int .i64 d.q1, .int .i64 d.q2, .int .i64 d.q3, .int .i64 d.an, .int .i64 d.la, .int .i64 d.kn, .slice d.wA d.wn d.wc, .slice d.rA d.rn d.rc, .slice d.mA d.mn d.mc] 35 (0, 0)) := by rw [← hW0]; exact World.alloc_heap_new _ _
  have hz1 : W0.heap.size = w.heap.size + 1 := by rw [← hW0]; simp
  have HW0 := hidp hW0
  have G0 := hidp g0
  have HBW := hidp hBW
  clear hW0 g0 hBW hl hrs
  go_enter Try.func7, Try.ntmps7
  go_wp2_with fail
  rw [HW0.out]
  refine (sane35_any W0).mono ?_
  rintro e w1 ⟨rfl, hb1⟩
  have hl1 := HL.out.keep deStable (HBW.out.trans (hb1.mono HBW.out.size)).size (HBW.out.trans (hb1.mono HBW.out.size)).block
  go_wp2_with fail
  refine (qFew_any A n c l w1 hl1 hB).mono ?_
  rintro e w2 ⟨rfl, hb2⟩
  have hBD : Below W0.heap.size W0 w2 := hb1.trans (hb2.mono hb1.size)
  have hB2 : Below w.heap.size w w2 := HBW.out.trans (hBD.mono HBW.out.size)
  have hd2 := (hBD.block _ (lt_of_heap G0.out)).trans G0.out
  have e8 := cell_of_heap (o := 8) hd2
  simp only [List.getElem?_toArray, List.getElem?_cons_zero, List.getElem?_cons_succ] at e8
  have l2 := lt_of_cell e8
  obtain ⟨zf, hzf⟩ : ∃ z, fewD l = z := ⟨_, rfl⟩
  rw [hzf]
  cases zf
  · clear hl1 hd2
    go_wp2_with fail
    go_ret
    exact ⟨rfl, hB2⟩
  rcases Nat.lt_or_ge 30 d.rn with h30 | h30
  · have hd3 : decide ((30 : Int) < (d.rn : Int)) = true := by simpa using (by omega : (30 : Int) < (d.rn : Int))
    clear hl1 hd2
    go_wp2_with fail
    go_ret
    exact ⟨rfl, hB2⟩
  have hd3 : decide ((30 : Int) < (d.rn : Int)) = false := by simpa using (by omega : (d.rn : Int) ≤ 30)
  rcases Nat.eq_zero_or_pos n with h0 | h0
  · subst h0
    clear hl1 hd2
    go_wp2_with fail
    go_ret
    exact ⟨rfl, hB2⟩
  obtain ⟨h12, h60⟩ := fewD_bd2 hzf
  rw [← HN.out] at h12
  have h60' : (allTo (l.map (·.2)) n).length ≤ 60 := by rw [HN.out]; exact h60
  have hne : ((n : Int) == 0) = false := by simp; omega
  have hnz : ¬ (n : Int) = 0 := by omega
  obtain ⟨k, hk, hmod⟩ := mod_at hz0 h0
  have hwu : IntKind.u64.wrap (n : Int) = n := IntWalk.u64_in _ ⟨by omega, by omega⟩
  have hwi : IntKind.i64.wrap (k : Int) = k := IntWalk.i64_in _ (by omega)
  have hkn : (k : Int) < n := by omega
  obtain ⟨bl, ol, x, rfl, hbl, hzx, hrx, q0, q1, q2, q3, q4, q5, q6, q7, q8, q9⟩ := deSl.get HL.out hk
  have HZX := hidp hzx
  have hQ : ∀ W, Below w.heap.size w W → (W.cell? ⟨bl, ol + k * 10, none⟩ = some (.int .i64 x.1.q0) ∧ W.cell? ⟨bl, ol + k * 10 + 1, none⟩ = some (.int .i64 x.1.q1) ∧ W.cell? ⟨bl, ol + k * 10 + 2, none⟩ = some (.int .i64 x.1.q2) ∧ W.cell? ⟨bl, ol + k * 10 + 3, none⟩ = some (.int .i64 x.1.q3) ∧ W.cell? ⟨bl, ol + k * 10 + 4, none⟩ = some (.int .i64 x.1.an) ∧ W.cell? ⟨bl, ol + k * 10 + 5, none⟩ = some (.int .i64 x.1.la) ∧ W.cell? ⟨bl, ol + k * 10 + 6, none⟩ = some (.int .i64 x.1.kn) ∧ W.cell? ⟨bl, ol + k * 10 + 7, none⟩ = some (.slice x.1.wA x.1.wn x.1.wc) ∧ W.cell? ⟨bl, ol + k * 10 + 8, none⟩ = some (.slice x.1.rA x.1.rn x.1.rc) ∧ W.cell? ⟨bl, ol + k * 10 + 9, none⟩ = some (.slice x.1.mA x.1.mn x.1.mc)) ∧ bl < W.heap.size ∧ RdSl W W.heap.size x.1.rA x.1.rn x.1.rc x.2 := fun W hW => by
    have hc := (bcell hW).1
    exact ⟨⟨by rw [hc _ _ hbl]; exact q0, by rw [hc _ _ hbl]; exact q1, by rw [hc _ _ hbl]; exact q2, by rw [hc _ _ hbl]; exact q3, by rw [hc _ _ hbl]; exact q4, by rw [hc _ _ hbl]; exact q5, by rw [hc _ _ hbl]; exact q6, by rw [hc _ _ hbl]; exact q7, by rw [hc _ _ hbl]; exact q8, by rw [hc _ _ hbl]; exact q9⟩, Nat.lt_of_lt_of_le hbl hW.size, hrx.keep rdStable hW.size hW.block⟩
  have HQ := hidp hQ
  have hxr : x.1.rn ≤ 60 := by
    have h1 := allTo_mono (l.map (·.2)) (show k + 1 ≤ n by omega)
    rw [allTo_step (de_reads hzx), List.length_append] at h1
    simp only [linksOf, List.length_map] at h1
    have := hrx.1
    omega
  clear hQ q0 q1 q2 q3 q4 q5 q6 q7 q8 q9 hrx
  -- m := append([]Decision{}, l...)
  have hl2 := hl1.keep deStable hb2.size hb2.block
  obtain ⟨hlf, hlr⟩ := deSl.flat hl2
  have HLR := hidp hlr
  obtain ⟨wa, hwa⟩ : ∃ wa, w2.alloc (.cells #[] 35) = wa := ⟨_, rfl⟩
  have hown0 : wa.ownsRow w2.heap.size 35 10 (.slice (some ⟨w2.heap.size, 0, none⟩) 0 0) 0 (([] : List DeV).flatMap DeV.enc) := by rw [← hwa]; exact World.ownsRow_made w2 #[] 0 (Nat.le_refl _) (by decide) (by simp)
  have hba : Below w2.heap.size w2 wa := by rw [← hwa]; exact (Below.refl _ w2).alloc (Nat.le_refl _) _
  obtain ⟨v', wb, hrun, hown1, hg1, hat1⟩ := run_append_rows (P := Try.prog) (ty := 22) (enc := DeV.enc) Try.underlying22 hi hzz hs hbb rfl deEnc_len (by decide) deEnc_one hown0 (hlf.keep (Rep.flat_stable _) hba.size hba.block) (by omega) (by omega) hba.size
  simp only [List.nil_append, Nat.zero_add] at hown1
  have hbb2 : Below w2.heap.size w2 wb := hba.grown hg1 hba.size (fun g hg => by have := (hown0.lt g hg).1; exact this)
  obtain ⟨G, cm, rfl⟩ : ∃ G cm, v' = .slice (some ⟨G, 0, none⟩) n cm := by
    rcases hown1.2 with ⟨_, hv⟩ | ⟨g, cap, _, hv, _⟩
    · exfalso
      have := hown1.1
      rw [hv] at this
      simp at this
      omega
    · exact ⟨g, cap, hv⟩
  obtain ⟨cs', hh, hl', hgG, hown2⟩ := own_put deEnc_len hown1 (by decide) hk d
  have HWA := hidp hwa
  have HRUN := hidp hrun
  have HO2 := hidp hown2
  have HBB2 := hidp hbb2
  have e0b := (hbb2.block _ (by omega)).trans hd2
  have HDB := hidp e0b
  have x0 := cell_of_heap (o := 0) e0b
  have x1 := cell_of_heap (o := 1) e0b
  have x2 := cell_of_heap (o := 2) e0b
  have x3 := cell_of_heap (o := 3) e0b
  have x4 := cell_of_heap (o := 4) e0b
  have x5 := cell_of_heap (o := 5) e0b
  have x6 := cell_of_heap (o := 6) e0b
  have x7 := cell_of_heap (o := 7) e0b
  have x8 := cell_of_heap (o := 8) e0b
  have x9 := cell_of_heap (o := 9) e0b
  simp only [List.getElem?_toArray, List.getElem?_cons_zero, List.getElem?_cons_succ] at x0 x1 x2 x3 x4 x5 x6 x7 x8 x9
  have lxb := lt_of_cell x0
  obtain ⟨wc, hwc⟩ : ∃ wc, wb.setRow G (putAt cs' (k * 10) d.enc) = wc := ⟨_, rfl⟩
  have hbc : Below w2.heap.size w2 wc := by rw [← hwc]; exact below_setRow hbb2 hgG _
  rw [hwc] at hown2
  have HWC := hidp hwc
  have HBC := hidp hbc
  have HO3 := hidp hown2
  clear hl1 hd2 hwa hown0 hrun hown1 hg1 hat1 hown2 hlf hl2 hzf hlr hba e0b hwc hbc hbb2 HO2
  go_wp2_with (first | (at_builtin; refine wpList_append_known rfl (.tmp 33) (.tmp 34) 22 rfl rfl rfl (by rw [HWA.out]; exact HRUN.out) ?_) | (refine wpList_store_at (vs := d.enc) 35 (.tmp 39) (.tmp 38) rfl rfl rfl rfl hh (by rw [hi]; simp [hs, deEnc_len]) hl' (deEnc_one d) ?_))
  rw [HWC.out]
  clear x0 x1 x2 x3 x4 x5 x6 x7 x8 x9
  have hBC : Below w.heap.size w wc := hB2.trans (HBC.out.mono hB2.size)
  refine (xBuild_any _ n c l wc (HL.out.keep deStable hBC.size hBC.block) (by omega) (by omega)).mono ?_
  rintro e w3 ⟨A3, n3, c3, rfl, r3, hb3⟩
  have h3n : n3 ≤ 60 := by have h1 := r3.1; have h2 := ordOf_len (lt := ltL) (allTo (l.map (·.2)) (l.map (·.2)).length); have h3 := HN.out; rw [buildL, ordL] at h1; simp only [List.length_map] at h1 h2; rw [← h3] at h1 h2; omega
  have HR3 := hidp r3
  obtain ⟨wd, hwd⟩ : ∃ wd, w3.alloc (.cells #[.slice A3 n3 c3] 28) = wd := ⟨_, rfl⟩
  have gd : wd.heap[w3.heap.size]? = some (.cells #[.slice A3 n3 c3] 28 (0, 0)) := by rw [← hwd]; exact World.alloc_heap_new _ _
  have hbd : Below w3.heap.size w3 wd := by rw [← hwd]; exact (Below.refl _ w3).alloc (Nat.le_refl _) _
  have hcd : Below wc.heap.size wc wd := hb3.trans (hbd.mono hb3.size)
  have h2d : Below w2.heap.size w2 wd := HBC.out.trans (hcd.mono HBC.out.size)
  have hBDd : Below w.heap.size w wd := hB2.trans (h2d.mono hB2.size)
  have hdd := hBDd_box G0.out hBD (HBC.out.trans (hb3.mono HBC.out.size))
  have y0 := cell_of_heap (o := 0) hdd
  have y1 := cell_of_heap (o := 1) hdd
  have y2 := cell_of_heap (o := 2) hdd
  have y3 := cell_of_heap (o := 3) hdd
  have y4 := cell_of_heap (o := 4) hdd
  have y5 := cell_of_heap (o := 5) hdd
  have y6 := cell_of_heap (o := 6) hdd
  have y7 := cell_of_heap (o := 7) hdd
  have y8 := cell_of_heap (o := 8) hdd
  have y9 := cell_of_heap (o := 9) hdd
  have d9 := cell_of_heap (o := 0) gd
  simp only [List.getElem?_toArray, List.getElem?_cons_zero, List.getElem?_cons_succ] at y0 y1 y2 y3 y4 y5 y6 y7 y8 y9 d9
  have ld9 := lt_of_cell d9
  have lyd := lt_of_cell y0
  have HWD := hidp hwd
  have HGD := hidp gd
  have HR3d := hidp (r3.keep lStable hbd.size hbd.block)
  have HRSd := hidp (HRS.out.keep rdStable hBDd.size hBDd.block)
  have HBDd := hidp hBDd
  have Hcd := hidp hcd
  clear hwd gd hbd hcd r3 hb3 hdd hBDd
  go_wp2_with fail
  rw [HWD.out]
  go_wp2_with fail
  refine (xReplace_any A3 n3 c3 _ k d rs wd HR3d.out HRSd.out (by omega) (by omega)).mono ?_
  rintro e w4 ⟨A4, n4, c4, rfl, r4, hb4⟩
  rw [repl_build (by rw [List.length_map, ← HN.out]; exact hk)] at r4
  have h4n : n4 ≤ 90 := by
    have h1 := r4.1
    have h2 := ordOf_len (lt := ltL) (allTo ((l.map (·.2)).set k rs) ((l.map (·.2)).set k rs).length)
    have h3 := HN.out
    have h5 := allTo_set_len (l.map (·.2)) k rs n
    have h6 := HRS.out.1
    rw [buildL, ordL] at h1
    simp only [List.length_set, List.length_map] at h1 h2
    rw [← h3] at h1 h2
    split at h5 <;> omega
  obtain ⟨we, hwe⟩ : ∃ we, w4.alloc (.cells #[.slice A4 n4 c4] 28) = we := ⟨_, rfl⟩
  have ge : we.heap[w4.heap.size]? = some (.cells #[.slice A4 n4 c4] 28 (0, 0)) := by rw [← hwe]; exact World.alloc_heap_new _ _
  have hbe : Below w4.heap.size w4 we := by rw [← hwe]; exact (Below.refl _ w4).alloc (Nat.le_refl _) _
  have hde : Below wd.heap.size wd we := hb4.trans (hbe.mono hb4.size)
  have r4e := r4.keep lStable hbe.size hbe.block
  have r3e := HR3d.out.keep lStable hde.size hde.block
  have hge := (hde.block _ (lt_of_heap HGD.out)).trans HGD.out
  have hce : Below wc.heap.size wc we := Hcd.out.trans (hde.mono Hcd.out.size)
  have hBe : Below w.heap.size w we := HBDd.out.trans (hde.mono HBDd.out.size)
  have hM : ∀ W, Below we.heap.size we W → (W.cell? ⟨w3.heap.size, 0, none⟩ = some (.slice A3 n3 c3) ∧ w3.heap.size < W.heap.size ∧ W.cell? ⟨w4.heap.size, 0, none⟩ = some (.slice A4 n4 c4) ∧ w4.heap.size < W.heap.size) ∧ lSl W W.heap.size A3 n3 c3 (buildL (l.map (·.2))) ∧ lSl W W.heap.size A4 n4 c4 (buildL ((l.map (·.2)).set k rs)) ∧ deSl W W.heap.size (some ⟨G, 0, none⟩) n cm (l.set k (d, rs)) ∧ Below w.heap.size w W := fun W hW => by
    have hwW : Below w.heap.size w W := hBe.trans (hW.mono hBe.size)
    have hcW : Below wc.heap.size wc W := hce.trans (hW.mono hce.size)
    have k3 := (hW.block _ (lt_of_heap hge)).trans hge
    have k4 := (hW.block _ (lt_of_heap ge)).trans ge
    refine ⟨⟨cell_of_heap k3, lt_of_heap k3, cell_of_heap k4, lt_of_heap k4⟩, r3e.keep lStable hW.size hW.block, r4e.keep lStable hW.size hW.block, ?_, hwW⟩
    have ho := own_stable _ _ _ _ _ _ _ _ hcW HO3.out
    obtain ⟨A7, c7, hA7, r7⟩ := own_rows deEnc_len (by decide) ho
    injection hA7 with q1 q2 q3
    subst q1 q3
    refine deSl_of_flat (by rw [List.map_set]; exact r7) fun y hy => ?_
    rcases List.mem_or_eq_of_mem_set hy with h | h
    · exact (deSl.flat (HL.out.keep deStable hwW.size hwW.block)).2 y h
    · subst h
      exact HRS.out.keep rdStable hwW.size hwW.block
  have hset : Hid (((l.map (·.2)).set k rs).set k x.2 = l.map (·.2)) := by
    show _ = _
    rw [List.set_set]
    obtain ⟨h1, h2⟩ := List.getElem?_eq_some_iff.1 (de_reads HZX.out)
    rw [← h2]
    exact List.set_getElem_self h1
  have hset2 : Hid ((l.map (·.2)).set k x.2 = l.map (·.2)) := by
    show _ = _
    obtain ⟨h1, h2⟩ := List.getElem?_eq_some_iff.1 (de_reads HZX.out)
    rw [← h2]
    exact List.set_getElem_self h1
  have hms : Hid ((l.set k (d, rs)).map (·.2) = (l.map (·.2)).set k rs) := List.map_set
  have hTm : (allTo ((l.set k (d, rs)).map (·.2)) n).length ≤ 1000000 := by
    rw [hms.out]
    have h5 := allTo_set_len (l.map (·.2)) k rs n
    have h6 := HRS.out.1
    split at h5 <;> omega
  have hkl : k < (l.map (·.2)).length := by rw [List.length_map, ← HN.out]; exact hk
  have HM := hidp hM
  have HWE := hidp hwe
  have HBe := hidp hBe
  have HTm := hidp hTm
  have HKL := hidp hkl
  clear hwe ge hbe hde r4 r4e r3e hge hce hBe hM hb4 hTm hkl y0 y1 y2 y3 y4 y5 y6 y7 y8 y9 d9
  go_wp2_with fail
  rw [HWE.out]
  go_wp2_with fail
  refine wp_region_S we.heap.size 27 (fun _ => false) (Nat.le_refl _) (by kernel_rfl) (by kernel_rfl) (by kernel_rfl) ?_
  dsimp only [List.take, List.drop]
  apply relS_det (mask := []) (x := .agg #[.slice A4 n4 c4])
  · rfl
  · kernel_rfl
  · kernel_rfl
  · dsimp only [oblS]
    rintro w9 h9
    obtain ⟨⟨m0, m1, m2, m3⟩, ml3, ml4, mm, mw⟩ := HM.out w9 h9
    go_simp
    exact ⟨Below.refl _ _, rfl⟩
  dsimp only [List.nil_append, List.cons_append]
  apply relS_det (mask := [false])
  · rfl
  · kernel_rfl
  · kernel_rfl
  · dsimp only [oblS]
    rintro w9 h9
    go_simp
    exact ⟨Below.refl _ _, rfl⟩
  dsimp only [List.nil_append, List.cons_append]
  apply relS_any (mask := [false, true]) (T := IxT (buildL ((l.map (·.2)).set k rs))) (hT := IxT_stable _)
  · rfl
  · kernel_rfl
  · kernel_rfl
  · dsimp only [oblS]
    rintro w9 h9 T' hT'
    obtain ⟨⟨m0, m1, m2, m3⟩, ml3, ml4, mm, mw⟩ := HM.out w9 h9
    go_simp
    refine (xBuild_any _ n cm _ w9 mm (by omega) HTm.out).mono ?_
    rintro e w6 ⟨A6, n6, c6, rfl, h1, h2⟩
    rw [hms.out] at h1
    exact ⟨_, rfl, h2, hT' _ _ ⟨A6, n6, c6, rfl, h1⟩⟩
  dsimp only [List.nil_append, List.cons_append]
  apply relS_det (mask := [true, false, true]) (x := .bool true)
  · rfl
  · kernel_rfl
  · kernel_rfl
  · dsimp only [oblS]
    intro v48
    rintro w9 ⟨h9, t48⟩
    obtain ⟨⟨m0, m1, m2, m3⟩, ml3, ml4, mm, mw⟩ := HM.out w9 h9
    obtain ⟨Aa, na, ca, rfl, h1⟩ := t48
    go_simp
    refine (qSame_any A4 Aa n4 na c4 ca _ _ w9 ml4 h1).mono ?_
    rintro e w6 ⟨rfl, hb6⟩
    exact ⟨_, rfl, hb6, by rw [decide_eq_true rfl]; rfl⟩
  dsimp only [List.nil_append, List.cons_append]
  apply relS_det (mask := [false, false, false, true])
  · rfl
  · kernel_rfl
  · kernel_rfl
  · dsimp only [oblS]
    rintro w9 h9
    go_simp
    exact ⟨Below.refl _ _, rfl⟩
  dsimp only [List.nil_append, List.cons_append]
  apply relS_detg (mask := [false, false, false, false, true]) (t := 50) (want := true) (x := .agg #[.slice A4 n4 c4])
  · rfl
  · kernel_rfl
  · kernel_rfl
  · dsimp only [oblS]
    refine ⟨by rfl, ?_⟩
    rintro w9 h9
    obtain ⟨⟨m0, m1, m2, m3⟩, ml3, ml4, mm, mw⟩ := HM.out w9 h9
    go_simp
    exact ⟨Below.refl _ _, rfl⟩
  dsimp only [List.nil_append, List.cons_append]
  apply relS_detg (mask := [false, false, false, false, true, false]) (t := 50) (want := true)
  · rfl
  · kernel_rfl
  · kernel_rfl
  · dsimp only [oblS]
    refine ⟨by rfl, ?_⟩
    rintro w9 h9
    go_simp
    exact ⟨Below.refl _ _, rfl⟩
  dsimp only [List.nil_append, List.cons_append]
  apply relS_detg (mask := [false, false, false, false, true, false, false]) (t := 50) (want := true)
  · rfl
  · kernel_rfl
  · kernel_rfl
  · dsimp only [oblS]
    refine ⟨by rfl, ?_⟩
    rintro w9 h9
    go_simp
    exact ⟨Below.refl _ _, rfl⟩
  dsimp only [List.nil_append, List.cons_append]
  apply relS_detg (mask := [false, false, false, false, true, false, false, false]) (t := 50) (want := true)
  · rfl
  · kernel_rfl
  · kernel_rfl
  · dsimp only [oblS]
    refine ⟨by rfl, ?_⟩
    rintro w9 h9
    go_simp
    exact ⟨Below.refl _ _, rfl⟩
  dsimp only [List.nil_append, List.cons_append]
  apply relS_detg (mask := [false, false, false, false, true, false, false, true, true]) (t := 50) (want := true) (x := .pointer (some ⟨bl, ol + k * 10, none⟩))
  · rfl
  · kernel_rfl
  · kernel_rfl
  · dsimp only [oblS]
    refine ⟨by rfl, ?_⟩
    rintro w9 h9
    obtain ⟨⟨m0, m1, m2, m3⟩, ml3, ml4, mm, mw⟩ := HM.out w9 h9
    go_simp
    exact ⟨Below.refl _ _, rfl⟩
  dsimp only [List.nil_append, List.cons_append]
  apply relS_detg (mask := [false, false, false, false, true, false, false, false, false, true]) (t := 50) (want := true) (x := .agg #[.int .i64 x.1.q0, .int .i64 x.1.q1, .int .i64 x.1.q2, .int .i64 x.1.q3, .int .i64 x.1.an, .int .i64 x.1.la, .int .i64 x.1.kn, .slice x.1.wA x.1.wn x.1.wc, .slice x.1.rA x.1.rn x.1.rc, .slice x.1.mA x.1.mn x.1.mc])
  · rfl
  · kernel_rfl
  · kernel_rfl
  · dsimp only [oblS]
    refine ⟨by rfl, ?_⟩
    rintro w9 h9
    obtain ⟨⟨m0, m1, m2, m3⟩, ml3, ml4, mm, mw⟩ := HM.out w9 h9
    obtain ⟨⟨q0, q1, q2, q3, q4, q5, q6, q7, q8, q9⟩, mb, mr⟩ := HQ.out w9 mw
    go_simp
    exact ⟨Below.refl _ _, rfl⟩
  dsimp only [List.nil_append, List.cons_append]
  apply relS_anyg (mask := [false, false, false, false, true, true, true, false, false, false, true]) (t := 50) (want := true) (T := IxT (buildL (l.map (·.2)))) (hT := IxT_stable _)
  · rfl
  · kernel_rfl
  · kernel_rfl
  · dsimp only [oblS]
    refine ⟨by rfl, ?_⟩
    rintro w9 h9 T' hT'
    obtain ⟨⟨m0, m1, m2, m3⟩, ml3, ml4, mm, mw⟩ := HM.out w9 h9
    obtain ⟨⟨q0, q1, q2, q3, q4, q5, q6, q7, q8, q9⟩, mb, mr⟩ := HQ.out w9 mw
    go_simp
    refine (xReplace_any A4 n4 c4 _ k x.1 x.2 w9 ml4 mr (by omega) (by omega)).mono ?_
    rintro e w6 ⟨A6, n6, c6, rfl, h1, h2⟩
    rw [repl_build (by rw [List.length_set]; exact HKL.out), hset.out] at h1
    exact ⟨_, rfl, h2, hT' _ _ ⟨A6, n6, c6, rfl, h1⟩⟩
  dsimp only [List.nil_append, List.cons_append]
  apply relS_detg (mask := [false, false, false, false, true, false, false, false, false, false, false, false]) (t := 50) (want := true) (x := .agg #[.slice A3 n3 c3])
  · rfl
  · kernel_rfl
  · kernel_rfl
  · dsimp only [oblS]
    refine ⟨by rfl, ?_⟩
    rintro w9 h9
    obtain ⟨⟨m0, m1, m2, m3⟩, ml3, ml4, mm, mw⟩ := HM.out w9 h9
    go_simp
    exact ⟨Below.refl _ _, rfl⟩
  dsimp only [List.nil_append, List.cons_append]
  apply relS_detg (mask := [false, false, false, false, true, false, false, false, false, false, false, true, true]) (t := 50) (want := true) (x := .bool true)
  · rfl
  · kernel_rfl
  · kernel_rfl
  · dsimp only [oblS]
    intro v57
    refine ⟨by rfl, ?_⟩
    rintro w9 ⟨h9, t57⟩
    obtain ⟨⟨m0, m1, m2, m3⟩, ml3, ml4, mm, mw⟩ := HM.out w9 h9
    obtain ⟨Aa, na, ca, rfl, h1⟩ := t57
    go_simp
    refine (qSame_any Aa A3 na n3 ca c3 _ _ w9 h1 ml3).mono ?_
    rintro e w6 ⟨rfl, hb6⟩
    exact ⟨_, rfl, hb6, by rw [decide_eq_true rfl]; rfl⟩
  dsimp only [List.nil_append, List.cons_append]
  apply relS_det (mask := [false, false, false, false, true, false, false, false, false, false, false, false, false, true])
  · rfl
  · kernel_rfl
  · kernel_rfl
  · dsimp only [oblS]
    rintro w9 h9
    go_simp
    exact ⟨Below.refl _ _, rfl⟩
  dsimp only [List.nil_append, List.cons_append]
  apply relS_det (mask := [false, false, false, false, false, false, false, false, false, false, false, false, false, false, true])
  · rfl
  · kernel_rfl
  · kernel_rfl
  · dsimp only [oblS]
    rintro w9 h9
    go_simp
    exact ⟨Below.refl _ _, rfl⟩
  dsimp only [List.nil_append, List.cons_append]
  apply relS_detg (mask := [false, false, false, false, false, false, false, false, false, false, false, false, false, false, false, true]) (t := 61) (want := true) (x := .agg #[.slice A3 n3 c3])
  · rfl
  · kernel_rfl
  · kernel_rfl
  · dsimp only [oblS]
    refine ⟨by rfl, ?_⟩
    rintro w9 h9
    obtain ⟨⟨m0, m1, m2, m3⟩, ml3, ml4, mm, mw⟩ := HM.out w9 h9
    go_simp
    exact ⟨Below.refl _ _, rfl⟩
  dsimp only [List.nil_append, List.cons_append]
  apply relS_detg (mask := [false, false, false, false, false, false, false, false, false, false, false, false, false, false, false, true, false]) (t := 61) (want := true)
  · rfl
  · kernel_rfl
  · kernel_rfl
  · dsimp only [oblS]
    refine ⟨by rfl, ?_⟩
    rintro w9 h9
    go_simp
    exact ⟨Below.refl _ _, rfl⟩
  dsimp only [List.nil_append, List.cons_append]
  apply relS_detg (mask := [false, false, false, false, false, false, false, false, false, false, false, false, false, false, false, true, false, false]) (t := 61) (want := true)
  · rfl
  · kernel_rfl
  · kernel_rfl
  · dsimp only [oblS]
    refine ⟨by rfl, ?_⟩
    rintro w9 h9
    go_simp
    exact ⟨Below.refl _ _, rfl⟩
  dsimp only [List.nil_append, List.cons_append]
  apply relS_detg (mask := [false, false, false, false, false, false, false, false, false, false, false, false, false, false, false, true, false, false, false]) (t := 61) (want := true)
  · rfl
  · kernel_rfl
  · kernel_rfl
  · dsimp only [oblS]
    refine ⟨by rfl, ?_⟩
    rintro w9 h9
    go_simp
    exact ⟨Below.refl _ _, rfl⟩
  dsimp only [List.nil_append, List.cons_append]
  apply relS_detg (mask := [false, false, false, false, false, false, false, false, false, false, false, false, false, false, false, true, false, false, true, true]) (t := 61) (want := true) (x := .pointer (some ⟨bl, ol + k * 10, none⟩))
  · rfl
  · kernel_rfl
  · kernel_rfl
  · dsimp only [oblS]
    refine ⟨by rfl, ?_⟩
    rintro w9 h9
    obtain ⟨⟨m0, m1, m2, m3⟩, ml3, ml4, mm, mw⟩ := HM.out w9 h9
    go_simp
    exact ⟨Below.refl _ _, rfl⟩
  dsimp only [List.nil_append, List.cons_append]
  apply relS_detg (mask := [false, false, false, false, false, false, false, false, false, false, false, false, false, false, false, true, false, false, false, false, true]) (t := 61) (want := true) (x := .agg #[.int .i64 x.1.q0, .int .i64 x.1.q1, .int .i64 x.1.q2, .int .i64 x.1.q3, .int .i64 x.1.an, .int .i64 x.1.la, .int .i64 x.1.kn, .slice x.1.wA x.1.wn x.1.wc, .slice x.1.rA x.1.rn x.1.rc, .slice x.1.mA x.1.mn x.1.mc])
  · rfl
  · kernel_rfl
  · kernel_rfl
  · dsimp only [oblS]
    refine ⟨by rfl, ?_⟩
    rintro w9 h9
    obtain ⟨⟨m0, m1, m2, m3⟩, ml3, ml4, mm, mw⟩ := HM.out w9 h9
    obtain ⟨⟨q0, q1, q2, q3, q4, q5, q6, q7, q8, q9⟩, mb, mr⟩ := HQ.out w9 mw
    go_simp
    exact ⟨Below.refl _ _, rfl⟩
  dsimp only [List.nil_append, List.cons_append]
  apply relS_anyg (mask := [false, false, false, false, false, false, false, false, false, false, false, false, false, false, false, true, true, true, false, false, false, true]) (t := 61) (want := true) (T := IxT (buildL (l.map (·.2)))) (hT := IxT_stable _)
  · rfl
  · kernel_rfl
  · kernel_rfl
  · dsimp only [oblS]
    refine ⟨by rfl, ?_⟩
    rintro w9 h9 T' hT'
    obtain ⟨⟨m0, m1, m2, m3⟩, ml3, ml4, mm, mw⟩ := HM.out w9 h9
    obtain ⟨⟨q0, q1, q2, q3, q4, q5, q6, q7, q8, q9⟩, mb, mr⟩ := HQ.out w9 mw
    go_simp
    refine (xReplace_any A3 n3 c3 _ k x.1 x.2 w9 ml3 mr (by omega) (by omega)).mono ?_
    rintro e w6 ⟨A6, n6, c6, rfl, h1, h2⟩
    rw [repl_build HKL.out, hset2.out] at h1
    exact ⟨_, rfl, h2, hT' _ _ ⟨A6, n6, c6, rfl, h1⟩⟩
  dsimp only [List.nil_append, List.cons_append]
  apply relS_detg (mask := [false, false, false, false, false, false, false, false, false, false, false, false, false, false, false, true, false, false, false, false, false, false, false]) (t := 61) (want := true) (x := .agg #[.slice A3 n3 c3])
  · rfl
  · kernel_rfl
  · kernel_rfl
  · dsimp only [oblS]
    refine ⟨by rfl, ?_⟩
    rintro w9 h9
    obtain ⟨⟨m0, m1, m2, m3⟩, ml3, ml4, mm, mw⟩ := HM.out w9 h9
    go_simp
    exact ⟨Below.refl _ _, rfl⟩
  dsimp only [List.nil_append, List.cons_append]
  apply relS_detg (mask := [false, false, false, false, false, false, false, false, false, false, false, false, false, false, false, true, false, false, false, false, false, false, true, true]) (t := 61) (want := true) (x := .bool true)
  · rfl
  · kernel_rfl
  · kernel_rfl
  · dsimp only [oblS]
    intro v68
    refine ⟨by rfl, ?_⟩
    rintro w9 ⟨h9, t68⟩
    obtain ⟨⟨m0, m1, m2, m3⟩, ml3, ml4, mm, mw⟩ := HM.out w9 h9
    obtain ⟨Aa, na, ca, rfl, h1⟩ := t68
    go_simp
    refine (qSame_any Aa A3 na n3 ca c3 _ _ w9 h1 ml3).mono ?_
    rintro e w6 ⟨rfl, hb6⟩
    exact ⟨_, rfl, hb6, by rw [decide_eq_true rfl]; rfl⟩
  dsimp only [List.nil_append, List.cons_append]
  apply relS_det (mask := [false, false, false, false, false, false, false, false, false, false, false, false, false, false, false, true, false, false, false, false, false, false, false, false, true])
  · rfl
  · kernel_rfl
  · kernel_rfl
  · dsimp only [oblS]
    rintro w9 h9
    go_simp
    exact ⟨Below.refl _ _, rfl⟩
  dsimp only [List.nil_append, List.cons_append]
  apply relS_det (mask := [false, false, false, false, false, false, false, false, false, false, false, false, false, false, false, false, false, false, false, false, false, false, false, false, false, true])
  · rfl
  · kernel_rfl
  · kernel_rfl
  · dsimp only [oblS]
    rintro w9 h9
    go_simp
    exact ⟨Below.refl _ _, rfl⟩
  dsimp only [List.nil_append, List.cons_append]
  refine relS_end (by rfl) ?_
  dsimp only [finS]
  -- rintro v48 v57 v68 w8 ⟨⟨⟨hb, t48⟩, t57⟩, t68⟩
  rintro v48 v57 v68 w5 ⟨⟨⟨hb5, -⟩, -⟩, -⟩
  go_frame
  go_wp2_with fail
  go_ret
  exact ⟨rfl, HBe.out.trans (hb5.mono HBe.out.size)⟩
end Go.Proofs.Ytologegkbcedhaa
