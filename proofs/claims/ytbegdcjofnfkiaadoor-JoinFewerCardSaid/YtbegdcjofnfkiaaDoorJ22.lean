/- The reference's Few; the law's shown. -/
import Derived.Test.YtbegdcjofnfkiaaDoorJ21
import Derived.Test.YtbegdcjofnfkiaaDoorJ17A
namespace Go.Proofs.YtbegdcjofnfkiaaDoor
open Go.RowKit Go.Shelf Go.Sort

def fewJ (q : Qu) (l : List Fc) : Bool := decide (l.length ≤ 10) && decide (q.names.length ≤ 4) && decide (q.shows.length ≤ 8) && decide (q.atoms.length ≤ 6) && decide (q.tests.length ≤ 6) && decide ((domR l).length ^ q.names.length ≤ 4096)
theorem domR_len (l : List Fc) : (domR l).length ≤ 3 * l.length := by
  have := domW_len l []
  simpa [domR] using this
theorem pow_le30 {d k : Nat} (hd : d ≤ 30) (hk : k ≤ 4) : d ^ k ≤ 810000 := by
  have h1 : d ^ k ≤ 30 ^ k := Nat.pow_le_pow_left hd k
  have h2 : (30 : Nat) ^ k ≤ 30 ^ 4 := Nat.pow_le_pow_right (by omega) hk
  have h3 : (30 : Nat) ^ 4 = 810000 := by decide
  omega
set_option maxRecDepth 100000 in
set_option maxHeartbeats 4000000 in
theorem few_any (q : Qu) (FA : Option Addr) (fn fc : Nat) (l : List Fc) (w : World) (hq : QuIn q w w.heap.size) (hl : fSl w w.heap.size FA fn fc l) :
    Calls Tryd.prog 8 #[.agg #[.slice q.nA q.nn q.nc, .slice q.sA q.sn q.sc, .slice q.aA q.an q.ac, .slice q.tA q.tn q.tc], .slice FA fn fc] w fun e w' => e = .returned (.bool (fewJ q l)) ∧ Below w.heap.size w w' := by
  have HFa : Hid (∀ W, Below w.heap.size w W → fSl W W.heap.size FA fn fc l) := fun W h => hl.keep (Rep.flat_stable _) h.size h.block
  have HN := hidp hl.1
  have HLen : Hid (q.nn = q.names.length ∧ q.sn = q.shows.length ∧ q.an = q.atoms.length ∧ q.tn = q.tests.length) := ⟨hq.1.1, hq.2.1.1, hq.2.2.1.1, hq.2.2.2.1⟩
  obtain ⟨W0, hW0⟩ : ∃ W0, w.alloc (.cells #[.slice q.nA q.nn q.nc, .slice q.sA q.sn q.sc, .slice q.aA q.an q.ac, .slice q.tA q.tn q.tc] 27) = W0 := ⟨_, rfl⟩
  have hBW : Below w.heap.size w W0 := hW0 ▸ (Below.refl _ w).alloc (Nat.le_refl _) _
  have hb0 : QBox q w.heap.size W0 := ⟨hW0 ▸ World.alloc_heap_new _ _⟩
  have HBW := hidp hBW
  have HB0 := hidp hb0
  have HW0 := hidp hW0
  obtain ⟨x0, x1, x2, x3, l0⟩ := hb0.cells
  have hno : ∀ b : Bool, b = false → fewJ q l = b → Ending.returned (.bool b) = Ending.returned (.bool (fewJ q l)) := fun b _ h => by rw [h]
  have HNo := hidp hno
  clear hBW hb0 hq hl hno hW0
  go_enter Tryd.func8, Tryd.ntmps8
  by_cases h1 : 10 < fn
  · have HF : Hid (fewJ q l = false) := by
      have := HN.out
      show _ = _
      unfold fewJ
      rw [decide_eq_false (p := l.length ≤ 10) (by omega)]; rfl
    have i1 : (10 : Int) < fn := by omega
    go_wp2_with fail
    rw [HW0.out]
    go_wp2_with fail
    go_ret
    exact ⟨ret_bool HF.out.symm, HBW.out⟩
  have i1 : ¬ ((10 : Int) < fn) := by omega
  by_cases h2 : 4 < q.nn
  · have HF : Hid (fewJ q l = false) := by
      have := HLen.out.1
      show _ = _
      unfold fewJ
      rw [decide_eq_false (p := q.names.length ≤ 4) (by omega)]; simp
    have i2 : (4 : Int) < q.nn := by omega
    go_wp2_with fail
    rw [HW0.out]
    go_wp2_with fail
    go_ret
    exact ⟨ret_bool HF.out.symm, HBW.out⟩
  have i2 : ¬ ((4 : Int) < q.nn) := by omega
  by_cases h3 : 8 < q.sn
  · have HF : Hid (fewJ q l = false) := by
      have := HLen.out.2.1
      show _ = _
      unfold fewJ
      rw [decide_eq_false (p := q.shows.length ≤ 8) (by omega)]; simp
    have i3 : (8 : Int) < q.sn := by omega
    go_wp2_with fail
    rw [HW0.out]
    go_wp2_with fail
    go_ret
    exact ⟨ret_bool HF.out.symm, HBW.out⟩
  have i3 : ¬ ((8 : Int) < q.sn) := by omega
  by_cases h4 : 6 < q.an
  · have HF : Hid (fewJ q l = false) := by
      have := HLen.out.2.2.1
      show _ = _
      unfold fewJ
      rw [decide_eq_false (p := q.atoms.length ≤ 6) (by omega)]; simp
    have i4 : (6 : Int) < q.an := by omega
    go_wp2_with fail
    rw [HW0.out]
    go_wp2_with fail
    go_ret
    exact ⟨ret_bool HF.out.symm, HBW.out⟩
  have i4 : ¬ ((6 : Int) < q.an) := by omega
  by_cases h5 : 6 < q.tn
  · have HF : Hid (fewJ q l = false) := by
      have := HLen.out.2.2.2
      show _ = _
      unfold fewJ
      rw [decide_eq_false (p := q.tests.length ≤ 6) (by omega)]; simp
    have i5 : (6 : Int) < q.tn := by omega
    go_wp2_with fail
    rw [HW0.out]
    go_wp2_with fail
    go_ret
    exact ⟨ret_bool HF.out.symm, HBW.out⟩
  have i5 : ¬ ((6 : Int) < q.tn) := by omega
  have hD : (domR l).length ≤ 30 := by have := domR_len l; have := HN.out; omega
  obtain ⟨d, hd⟩ : ∃ d, (domR l).length = d := ⟨_, rfl⟩
  rw [hd] at hD
  have HD := hidp hd
  have HFew : Hid (fewJ q l = decide ((d : Int) ^ q.nn ≤ 4096)) := by
    show _ = _
    obtain ⟨e1, e2, e3, e4⟩ := HLen.out
    have e0 := HN.out
    unfold fewJ
    rw [decide_eq_true (p := l.length ≤ 10) (by omega), decide_eq_true (p := q.names.length ≤ 4) (by omega), decide_eq_true (p := q.shows.length ≤ 8) (by omega), decide_eq_true (p := q.atoms.length ≤ 6) (by omega), decide_eq_true (p := q.tests.length ≤ 6) (by omega), hd, ← e1]
    rw [Bool.eq_iff_iff]
    simp only [Bool.true_and, decide_eq_true_eq]
    rw [← Int.natCast_pow]
    omega
  clear hd
  go_wp2_with fail
  rw [HW0.out]
  clear x0 x1 x2 x3 l0
  go_wp2_with fail
  go_loopw [5, 6] (fun z i wr => ∃ k zz : Nat, k ≤ q.nn ∧ i = .int .i64 k ∧ z = .int .i64 zz ∧ zz = d ^ k ∧ QBox q w.heap.size wr ∧ Below w.heap.size w wr) (fun _ i _ => q.nn - (intOf i).toNat)
  case atStart => exact ⟨0, 1, by omega, rfl, rfl, by simp, HB0.out, HBW.out⟩
  case round =>
    obtain ⟨k, zz, hk, rfl, rfl, hzz, hqb, hbe⟩ := hrel
    have hzb : zz ≤ 810000 := by rw [hzz]; exact pow_le30 hD (by omega)
    have HZ := hidp hzz
    have HQB := hidp hqb
    have HBe := hidp hbe
    obtain ⟨x0, x1, x2, x3, l0⟩ := hqb.cells
    clear hzz hqb hbe
    by_cases hlt : k < q.nn
    · have hkn : (k : Int) < q.nn := by omega
      go_wp2_with fail
      refine (rDomain_any FA fn fc l _ (HFa.out _ HBe.out) (by omega)).mono ?_
      rintro e w5 ⟨A5, n5, c5, rfl, r5, hb5⟩
      obtain rfl : n5 = d := by have h := r5.1; have h2 := HD.out; omega
      have hq5 := HQB.out.later hb5
      have HQ5 := hidp hq5
      have HB5 := hidp (HBe.out.trans (hb5.mono HBe.out.size))
      have hmul : IntKind.i64.wrap ((zz : Int) * n5) = ((zz * n5 : Nat) : Int) := by
        have h1 : zz * n5 ≤ 810000 * 30 := Nat.mul_le_mul hzb hD
        rw [← Int.natCast_mul]
        exact IntWalk.i64_in _ (by omega)
      have hp : zz * n5 = n5 ^ (k + 1) := by rw [HZ.out, Nat.pow_succ]
      obtain ⟨z2, hz2⟩ : ∃ z2, zz * n5 = z2 := ⟨_, rfl⟩
      rw [hz2] at hmul hp
      have HP := hidp hp
      clear hz2 hp hq5 hb5 r5 x0 x1 x2 x3 l0
      go_wp2_with fail
      go_roundw
      case rel => exact ⟨k + 1, z2, by omega, by go_num, rfl, HP.out, HQ5.out, HB5.out⟩
      case measure => simp [intOf]; omega
    · obtain rfl : k = q.nn := by omega
      go_wp2_with fail
      go_ret
      refine ⟨ret_bool ?_, HBe.out⟩
      rw [HFew.out, HZ.out, Int.natCast_pow]
set_option maxRecDepth 100000 in
set_option maxHeartbeats 4000000 in
theorem shown_any (q : Qu) (A : Option Addr) (n c : Nat) (vs : List Int) (w : World) (hq : QuIn q w w.heap.size) (hv : iSl w w.heap.size A n c vs) (hs : q.sn ≤ 8) (hr : ∀ i ∈ q.shows, 0 ≤ i ∧ i < n) :
    Calls Tryd.prog 14 #[.agg #[.slice q.nA q.nn q.nc, .slice q.sA q.sn q.sc, .slice q.aA q.an q.ac, .slice q.tA q.tn q.tc], .slice A n c] w (IPostJ (showJ q vs) w) := by
  obtain ⟨i0, hi, hz, hss, hbb⟩ := info_parts iInfo
  have HSh : Hid (∀ W, Below w.heap.size w W → iSl W W.heap.size q.sA q.sn q.sc q.shows) := fun W h => hq.2.1.keep (Rep.flat_stable _) h.size h.block
  have HVs : Hid (∀ W, Below w.heap.size w W → iSl W W.heap.size A n c vs) := fun W h => hv.keep (Rep.flat_stable _) h.size h.block
  have HSn : Hid (q.sn = q.shows.length) := hq.2.1.1
  have hsc := hq.2.1.2.1
  have hscc := hq.2.1.2.2.1
  have hnc := hv.2.1
  have hcc := hv.2.2.1
  have HR := hidp hr
  obtain ⟨W0, hW0⟩ : ∃ W0, w.alloc (.cells #[.slice q.nA q.nn q.nc, .slice q.sA q.sn q.sc, .slice q.aA q.an q.ac, .slice q.tA q.tn q.tc] 27) = W0 := ⟨_, rfl⟩
  have hBW : Below w.heap.size w W0 := hW0 ▸ (Below.refl _ w).alloc (Nat.le_refl _) _
  have hb0 : QBox q w.heap.size W0 := ⟨hW0 ▸ World.alloc_heap_new _ _⟩
  have hz0 : W0.heap.size = w.heap.size + 1 := by rw [← hW0]; simp
  have HBW := hidp hBW
  have HB0 := hidp hb0
  have HZ0 := hidp hz0
  have HW0 := hidp hW0
  obtain ⟨x0, x1, x2, x3, l0⟩ := hb0.cells
  clear hBW hb0 hq hv hr hW0 hz0
  go_enter Tryd.func14, Tryd.ntmps14
  go_wp2_with fail
  rw [HW0.out]
  clear x0 x1 x2 x3 l0
  go_wp2_with fail
  go_loopw [5, 6] (fun v i wr => ∃ (k : Nat) (v9 : Value), k ≤ q.sn ∧ i = .int .i64 k ∧ v = v9 ∧ wr.ownsRow w.heap.size 3 1 v9 k ((showP q vs k).flatMap iEnc) ∧ QBox q w.heap.size wr ∧ Below w.heap.size w wr) (fun _ i _ => q.sn - (intOf i).toNat)
  case atStart =>
    refine ⟨0, _, by omega, rfl, rfl, ?_, ?_, ?_⟩
    · have := own_empty W0 w.heap.size 1 3 HBW.out.size
      rw [HZ0.out] at this
      exact this
    · exact HB0.out.later ((Below.refl _ _).alloc (Nat.le_refl _) _)
    · exact HBW.out.alloc HBW.out.size _
  case round =>
    obtain ⟨k, v9, hk, rfl, rfl, hown, hqb, hbe⟩ := hrel
    obtain ⟨x0, x1, x2, x3, l0⟩ := hqb.cells
    by_cases hks : k < q.sn
    · obtain ⟨bs, os, sh, hA, _, hsh, c0⟩ := iSl.get (HSh.out wr hbe) hks
      have hshr := HR.out sh (List.mem_of_getElem? hsh)
      obtain ⟨shn, rfl⟩ : ∃ n : Nat, sh = n := ⟨sh.toNat, by omega⟩
      have hshx : shn < n := by omega
      obtain ⟨bv, ov, y, hA7, hbv, hy, d0⟩ := iSl.get (HVs.out wr hbe) hshx
      have hstep := showP_step (vs := vs) hsh
      rw [Int.toNat_natCast, List.getD_eq_getElem?_getD, hy] at hstep
      simp only [Option.getD_some] at hstep
      have hixs := fun W => ix_Ints (c := q.sc) hA hks W
      have hixv := fun W => ix_Ints (c := c) hA7 hshx W
      simp only [Nat.mul_one] at hixs hixv
      have hpl : (showP q vs k).length = k := showP_len (by have := HSn.out; omega)
      obtain ⟨A9, c9, rfl, _⟩ := own_rows iEnc_len (by decide) hown
      have hown1 : wr.ownsRow w.heap.size 3 1 (.slice A9 k c9) (showP q vs k).length ((showP q vs k).flatMap iEnc) := by rw [hpl]; exact hown
      have hzr := hbe.size
      obtain ⟨v5, w5', hrun, hown5, hg5, hat5⟩ := run_append_one (P := Tryd.prog) (ty := 23) (l := showP q vs k) (enc := iEnc) (w := wr) (base := w.heap.size) Tryd.underlying23 hi hz hss hbb rfl iEnc_len (by decide) iEnc_one hown1 y (by rw [hpl]; omega) (by rw [hpl]; omega) (by omega)
      rw [hpl] at hown5
      obtain ⟨A5, c5, rfl, _⟩ := own_rows iEnc_len (by decide) hown5
      have hne : ∀ g, (Value.slice A9 k c9).ownBlock = some g → g ≠ w.heap.size := fun g hg e => by
        obtain ⟨cs, hcs⟩ := own_kind hown hg
        rw [e, hqb.box] at hcs
        injection hcs with hcs
        injection hcs with _ hcs
        exact absurd hcs (by decide)
      have hb5 : Below w.heap.size wr w5' := ((Below.refl _ _).alloc hzr _).grown hg5 (by simp; omega) fun g hg => (hown.lt g hg).1
      have hqb5 : QBox q w.heap.size w5' := ⟨((hg5.block _ (by simp; omega) (fun e => hne _ e.symm rfl)).trans (Below.heap_alloc _ _ _ l0)).trans hqb.box⟩
      have lb := lt_of_cell c0
      have lv := lt_of_cell d0
      have hks' : (k : Int) < q.sn := by omega
      have hsn0 : (0 : Int) ≤ shn := by omega
      have hsn1 : (shn : Int) < n := by omega
      have HR5 := hidp hrun
      have HO5 := hidp hown5
      have HB5' := hidp (hbe.trans hb5)
      have HQ5 := hidp hqb5
      have HST := hidp hstep
      clear hrun hown5 hb5 hstep hpl hown hown1 hg5 hat5 hA hA7 hsh hy hbe hzr hshr hqb hqb5 hne
      go_wp2_with (at_builtin; refine wpList_append_known rfl (.tmp 31) (.tmp 40) 23 rfl rfl rfl HR5.out ?_)
      go_roundw
      case rel => exact ⟨k + 1, _, by omega, by go_num, rfl, by rw [HST.out]; exact HO5.out, HQ5.out, HB5'.out⟩
      case measure => simp [intOf]; omega
    · obtain rfl : k = q.sn := by omega
      have hkk : ¬ ((q.sn : Int) < q.sn) := by omega
      have hSJ : showP q vs q.sn = showJ q vs := by rw [HSn.out]; exact showP_all q vs
      rw [hSJ] at hown
      have hl2 : (showJ q vs).length = q.sn := by rw [showJ_len, HSn.out]
      obtain ⟨A9, c9, rfl, hr⟩ := own_rows iEnc_len (by decide) hown
      have HRr := hidp hr
      have HBe := hidp hbe
      clear hSJ hown hr hbe hqb
      go_wp2_with fail
      go_ret
      exact ⟨_, _, _, rfl, HRr.out, HBe.out⟩
end Go.Proofs.YtbegdcjofnfkiaaDoor
