/- JoinAnswers walked (printed by tools/gen117.py). -/
import Derived.Test.YtbegdcjofnfkiaaDoorJN
import Derived.Test.YtbegdcjofnfkiaaDoorJ26
import Derived.Test.YtbegdcjofnfkiaaDoorM8
import Derived.Test.YtbegdcjofnfkiaaDoorJ23
import Derived.Test.YtbegdcjofnfkiaaDoorJD2
import Derived.Deep.DeepCutAuto
import Derived.Deep.CutBlock
import Derived.Deep.QuietTactic
import Derived.BigQuiet
namespace Go.Proofs.YtbegdcjofnfkiaaDoor
open Go.RowKit Go.Shelf Go.Sort

theorem ix_u8s {A : Option Addr} {n c k b off : Nat} (hA : A = some ⟨b, off, none⟩) (hk : k < n) (W : World) : (Instr.indexAt 29 (.slice A n c) (.int .i64 k)).run Tryd.prog W = .ok (.pointer (some ⟨b, off + k, none⟩)) W := by
  subst hA
  have hk' : (k : Int) < n := by omega
  simp [go_sem, hk']
abbrev u8Sl (W : World) (n₀ : Nat) (A : Option Addr) (n c : Nat) (l : List (Fin 256)) : Prop := Rows 1 (Rep.flat u8Enc) W n₀ A n c l
theorem u8Sl.get {n₀ n c k : Nat} {A : Option Addr} {l : List (Fin 256)} {W : World} (h : u8Sl W n₀ A n c l) (hk : k < n) : ∃ b off x, A = some ⟨b, off, none⟩ ∧ b < n₀ ∧ l[k]? = some x ∧ W.cell? ⟨b, off + k, none⟩ = some (.int .u8 x.val) := by
  obtain ⟨b, off, m, cs, e, hlt, hk', rfl, hc⟩ := Rows.get h hk
  have c0 := hc 0 _ rfl
  rw [Nat.add_zero, Nat.mul_one] at c0
  exact ⟨b, off, m, e, hlt, hk', c0⟩
/-- The values that are picked. -/
def pickJ (d : List Int) (ps : List (Fin 256)) : List Int := ps.map fun p => d.getD (p.val % d.length) 0
theorem pickJ_step {d : List Int} {ps : List (Fin 256)} {k : Nat} {p : Fin 256} (h : ps[k]? = some p) : pickJ d (ps.take (k + 1)) = pickJ d (ps.take k) ++ [d.getD (p.val % d.length) 0] := by
  unfold pickJ; rw [take_snoc h, List.map_append]; rfl
theorem pickJ_len (d : List Int) (ps : List (Fin 256)) : (pickJ d ps).length = ps.length := by simp [pickJ]
theorem pickJ_mem {d : List Int} (hd : 0 < d.length) {ps : List (Fin 256)} : ∀ n ∈ pickJ d ps, n ∈ d := by
  intro n hn
  unfold pickJ at hn
  obtain ⟨p, _, rfl⟩ := List.mem_map.1 hn
  have hlt := Nat.mod_lt p.val hd
  rw [List.getD_eq_getElem?_getD, List.getElem?_eq_getElem hlt]
  exact List.getElem_mem hlt
theorem shows_range {q : Qu} (hn : q.shows.length = q.names.length) (h : ∀ k, k < q.shows.length → q.shows[k]? = some (k : Int)) : q.shows = rangeI q.names.length := by
  refine List.ext_getElem? fun i => ?_
  rcases Nat.lt_or_ge i q.shows.length with hi | hi
  · rw [h i hi, rangeI_get (by omega)]
  · rw [List.getElem?_eq_none hi, List.getElem?_eq_none (by rw [rangeI_len]; omega)]
set_option maxRecDepth 100000 in
set_option maxHeartbeats 8000000 in
theorem answers_any (q : Qu) (FA PA : Option Addr) (fn fc pn pc : Nat) (l : List Fc) (ps : List (Fin 256)) (w : World) (hq : QuIn q w w.heap.size) (hw : WordsAt w) (hl : fSl w w.heap.size FA fn fc l) (hp : u8Sl w w.heap.size PA pn pc ps) :
    Calls Tryd.prog 3 #[.agg #[.slice q.nA q.nn q.nc, .slice q.sA q.sn q.sc, .slice q.aA q.an q.ac, .slice q.tA q.tn q.tc], .slice FA fn fc, .slice PA pn pc] w fun e w' => e = .returned (.bool true) ∧ Below w.heap.size w w' := by
  obtain ⟨i0, hi, hz, hss, hbb⟩ := info_parts iInfo
  have HQu : Hid (∀ W, Below w.heap.size w W → QuIn q W W.heap.size) := fun W hb => hq.keep hb.size hb.block
  have HWd : Hid (∀ W, Below w.heap.size w W → WordsAt W) := fun W hb => hw.below hb
  have HFa : Hid (∀ W, Below w.heap.size w W → fSl W W.heap.size FA fn fc l) := fun W h => hl.keep (Rep.flat_stable _) h.size h.block
  have HPs : Hid (∀ W, Below w.heap.size w W → u8Sl W W.heap.size PA pn pc ps) := fun W h => hp.keep (Rep.flat_stable _) h.size h.block
  have HLen : Hid (q.nn = q.names.length ∧ q.sn = q.shows.length ∧ q.an = q.atoms.length ∧ q.tn = q.tests.length) := ⟨hq.1.1, hq.2.1.1, hq.2.2.1.1, hq.2.2.2.1⟩
  have HFn := hidp hl.1
  have HPn := hidp hp.1
  have hpc := hp.2.1
  have hpcc := hp.2.2.1
  have hsc := hq.2.1.2.1
  have hscc := hq.2.1.2.2.1
  obtain ⟨W0, hW0⟩ : ∃ W0, w.alloc (.cells #[.slice q.nA q.nn q.nc, .slice q.sA q.sn q.sc, .slice q.aA q.an q.ac, .slice q.tA q.tn q.tc] 27) = W0 := ⟨_, rfl⟩
  have hBW : Below w.heap.size w W0 := hW0 ▸ (Below.refl _ w).alloc (Nat.le_refl _) _
  have hb0 : QBox q w.heap.size W0 := ⟨hW0 ▸ World.alloc_heap_new _ _⟩
  have HBW := hidp hBW
  have HB0 := hidp hb0
  have HW0 := hidp hW0
  clear hBW hb0 hq hw hl hp hW0
  go_enter Tryd.func3, Tryd.ntmps3
  go_wp2_with fail
  rw [HW0.out]
  refine (sane_any _ (HWd.out _ HBW.out)).mono ?_
  rintro e w1 ⟨rfl, hb1⟩
  have HB1 := hidp (HBW.out.trans (hb1.mono HBW.out.size))
  have HQ1 := hidp (HB0.out.later hb1)
  obtain ⟨x0, x1, x2, x3, l0⟩ := HQ1.out.cells
  clear hb1
  go_wp2_with fail
  refine (few_any q FA fn fc l _ (HQu.out _ HB1.out) (HFa.out _ HB1.out)).mono ?_
  rintro e w5 ⟨rfl, hb5⟩
  have HB5 := hidp (HB1.out.trans (hb5.mono HB1.out.size))
  have HQ5 := hidp (HQ1.out.later hb5)
  clear x0 x1 x2 x3 l0 hb5
  obtain ⟨x0, x1, x2, x3, l0⟩ := HQ5.out.cells
  obtain ⟨fw, hfw⟩ : ∃ b, fewJ q l = b := ⟨_, rfl⟩
  rw [hfw]
  have HFw := hidp hfw
  clear hfw
  cases fw
  · go_wp2_with fail
    go_ret
    exact ⟨rfl, HB5.out⟩
  have hfew : fn ≤ 10 ∧ q.nn ≤ 4 ∧ q.sn ≤ 8 ∧ q.an ≤ 6 ∧ q.tn ≤ 6 ∧ (domR l).length ^ q.names.length ≤ 4096 := by
    have h := HFw.out
    unfold fewJ at h
    simp only [Bool.and_eq_true, decide_eq_true_eq] at h
    have h1 := HFn.out; obtain ⟨h2, h3, h4, h5⟩ := HLen.out
    exact ⟨by omega, by omega, by omega, by omega, by omega, h.2⟩
  obtain ⟨hx10, hn4, hs8, ha6, ht6, hpw⟩ := hfew
  have HPw := hidp hpw
  clear hpw
  by_cases hp8 : 8 < pn
  · have hp8' : (8 : Int) < pn := by omega
    go_wp2_with fail
    go_ret
    exact ⟨rfl, HB5.out⟩
  have hp8' : ¬ ((8 : Int) < pn) := by omega
  go_wp2_with fail
  refine (rows_any q FA fn fc l _ (HQu.out _ HB5.out) (HWd.out _ HB5.out) (HFa.out _ HB5.out) (by omega) (fun _ => few_ful HPw.out rfl)).mono ?_
  rintro e w6 ⟨A1, n1, c1, rfl, hr6, hb6⟩
  have HB6 := hidp (HB5.out.trans (hb6.mono HB5.out.size))
  have HQ6 := hidp (HQ5.out.later hb6)
  have HR6 := hidp hr6
  clear x0 x1 x2 x3 l0 hb6 hr6
  go_wp2_with fail
  refine (domain_any FA fn fc l _ (HFa.out _ HB6.out) (by omega)).mono ?_
  rintro e w7 ⟨DA, dc, rfl, od, hb7⟩
  have HB7 := hidp (HB6.out.trans (hb7.mono HB6.out.size))
  have HQ7 := hidp (HQ6.out.later hb7)
  have HR7 := hidp (HR6.out.keep hb7)
  obtain ⟨dn, hdn⟩ : ∃ dn, (domR l).length = dn := ⟨_, rfl⟩
  rw [hdn] at od ⊢
  have hdr : iSl w7 w7.heap.size DA dn dc (domR l) := by
    obtain ⟨A2, c2, he, h⟩ := own_rows iEnc_len (by decide) od
    injection he with e1 e2 e3
    rw [e1, e3]
    exact h
  have hdc := hdr.2.1
  have hdcc := hdr.2.2.1
  have HDn := hidp hdn
  have HR : Hid (∀ W, Below w7.heap.size w7 W → RowsIn W A1 n1 c1 (rowsV q l)) := fun W hb => HR7.out.keep hb
  have HD : Hid (∀ W, Below w7.heap.size w7 W → iSl W W.heap.size DA dn dc (domR l)) := fun W h => hdr.keep (Rep.flat_stable _) h.size h.block
  have hn1c := HR7.out.len
  have HN1 := hidp hn1c.1
  have hn1b := hn1c.2.1
  have hn1d := hn1c.2.2
  clear hb7 od hdr hdn hn1c HR6
  obtain ⟨x0, x1, x2, x3, l0⟩ := HQ7.out.cells
  rcases rowsE_cases q with ⟨hre, hck⟩ | ⟨hre, hck⟩
  rotate_left
  · rw [hre]
    have hn0 : n1 = 0 := by
      have h := HN1.out
      unfold rowsV at h
      rw [hck] at h
      simpa using h
    subst hn0
    have HCk := hidp hck
    clear hre hck
    go_wp2_with fail
    refine (qCheck_any q _ (HQu.out _ HB7.out) (HWd.out _ HB7.out)).mono ?_
    rintro e w8 ⟨rfl, hb8⟩
    have HB8 := hidp (HB7.out.trans (hb8.mono HB7.out.size))
    rw [HCk.out]
    clear x0 x1 x2 x3 l0 hb8
    simp only [okE]
    go_wp2_with fail
    go_ret
    exact ⟨rfl, HB8.out⟩
  rw [hre]
  have HCk := hidp hck
  have HVars := hidp (check_vars hck)
  have HRJ : Hid (rowsV q l = rowsJ q l) := rowsV_ok hck
  clear hre hck
  have HX7 : Hid (Below w7.heap.size w7 w7) := Below.refl _ _
  go_upto_region 9 with fail
  go_cut [64] (fun s64 wx => s64 = .bool (decide (pn = q.nn ∧ 0 < dn)) ∧ wx = w7)
  case first =>
    by_cases hpq : pn = q.nn
    · have hpq' : ((pn : Int) == (q.nn : Int)) = true := by simp; omega
      have HPq := hidp hpq
      clear hpq
      by_cases hd0 : 0 < dn
      · have hd0' : (0 : Int) < dn := by omega
        go_wp2_with fail
        go_meet
        exact ⟨congrArg Value.bool (decide_eq_true (p := pn = q.nn ∧ 0 < dn) ⟨HPq.out, hd0⟩).symm, rfl⟩
      · have hd0' : ¬ ((0 : Int) < dn) := by omega
        go_wp2_with fail
        go_meet
        exact ⟨congrArg Value.bool (decide_eq_false (p := pn = q.nn ∧ 0 < dn) (fun h => hd0 h.2)).symm, rfl⟩
    · have hpq' : ((pn : Int) == (q.nn : Int)) = false := by simp; omega
      have HPq := hidp hpq
      clear hpq
      go_wp2_with fail
      go_meet
      exact ⟨congrArg Value.bool (decide_eq_false (p := pn = q.nn ∧ 0 < dn) (fun h => HPq.out h.1)).symm, rfl⟩
  case rest =>
  obtain ⟨rfl, rfl⟩ := hcut
  rename World => w7
  go_upto_if 64 with fail
  go_cut [] (fun wx => Below w7.heap.size w7 wx)
  case first =>
    by_cases hpd : pn = q.nn ∧ 0 < dn
    rotate_left
    · rw [decide_eq_false hpd]
      clear hpd
      go_wp2_with fail
      go_meet
      exact Below.refl _ _
    rw [decide_eq_true hpd]
    obtain ⟨hpq, hd0⟩ := hpd
    have HPQ := hidp hpq
    clear hpq
    clear x0 x1 x2 x3 l0
    go_wp2_with fail
    go_loopw [10, 11] (fun v i wr => ∃ (k : Nat) (v9 : Value), k ≤ pn ∧ i = .int .i64 k ∧ v = v9 ∧ wr.ownsRow w7.heap.size 3 1 v9 k ((pickJ (domR l) (ps.take k)).flatMap iEnc) ∧ Below w7.heap.size w7 wr) (fun _ i _ => pn - (intOf i).toNat)
    case atStart => exact ⟨0, _, by omega, rfl, rfl, by have := own_empty w7 w7.heap.size 1 3 (Nat.le_refl _); exact this, (Below.refl _ _).alloc (Nat.le_refl _) _⟩
    case round =>
      obtain ⟨k, v9, hk, rfl, rfl, hown, hbe⟩ := hrel
      by_cases hkp : k < pn
      · obtain ⟨pb, po, p, hPA, _, hpk, c0⟩ := u8Sl.get (HPs.out wr (HB7.out.trans (hbe.mono HB7.out.size))) hkp
        obtain ⟨j, hj⟩ : ∃ j, p.val % dn = j := ⟨_, rfl⟩
        have hjd : j < dn := by rw [← hj]; exact Nat.mod_lt _ hd0
        obtain ⟨db, doff, y, hDA, _, hy, d0⟩ := iSl.get (HD.out wr hbe) hjd
        have hstep := pickJ_step (d := domR l) hpk
        rw [HDn.out, hj, List.getD_eq_getElem?_getD, hy] at hstep
        simp only [Option.getD_some] at hstep
        have hixp := fun W => ix_u8s (c := pc) hPA hkp W
        have hixd := fun W => ix_Ints (c := dc) hDA hjd W
        simp only [Nat.mul_one] at hixd
        have hpl : (pickJ (domR l) (ps.take k)).length = k := by rw [pickJ_len, List.length_take, ← HPn.out]; omega
        obtain ⟨A9, c9, rfl, _⟩ := own_rows iEnc_len (by decide) hown
        have hown1 : wr.ownsRow w7.heap.size 3 1 (.slice A9 k c9) (pickJ (domR l) (ps.take k)).length ((pickJ (domR l) (ps.take k)).flatMap iEnc) := by rw [hpl]; exact hown
        have hzr := hbe.size
        obtain ⟨v5, w5', hrun, hown5, hg5, hat5⟩ := run_append_one (P := Tryd.prog) (ty := 23) (l := pickJ (domR l) (ps.take k)) (enc := iEnc) (w := wr) (base := w7.heap.size) Tryd.underlying23 hi hz hss hbb rfl iEnc_len (by decide) iEnc_one hown1 y (by rw [hpl]; omega) (by rw [hpl]; omega) (by omega)
        rw [hpl] at hown5
        obtain ⟨A5, c5, rfl, _⟩ := own_rows iEnc_len (by decide) hown5
        have hb5 : Below w7.heap.size wr w5' := ((Below.refl _ _).alloc hzr _).grown hg5 (by simp; omega) fun g hg => (hown.lt g hg).1
        have hrem : (p.val : Int).tmod (dn : Int) = (j : Int) := by rw [← hj]; rfl
        have hp255 : IntKind.i64.wrap (p.val : Int) = p.val := IntWalk.i64_in _ (by have := p.isLt; omega)
        have hj64 : IntKind.i64.wrap (j : Int) = j := IntWalk.i64_in _ (by omega)
        have hd0' : (dn : Int) ≠ 0 := by omega
        have lb := lt_of_cell c0
        have lv := lt_of_cell d0
        have hkp' : (k : Int) < pn := by omega
        have hjd' : (j : Int) < dn := by omega
        have HR5 := hidp hrun
        have HO5 := hidp hown5
        have HB5' := hidp (hbe.trans hb5)
        have HST := hidp hstep
        clear hrun hown5 hb5 hstep hpl hown hown1 hg5 hat5 hPA hDA hpk hy hbe hzr hj
        obtain ⟨pv, hpv⟩ : ∃ n : Nat, p.val = n := ⟨_, rfl⟩
        rw [hpv] at c0 hrem hp255
        clear hpv
        go_wp2_with (at_builtin; refine wpList_append_known rfl (.tmp 72) (.tmp 84) 23 rfl rfl rfl HR5.out ?_)
        go_roundw
        case rel => exact ⟨k + 1, _, by omega, by go_num, rfl, by rw [HST.out]; exact HO5.out, HB5'.out⟩
        case measure => simp [intOf]; omega
      · obtain rfl : k = pn := by omega
        have hkk : ¬ ((k : Int) < k) := by omega
        have hT : ps.take k = ps := List.take_of_length_le (by rw [← HPn.out]; exact Nat.le_refl _)
        rw [hT] at hown
        obtain ⟨A9, c9, rfl, hr9⟩ := own_rows iEnc_len (by decide) hown
        have HV9 := hidp hr9
        have HBr := hidp hbe
        have HBR := hidp (HB7.out.trans (hbe.mono HB7.out.size))
        have HQr := hidp (HQ7.out.later hbe)
        clear hT hown hr9 hbe
        obtain ⟨x0, x1, x2, x3, l0⟩ := HQr.out.cells
        go_wp2_with fail
        refine (holds_any q FA fn fc l A9 k c9 _ _ (HQu.out _ HBR.out) (HWd.out _ HBR.out) (HFa.out _ HBR.out) HV9.out).mono ?_
        rintro e w8 ⟨rfl, hb8⟩
        have HB8 := hidp (HBr.out.trans (hb8.mono HBr.out.size))
        have HBW8 := hidp (HBR.out.trans (hb8.mono HBR.out.size))
        have HQ8 := hidp (HQr.out.later hb8)
        have HV8 : Hid (iSl w8 w8.heap.size A9 k c9 (pickJ (domR l) ps)) := HV9.out.keep (Rep.flat_stable _) hb8.size hb8.block
        have HVL : Hid ((pickJ (domR l) ps).length = q.names.length) := by
          show _ = _
          rw [pickJ_len, ← HPn.out, HPQ.out, HLen.out.1]
        have hE : holdE q (pickJ (domR l) ps) = 0 := by unfold holdE; rw [if_pos HCk.out, if_pos HVL.out]
        have hV : holdV q l (pickJ (domR l) ps) = holdsJ q l (pickJ (domR l) ps) := by unfold holdV; rw [HCk.out, decide_eq_true HVL.out]; rfl
        rw [hE, hV]
        clear x0 x1 x2 x3 l0 hb8 hE hV
        obtain ⟨x0, x1, x2, x3, l0⟩ := HQ8.out.cells
        obtain ⟨hh, hhh⟩ : ∃ b, holdsJ q l (pickJ (domR l) ps) = b := ⟨_, rfl⟩
        rw [hhh]
        have HH := hidp hhh
        clear hhh
        cases hh
        · go_wp2_with fail
          go_meet
          exact HB8.out
        have hshr : ∀ i ∈ q.shows, 0 ≤ i ∧ i < (k : Int) := fun i hi => by
          have h := HVars.out.1 i hi
          have h2 := HPQ.out
          have h3 := HLen.out.1
          omega
        have HShr := hidp hshr
        clear hshr
        go_wp2_with fail
        refine (shown_any q A9 k c9 _ _ (HQu.out _ HBW8.out) HV8.out (by omega) HShr.out).mono ?_
        rintro e w9 ⟨A6, n6, c6, rfl, hr9, hb9⟩
        have HB9 := hidp (HB8.out.trans (hb9.mono HB8.out.size))
        have HI9 := hidp hr9
        clear x0 x1 x2 x3 l0 hb9 hr9
        go_wp2_with fail
        refine (in_any A1 A6 n1 c1 n6 c6 (rowsV q l) _ _ (HR.out _ HB9.out) HI9.out).mono ?_
        rintro e wa ⟨rfl, hba⟩
        have HBa := hidp (HB9.out.trans (hba.mono HB9.out.size))
        have hin : showJ q (pickJ (domR l) ps) ∈ rowsV q l := by
          rw [HRJ.out]
          refine answer_row HVars.out HVL.out (pickJ_mem (by rw [HDn.out]; exact hd0)) HH.out
        rw [decide_eq_true hin]
        clear hba hin
        go_wp2_with fail
        go_meet
        exact HBa.out
  case rest =>
    have HCut := hidp hcut
    have HBc := hidp (HB7.out.trans (hcut.mono HB7.out.size))
    have HQc := hidp (HQ7.out.later hcut)
    clear x0 x1 x2 x3 l0 hcut
    obtain ⟨x0, x1, x2, x3, l0⟩ := HQc.out.cells
    by_cases hsn : q.sn = q.nn
    rotate_left
    · have hsn' : ((q.sn : Int) != (q.nn : Int)) = true := by simp; omega
      clear hsn
      go_wp2_with fail
      go_ret
      exact ⟨rfl, HBc.out⟩
    have hsn' : ((q.sn : Int) != (q.nn : Int)) = false := by simp; omega
    have HSn := hidp hsn
    clear hsn
    go_wp2_with fail
    clear x0 x1 x2 x3 l0
    go_loopw [14] (fun i wr => ∃ k : Nat, k ≤ q.sn ∧ i = .int .i64 k ∧ (∀ j, j < k → q.shows[j]? = some (j : Int)) ∧ QBox q w.heap.size wr ∧ Below w.heap.size w wr ∧ Below w7.heap.size w7 wr) (fun i _ => q.sn - (intOf i).toNat)
    case atStart => exact ⟨0, by omega, rfl, fun j hj => by omega, HQc.out, HBc.out, HCut.out⟩
    case round =>
      obtain ⟨k, hk, rfl, hal, hqb, hbe, hbx⟩ := hrel
      have HAl := hidp hal
      have HQb := hidp hqb
      have HBe := hidp hbe
      have HBx := hidp hbx
      obtain ⟨x0, x1, x2, x3, l0⟩ := hqb.cells
      clear hal hqb hbe hbx
      by_cases hks : k < q.sn
      · obtain ⟨sb, so, sh, hA, _, hsh, c0⟩ := iSl.get (HQu.out _ HBe.out).2.1 hks
        have hix := fun W => ix_Ints (c := q.sc) hA hks W
        simp only [Nat.mul_one] at hix
        have lb := lt_of_cell c0
        have hks' : (k : Int) < q.sn := by omega
        have HSh := hidp hsh
        clear hA hsh
        by_cases hshk : sh = k
        · subst hshk
          go_wp2_with fail
          go_roundw
          case rel => exact ⟨k + 1, by omega, by go_num, fun j hj => by
            rcases Nat.lt_or_ge j k with h | h
            · exact HAl.out j h
            · obtain rfl : j = k := by omega
              exact HSh.out, HQb.out, HBe.out, HBx.out⟩
          case measure => simp [intOf]; omega
        · have hshk' : (sh != (k : Int)) = true := by simpa using hshk
          go_wp2_with fail
          go_ret
          exact ⟨rfl, HBe.out⟩
      · obtain rfl : k = q.sn := by omega
        have hkk : ¬ ((q.sn : Int) < q.sn) := by omega
        have HRange : Hid (q.shows = rangeI q.names.length) := shows_range (by have := HSn.out; obtain ⟨h1, h2, _⟩ := HLen.out; omega) (fun j hj => HAl.out j (by have := HLen.out.2.1; omega))
        go_wp2_with fail
        clear x0 x1 x2 x3 l0
        go_loopw [15] (fun i wz => ∃ k : Nat, k ≤ n1 ∧ i = .int .i64 k ∧ QBox q w.heap.size wz ∧ Below w.heap.size w wz ∧ Below w7.heap.size w7 wz) (fun i _ => n1 - (intOf i).toNat)
        case atStart => exact ⟨0, by omega, rfl, HQb.out, HBe.out, HBx.out⟩
        case round =>
          obtain ⟨k, hk, rfl, hqz, hbz, hxz⟩ := hrel
          rename World => wz
          have HQz := hidp hqz
          have HBz := hidp hbz
          have HXz := hidp hxz
          obtain ⟨x0, x1, x2, x3, l0⟩ := hqz.cells
          clear hqz hbz hxz
          by_cases hkn : k < n1
          rotate_left
          · obtain rfl : k = n1 := by omega
            have hkk2 : ¬ ((k : Int) < k) := by omega
            go_wp2_with fail
            go_ret
            exact ⟨rfl, HBz.out⟩
          have hkn' : (k : Int) < n1 := by omega
          obtain ⟨rb, ro, RA, rc, r, hA, hr, c0, hir⟩ := (HR.out _ HXz.out).get hkn
          have hix := ix_intss (c := c1) hA hkn
          have lr := lt_of_cell c0
          have HRow : Hid (r.length = q.names.length ∧ (∀ n ∈ r, n ∈ domR l) ∧ holdsJ q l r = true) := row_answer HVars.out HRange.out (by rw [← HRJ.out]; exact List.mem_of_getElem? hr)
          have HIr := hidp hir
          have HRk := hidp hr
          clear hA hr hir
          go_wp2_with fail

          refine wp_region_S wz.heap.size 12 (fun _ => false) (Nat.le_refl _) (by kernel_rfl) (by kernel_rfl) (by kernel_rfl) ?_
          dsimp only [List.take, List.drop]
          apply relS_det (mask := [])
          · rfl
          · kernel_rfl
          · kernel_rfl
          · dsimp only [oblS]
            rintro w9 h9
            have hc9 := (bcell h9).1
            go_simp
            exact ⟨Below.refl _ _, rfl⟩
          dsimp only [List.nil_append, List.cons_append]
          apply relS_det (mask := [false])
          · rfl
          · kernel_rfl
          · kernel_rfl
          · dsimp only [oblS]
            rintro w9 h9
            go_simp
            exact ⟨Below.refl _ _, rfl⟩
          dsimp only [List.nil_append, List.cons_append]
          apply relS_det (mask := [false, false])
          · rfl
          · kernel_rfl
          · kernel_rfl
          · dsimp only [oblS]
            rintro w9 h9
            go_simp
            exact ⟨Below.refl _ _, rfl⟩
          dsimp only [List.nil_append, List.cons_append]
          apply relS_det (mask := [false, false, false])
          · rfl
          · kernel_rfl
          · kernel_rfl
          · dsimp only [oblS]
            rintro w9 h9
            go_simp
            exact ⟨Below.refl _ _, rfl⟩
          dsimp only [List.nil_append, List.cons_append]
          apply relS_det (mask := [false, false, true, true])
          · rfl
          · kernel_rfl
          · kernel_rfl
          · dsimp only [oblS]
            rintro w9 h9
            go_simp
            exact ⟨Below.refl _ _, rfl⟩
          dsimp only [List.nil_append, List.cons_append]
          apply relS_det (mask := [false, false, false, false, true])
          · rfl
          · kernel_rfl
          · kernel_rfl
          · dsimp only [oblS]
            rintro w9 h9
            have hc9 := (bcell h9).1
            go_simp
            exact ⟨Below.refl _ _, rfl⟩
          dsimp only [List.nil_append, List.cons_append]
          apply relS_det (mask := [true, true, false, false, false, true]) (x := .tuple #[.bool (holdV q l r), .int .i64 (holdE q r)])
          · rfl
          · kernel_rfl
          · kernel_rfl
          · dsimp only [oblS]
            rintro w9 h9
            go_simp
            refine (holds_any q FA fn fc l RA r.length rc r _ (HQu.out _ (HBz.out.trans (h9.mono HBz.out.size))) (HWd.out _ (HBz.out.trans (h9.mono HBz.out.size))) (HFa.out _ (HBz.out.trans (h9.mono HBz.out.size))) (HIr.out.keep (Rep.flat_stable _) h9.size h9.block)).mono ?_
            rintro e W5 ⟨rfl, hb5⟩
            exact ⟨_, rfl, hb5, rfl⟩
          dsimp only [List.nil_append, List.cons_append]
          apply relS_det (mask := [false, false, false, false, false, false, true])
          · rfl
          · kernel_rfl
          · kernel_rfl
          · dsimp only [oblS]
            rintro w9 h9
            go_simp
            exact ⟨Below.refl _ _, rfl⟩
          dsimp only [List.nil_append, List.cons_append]
          apply relS_det (mask := [false, false, false, false, false, false, false, true])
          · rfl
          · kernel_rfl
          · kernel_rfl
          · dsimp only [oblS]
            rintro w9 h9
            go_simp
            exact ⟨Below.refl _ _, rfl⟩
          dsimp only [List.nil_append, List.cons_append]
          apply relS_det (mask := [false, false, false, false, false, false, false, true, false])
          · rfl
          · kernel_rfl
          · kernel_rfl
          · dsimp only [oblS]
            rintro w9 h9
            go_simp
            exact ⟨Below.refl _ _, rfl⟩
          dsimp only [List.nil_append, List.cons_append]
          apply relS_det (mask := [false, false, false, false, false, false, false, false, true, false])
          · rfl
          · kernel_rfl
          · kernel_rfl
          · dsimp only [oblS]
            rintro w9 h9
            go_simp
            exact ⟨Below.refl _ _, rfl⟩
          dsimp only [List.nil_append, List.cons_append]
          apply relS_det (mask := [false, false, false, false, false, false, false, false, false, true, false])
          · rfl
          · kernel_rfl
          · kernel_rfl
          · dsimp only [oblS]
            rintro w9 h9
            go_simp
            exact ⟨Below.refl _ _, rfl⟩
          dsimp only [List.nil_append, List.cons_append]
          refine relS_end (by rfl) ?_
          dsimp only [finS]
          -- rintro  w8 hb
          rintro w8 hb8
          have hE : holdE q r = 0 := by unfold holdE; rw [if_pos HCk.out, if_pos HRow.out.1]
          have hV : holdV q l r = true := by
            have h : holdV q l r = holdsJ q l r := by unfold holdV; rw [HCk.out, decide_eq_true HRow.out.1]; rfl
            rw [h]; exact HRow.out.2.2
          have HB8 := hidp (HBz.out.trans (hb8.mono HBz.out.size))
          have HX8 := hidp (HXz.out.trans (hb8.mono HXz.out.size))
          have HQ8 := hidp (HQz.out.later hb8)
          rw [hE, hV]
          clear hb8 hE hV x0 x1 x2 x3 l0 hix lr c0
          go_wp2_with fail
          go_loopw [18] (fun i wv => ∃ j : Nat, j ≤ r.length ∧ i = .int .i64 j ∧ QBox q w.heap.size wv ∧ Below w.heap.size w wv ∧ Below w7.heap.size w7 wv) (fun i _ => r.length - (intOf i).toNat)
          case atStart => exact ⟨0, by omega, rfl, HQ8.out, HB8.out, HX8.out⟩
          case round =>
            obtain ⟨j, hj, rfl, hqv, hbv, hxv⟩ := hrel
            rename World => wv
            have HQv := hidp hqv
            have HBv := hidp hbv
            have HXv := hidp hxv
            clear hqv hbv hxv
            obtain ⟨rb2, ro2, RA2, rc2, r2, hA2, hr2, c2, hir2⟩ := (HR.out _ HXv.out).get hkn
            have e2 : r2 = r := Option.some.inj (hr2.symm.trans HRk.out)
            rw [e2] at c2 hir2
            have hix2 := ix_intss (c := c1) hA2 hkn
            have lr2 := lt_of_cell c2
            have HI2 := hidp hir2
            have hrc := hir2.2.1
            have hrcc := hir2.2.2.1
            clear hr2 hA2 hir2 e2
            by_cases hjr : j < r.length
            rotate_left
            · obtain rfl : j = r.length := by omega
              have hkk3 : ¬ ((r.length : Int) < (r.length : Int)) := by omega
              go_wp2_with fail
              go_roundw
              case rel => exact ⟨k + 1, by omega, by go_num, HQv.out, HBv.out, HXv.out⟩
              case measure => simp [intOf]; omega
            have hjr' : (j : Int) < r.length := by omega
            obtain ⟨x, hx⟩ : ∃ x, r[j]? = some x := ⟨_, List.getElem?_eq_getElem hjr⟩
            have HX := hidp hx
            have hxd : x ∈ domR l := HRow.out.2.1 x (List.mem_of_getElem? hx)
            have HXd := hidp hxd
            clear hx hxd
            go_wp2_with fail
            clear hix2 lr2 c2
            go_loopw [19, 20] (fun s i wu => ∃ (m : Nat) (b : Bool), m ≤ dn ∧ i = .int .i64 m ∧ s = .bool b ∧ (b = true ↔ x ∈ (domR l).take m) ∧ QBox q w.heap.size wu ∧ Below w.heap.size w wu ∧ Below w7.heap.size w7 wu) (fun _ i _ => dn - (intOf i).toNat)
            case atStart => exact ⟨0, false, by omega, rfl, rfl, by simp, HQv.out, HBv.out, HXv.out⟩
            case round =>
              obtain ⟨m, b, hm, rfl, rfl, hbm, hqu, hbu, hxu⟩ := hrel
              rename World => wu
              have HBm := hidp hbm
              have HQu' := hidp hqu
              have HBu := hidp hbu
              have HXu := hidp hxu
              clear hbm hqu hbu hxu
              by_cases hmd : m < dn
              · obtain ⟨rb3, ro3, RA3, rc3, r3, hA3, hr3, c3, hir3⟩ := (HR.out _ HXu.out).get hkn
                have e3 : r3 = r := Option.some.inj (hr3.symm.trans HRk.out)
                rw [e3] at c3 hir3
                have hix3 := ix_intss (c := c1) hA3 hkn
                obtain ⟨xb, xo, x', hRA, _, hx', cx⟩ := iSl.get hir3 hjr
                have ex : x' = x := Option.some.inj (hx'.symm.trans HX.out)
                rw [ex] at cx
                have hixx := fun W => ix_Ints (c := rc3) hRA hjr W
                obtain ⟨db, doff, y, hDA, _, hy, d0⟩ := iSl.get (HD.out wu HXu.out) hmd
                have hixd := fun W => ix_Ints (c := dc) hDA hmd W
                simp only [Nat.mul_one] at hixx hixd
                have hmd' : (m : Int) < dn := by omega
                have l3 := lt_of_cell c3
                have lx := lt_of_cell cx
                have ld := lt_of_cell d0
                have HY := hidp hy
                clear hr3 hA3 hir3 e3 hx' ex hRA hDA hy
                cases b
                · go_wp2_with fail
                  go_quiet (fail)
                  go_wp2_with fail
                  go_roundw
                  case rel =>
                    refine ⟨m + 1, y == x, by omega, by go_num, rfl, ?_, ⟨HQu'.out.box⟩, ⟨HBu.out.os, HBu.out.tape, HBu.out.output, HBu.out.size, HBu.out.block⟩, ⟨HXu.out.os, HXu.out.tape, HXu.out.output, HXu.out.size, HXu.out.block⟩⟩
                    rw [take_snoc HY.out, List.mem_append, List.mem_singleton, ← HBm.out]
                    constructor
                    · intro h; exact .inr (by simpa using h : y = x).symm
                    · rintro (h | h)
                      · cases h
                      · rw [h]; simp
                  case measure => show dn - ((m : Int) + 1).toNat < dn - ((m : Int)).toNat; omega
                · go_wp2_with fail
                  go_quiet (fail)
                  go_wp2_with fail
                  go_roundw
                  case rel =>
                    refine ⟨m + 1, true, by omega, by go_num, rfl, ?_, ⟨HQu'.out.box⟩, ⟨HBu.out.os, HBu.out.tape, HBu.out.output, HBu.out.size, HBu.out.block⟩, ⟨HXu.out.os, HXu.out.tape, HXu.out.output, HXu.out.size, HXu.out.block⟩⟩
                    rw [take_snoc HY.out, List.mem_append, ← HBm.out]
                    simp
                  case measure => simp [intOf]; omega
              · obtain rfl : m = dn := by omega
                have hmm : ¬ ((m : Int) < m) := by omega
                have hb1 : b = true := HBm.out.2 (by rw [← HDn.out, List.take_length]; exact HXd.out)
                subst hb1
                go_wp2_with fail
                go_roundw
                case rel => exact ⟨j + 1, by omega, by go_num, HQu'.out, HBu.out, HXu.out⟩
                case measure => simp [intOf]; omega
end Go.Proofs.YtbegdcjofnfkiaaDoor
