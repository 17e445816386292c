/- PagesFacts walked (printed by tools/gen148.py). -/
import Derived.Test.YtpnfpdkoeednhaaAP14
import Derived.Test.YtpnfpdkoeednhaaA29
import Derived.Test.YtpnfpdkoeednhaaM5
import Derived.Test.YtpnfpdkoeednhaaME
import Derived.BigQuiet
namespace Go.Proofs.Ytpnfpdkoeednhaa
open Go.RowKit Go.Shelf Go.Sort

theorem kInfoP : (Try.prog.info? 27).map (fun i => (i.zero, i.size, i.bytes)) = some (some (.agg #[.int .i64 0, .int .i64 0, .int .i64 0]), 3, 24) := by kernel_rfl
theorem kEnc_lenP (k : Ky) : (kEnc k).length = 3 := rfl
theorem kEnc_oneP (k : Ky) : ∀ u ∈ kEnc k, u.oneCell' = true := by
  intro u hu
  simp [kEnc] at hu
  rcases hu with rfl | rfl | rfl <;> rfl
theorem ix_KeysP {A : Option Addr} {n c k b off : Nat} (hA : A = some ⟨b, off, none⟩) (hk : k < n) (W : World) : (Instr.indexAt 48 (.slice A n c) (.int .i64 k)).run Try.prog W = .ok (.pointer (some ⟨b, off + k * 3, none⟩)) W := by
  subst hA
  have hk' : (k : Int) < n := by omega
  simp [go_sem, hk']
theorem kGetP {n₀ n c k : Nat} {A : Option Addr} {l : List Ky} {W : World} (h : Rows 3 (Rep.flat kEnc) W n₀ A n c l) (hk : k < n) :
    ∃ b off m, A = some ⟨b, off, none⟩ ∧ b < n₀ ∧ l[k]? = some m ∧ W.cell? ⟨b, off + k * 3, none⟩ = some (.int .i64 m.kind) ∧ W.cell? ⟨b, off + k * 3 + 1, none⟩ = some (.int .i64 m.subj) ∧ W.cell? ⟨b, off + k * 3 + 2, none⟩ = some (.int .i64 m.obj) := by
  obtain ⟨b, off, m, cs, e, hlt, hk', rfl, hc⟩ := Rows.get h hk
  exact ⟨b, off, m, e, hlt, hk', hc 0 _ rfl, hc 1 _ rfl, hc 2 _ rfl⟩
/-- What stands when the versions are looked at. -/
structure FtS (l m : List Fc) (fn X : Nat) (A : Option Addr) (c : Nat) (s : Ps) (w : World) : Prop where
  perm : m.Perm l
  rows : fSl w w.heap.size A fn c m
  st : FlS (fillF m) s w
  box : w.heap[X]? = some (.cells #[.slice s.pA s.pn s.pc, .slice s.rA s.rn s.rc] 25 (0, 0))
theorem FtS.later {l m : List Fc} {fn X c : Nat} {A : Option Addr} {s : Ps} {w w' : World} (h : FtS l m fn X A c s w) (hb : Below w.heap.size w w') : FtS l m fn X A c s w' :=
  ⟨h.perm, h.rows.keep fStable hb.size hb.block, h.st.later hb, (hb.block _ (lt_of_heap h.box)).trans h.box⟩
set_option maxRecDepth 100000 in
set_option maxHeartbeats 8000000 in
theorem factsP_any (FA : Option Addr) (fn fc : Nat) (l : List Fc) (z : Int) (kk : Ky) (term known : Int) (w : World) (hl : fSl w w.heap.size FA fn fc l) (hz0 : 0 ≤ z ∧ z ≤ 18446744073709551615) :
    Calls Try.prog 5 #[.slice FA fn fc, .int .u64 z, .agg #[.int .i64 kk.kind, .int .i64 kk.subj, .int .i64 kk.obj], .int .i64 term, .int .i64 known] w fun e w' => e = .returned (.bool true) ∧ Below w.heap.size w w' := by
  obtain ⟨i0, hi, hz, hs, hbb⟩ := info_parts fInfo
  obtain ⟨j0, hji, hjz, hjs, hjb⟩ := info_parts kInfoP
  obtain ⟨nb, hnb⟩ : ∃ b, w.heap.size = b := ⟨_, rfl⟩
  obtain ⟨W, hW⟩ : ∃ W, w.alloc (.cells #[.int .i64 kk.kind, .int .i64 kk.subj, .int .i64 kk.obj] 27) = W := ⟨_, rfl⟩
  have c1 : Below w.heap.size w W := hW ▸ (Below.refl _ w).alloc (Nat.le_refl _) _
  have g1 : W.heap[nb]? = some (.cells #[.int .i64 kk.kind, .int .i64 kk.subj, .int .i64 kk.obj] 27 (0, 0)) := by rw [← hW, ← hnb]; exact World.alloc_heap_new _ _
  have HFa : Hid (∀ W', Below W.heap.size W W' → fSl W' W'.heap.size FA fn fc l) := fun W' h => hl.keep (Rep.flat_stable _) (c1.trans (h.mono c1.size)).size (c1.trans (h.mono c1.size)).block
  have HKb := hidp g1
  have HC1 := hidp c1
  have HFn := hidp hl.1
  have hfc := hl.2.1
  have hfc2 := hl.2.2.1
  clear c1 g1 hl
  go_enter Try.func5, Try.ntmps5
  go_wp2_with fail
  clear hW hnb
  refine (sane_any W).mono ?_
  rintro e w1 ⟨rfl, hb1⟩
  have HB1 := hidp hb1
  clear hb1
  by_cases h24 : 24 < fn
  · have hc : (24 : Int) < fn := by omega
    go_wp2_with fail
    go_ret
    exact ⟨rfl, HC1.out.trans (HB1.out.mono HC1.out.size)⟩
  have hc : ¬ ((24 : Int) < fn) := by omega
  go_wp2_with fail
  refine (fCheck_any FA fn fc l w1 (HFa.out _ HB1.out)).mono ?_
  rintro e w2 ⟨rfl, hb2⟩
  obtain ⟨ec, hec⟩ : ∃ e, checkF l = e := ⟨_, rfl⟩
  have HEc := hidp hec
  rw [hec]
  have HB2 := hidp (HB1.out.trans (hb2.mono HB1.out.size))
  clear hb2 hec
  by_cases he0 : ec = 0
  case neg =>
    have hne : (ec != 0) = true := by simpa using he0
    clear he0
    go_wp2_with fail
    go_ret
    exact ⟨rfl, HC1.out.trans (HB2.out.mono HC1.out.size)⟩
  subst he0
  have hcz : ((0 : Int) != 0) = false := rfl
  go_wp2_with fail
  clear hcz
  obtain ⟨t, ht, hrem0⟩ := rem_natP (n := 63) hz0.1
  have hrem : z.tmod 64 = (t : Int) := hrem0
  have hwt : IntKind.u64.wrap (t : Int) = t := u64_inP (by omega)
  have hwt2 : IntKind.i64.wrap (t : Int) = t := IntWalk.i64_in _ (by omega)
  clear hrem0
  go_loopw [11, 12] (fun v i wr => ∃ (j : Nat) (v9 : Value), j ≤ fn ∧ i = .int .i64 j ∧ v = v9 ∧ wr.ownsRow w2.heap.size 31 8 v9 j ((rotF l t j).flatMap fEnc) ∧ Below w2.heap.size w2 wr) (fun _ i _ => fn - (intOf i).toNat)
  case atStart => exact ⟨0, _, by omega, rfl, rfl, own_emptyP w2 w2.heap.size 8 31 (Nat.le_refl _), (Below.refl _ _).alloc (Nat.le_refl _) _⟩
  case round =>
  obtain ⟨j, v9, hj, rfl, rfl, hown, hbe⟩ := hrel
  by_cases hjn : j < fn
  · have hjn' : (j : Int) < fn := by omega
    obtain ⟨q, hq⟩ : ∃ q, (7 * j + t) % fn = q := ⟨_, rfl⟩
    have hqn : q < fn := by rw [← hq]; exact Nat.mod_lt _ (by omega)
    obtain ⟨fb, fo, y, hA, _, hy, c0, c1, c2, c3, c4, c5, c6, c7⟩ := fSl.get (HFa.out wr (HB2.out.trans (hbe.mono HB2.out.size))) hqn
    have hix := fun W => ix_FactsP (c := fc) hA hqn W
    have lb := lt_of_cell c0
    have hpos : 0 < l.length := by have := HFn.out; omega
    have hrl : (rotF l t j).length = j := rotF_len l t j hpos
    have hstep : rotF l t (j + 1) = rotF l t j ++ [y] := rotF_snoc l t j (by rw [← HFn.out, hq]; exact hy)
    obtain ⟨A9, c9, rfl, _⟩ := own_rows fEnc_len (by decide) hown
    have hown1 : wr.ownsRow w2.heap.size 31 8 (.slice A9 j c9) (rotF l t j).length ((rotF l t j).flatMap fEnc) := by rw [hrl]; exact hown
    have hzr := hbe.size
    obtain ⟨v5, w5', hrun, hown5, hg5, hat5⟩ := run_append_one (P := Try.prog) (ty := 41) (l := rotF l t j) (enc := fEnc) (w := wr) (base := w2.heap.size) Try.underlying41 hi hz hs hbb rfl fEnc_len (by decide) fEnc_one hown1 y (by rw [hrl]; omega) (by rw [hrl]; omega) (by omega)
    rw [hrl] at hown5
    obtain ⟨A5, c5', rfl, _⟩ := own_rows fEnc_len (by decide) hown5
    have hb5 : Below w2.heap.size wr w5' := ((Below.refl _ _).alloc hzr _).grown hg5 (by simp; omega) fun g hg => (hown.lt g hg).1
    have hm1 : IntKind.i64.wrap (7 * (j : Int)) = 7 * (j : Int) := IntWalk.i64_in _ (by omega)
    have hm2 : IntKind.i64.wrap (7 * (j : Int) + (t : Int)) = 7 * (j : Int) + (t : Int) := IntWalk.i64_in _ (by omega)
    have hm3 : (7 * (j : Int) + (t : Int)).tmod (fn : Int) = (q : Int) := by rw [← hq]; rfl
    have hwq : IntKind.i64.wrap (q : Int) = q := IntWalk.i64_in _ (by omega)
    have hwj : IntKind.i64.wrap ((j : Int) + 1) = (j : Int) + 1 := IntWalk.i64_in _ (by omega)
    have hd0 : (fn : Int) ≠ 0 := by omega
    have hqn' : (q : Int) < fn := by omega
    have HR5 := hidp hrun
    have HO5 := hidp hown5
    have HB5 := hidp (hbe.trans hb5)
    have HST := hidp hstep
    clear hrun hown5 hb5 hstep hrl hown hown1 hg5 hat5 hA hy hbe hzr hq hpos
    go_wp2_with (at_builtin; refine wpList_append_known rfl (.tmp 40) (.tmp 53) 41 rfl rfl rfl HR5.out ?_)
    go_roundw
    case rel => exact ⟨j + 1, _, by omega, by go_num, rfl, by rw [HST.out]; exact HO5.out, HB5.out⟩
    case measure => simp [intOf]; omega
  obtain rfl : j = fn := by omega
  have hjj : ¬ ((j : Int) < j) := by omega
  obtain ⟨A9, c9, rfl, hr9⟩ := own_rows fEnc_len (by decide) hown
  have HR9 : Hid (∀ W', Below wr.heap.size wr W' → fSl W' W'.heap.size A9 j c9 (rotF l t j)) := fun W' h => hr9.keep (Rep.flat_stable _) h.size h.block
  have HBr := hidp (HB2.out.trans (hbe.mono HB2.out.size))
  have h9c := hr9.2.1
  have h9c2 := hr9.2.2.1
  clear hown hbe hr9 hrem hwt hwt2
  go_wp2_with fail
  refine (pgNew_any wr).mono ?_
  rintro e w4 ⟨s0, rfl, hs0, hps0, hro0, hb4, -, -⟩
  have HB4 := hidp (HBr.out.trans (hb4.mono HBr.out.size))
  have HR4 := hidp (HR9.out w4 hb4)
  have HS0 : Hid (FlS fst0 s0 w4) := ⟨hs0, hps0, hro0⟩
  have HR9' := hidp hb4
  clear hs0 hps0 hro0 hb4
  go_wp2_with fail
  refine (filled_any s0 A9 j c9 (rotF l t j) w4 HS0.out HR4.out (by omega)).mono ?_
  rintro e w5 ⟨s, rfl, hf5, hb5, -, -⟩
  obtain ⟨n1, hn1⟩ : ∃ n, (fillF (rotF l t j)).acc.length = n := ⟨_, rfl⟩
  have HN1 := hidp hn1
  rw [hn1]
  obtain ⟨X, hX⟩ : ∃ b, w5.heap.size = b := ⟨_, rfl⟩
  obtain ⟨W5, hW5⟩ : ∃ W, w5.alloc (.cells #[.slice s.pA s.pn s.pc, .slice s.rA s.rn s.rc] 25) = W := ⟨_, rfl⟩
  have c5 : Below w5.heap.size w5 W5 := hW5 ▸ (Below.refl _ w5).alloc (Nat.le_refl _) _
  have g5 : W5.heap[X]? = some (.cells #[.slice s.pA s.pn s.pc, .slice s.rA s.rn s.rc] 25 (0, 0)) := by rw [← hW5, ← hX]; exact World.alloc_heap_new _ _
  have b5 := HB4.out.trans (hb5.mono HB4.out.size)
  have HBX := hidp (b5.trans (c5.mono b5.size))
  have HXs : Hid (wr.heap.size ≤ X ∧ X < W5.heap.size ∧ W.heap.size ≤ X) := ⟨by have h1 := HR9'.out.size; have h2 := hb5.size; omega, lt_of_heap g5, by have := b5.size; omega⟩
  have HF5 := hidp (hf5.later c5)
  have HG5 := hidp g5
  have HR5 := hidp (HR9.out W5 (HR9'.out.trans ((hb5.trans (c5.mono hb5.size)).mono HR9'.out.size)))
  have x0 := cell_of_heap (o := 0) g5
  have x1 := cell_of_heap (o := 1) g5
  have x2 := lt_of_heap g5
  simp only [List.getElem?_toArray, List.getElem?_cons_zero, List.getElem?_cons_succ] at x0 x1
  clear hf5 hb5 c5 g5 b5 hn1
  obtain ⟨r7, hr7⟩ : ∃ r, j % 7 = r := ⟨_, rfl⟩
  have HR7 := hidp hr7
  have hrm : (j : Int).tmod 7 = (r7 : Int) := by rw [← hr7]; rfl
  have hw7 : IntKind.i64.wrap (r7 : Int) = (r7 : Int) := IntWalk.i64_in _ (by omega)
  have HRn : Hid (s.rn = n1 + 1) := by
    show _ = _
    rw [HF5.out.inn.inn.roots.1, HF5.out.roots, (fill_inv _).len, HN1.out]
  have hn124 : n1 ≤ 24 := by
    rw [← HN1.out]
    have h1 := fill_len (rotF l t j)
    have h2 := HR5.out.1
    omega
  have hwn : IntKind.i64.wrap ((n1 : Int) + 1) = (n1 : Int) + 1 := IntWalk.i64_in _ (by omega)
  have hrr : ((s.rn : Int) != (n1 : Int) + 1) = false := by rw [HRn.out]; simp
  clear hr7
  have HChk : Hid (errP (checkP (fillF (rotF l t j)).ps (fillF (rotF l t j)).roots) = 0) := by
    show _ = _
    rw [(fill_inv _).check]; rfl
  have HLen : Hid (j = l.length) := HFn
  have HPerm : Hid (r7 ≠ 0 → (rotF l t j).Perm l) := fun h => by
    have h1 := rotF_perm (l := l) (by have := HLen.out; omega) (by rw [← HLen.out, HR7.out]; exact h) t
    rwa [← HLen.out] at h1
  have HFull : Hid (r7 ≠ 0 → n1 = j) := fun h => by
    rw [← HN1.out, facts_len HEc.out (HPerm.out h), HLen.out]
  go_upto_region 11 with fail
  go_cut [83] (fun s83 wx => s83 = .bool false ∧ Below W5.heap.size W5 wx)
  case first =>
    by_cases h70 : r7 = 0
    · have hr0 : ((r7 : Int) != 0) = false := by rw [h70]; rfl
      have HZ7 := hidp h70
      clear h70
      go_wp2_with fail
      refine (check_any (fillF (rotF l t j)) s W5 HF5.out).mono ?_
      rintro e w6 ⟨rfl, hb6⟩
      rw [HChk.out]
      have HB6 := hidp hb6
      have HG6 := hidp ((hb6.block _ x2).trans HG5.out)
      clear x0 x1 x2 hb6
      have x0 := cell_of_heap (o := 0) HG6.out
      have x1 := cell_of_heap (o := 1) HG6.out
      have x2 := lt_of_heap HG6.out
      simp only [List.getElem?_toArray, List.getElem?_cons_zero, List.getElem?_cons_succ] at x0 x1
      go_wp2_with fail
      go_meet
      exact ⟨rfl, HB6.out⟩
    · have hr0 : ((r7 : Int) != 0) = true := by simp; omega
      have hnj : ((n1 : Int) != (j : Int)) = false := by rw [HFull.out h70]; simp
      clear h70
      go_wp2_with fail
      refine (check_any (fillF (rotF l t j)) s W5 HF5.out).mono ?_
      rintro e w6 ⟨rfl, hb6⟩
      rw [HChk.out]
      have HB6 := hidp hb6
      have HG6 := hidp ((hb6.block _ x2).trans HG5.out)
      clear x0 x1 x2 hb6
      have x0 := cell_of_heap (o := 0) HG6.out
      have x1 := cell_of_heap (o := 1) HG6.out
      have x2 := lt_of_heap HG6.out
      simp only [List.getElem?_toArray, List.getElem?_cons_zero, List.getElem?_cons_succ] at x0 x1
      go_wp2_with fail
      go_meet
      exact ⟨rfl, HB6.out⟩
  case rest =>
  obtain ⟨rfl, hb6⟩ := hcut
  rename World => w6
  have HB6 := hidp hb6
  have HG6 := hidp ((hb6.block _ x2).trans HG5.out)
  have HF6 := hidp (HF5.out.later hb6)
  have HR6 := hidp (HR5.out.keep fStable hb6.size hb6.block)
  have HBY := hidp (HBX.out.trans (hb6.mono HBX.out.size))
  have HX6 : Hid (X < w6.heap.size) := by have := hb6.size; have := HXs.out.2.1; show _ < _; omega
  clear x0 x1 x2 hb6 hrr hwn
  have x0 := cell_of_heap (o := 0) HG6.out
  have x1 := cell_of_heap (o := 1) HG6.out
  have x2 := lt_of_heap HG6.out
  have x3 := frozen_of_heap (o := 0) HG6.out
  have x4 := frozen_of_heap (o := 1) HG6.out
  simp only [List.getElem?_toArray, List.getElem?_cons_zero, List.getElem?_cons_succ] at x0 x1
  go_upto_if 87 with fail
  go_cut [11, 14] (fun v11 v14 wx => ∃ (A : Option Addr) (c : Nat) (m : List Fc) (s' : Ps), v11 = .slice A j c ∧ v14 = .int .i64 (j : Int) ∧ FtS l m j X A c s' wx ∧ Below W.heap.size W wx)
  case first =>
    by_cases h70 : r7 = 0
    · have hr0 : ((r7 : Int) == 0) = true := by rw [h70]; rfl
      have HZ7 := hidp h70
      clear h70
      go_wp2_with fail
      refine (pgNew_any w6).mono ?_
      rintro e w7 ⟨p0, rfl, hs0, hps0, hro0, hb7, hfar, -⟩
      have HP0 : Hid (FlS fst0 p0 w7) := ⟨hs0, hps0, hro0⟩
      have HFar := hidp hfar
      have HB7 := hidp hb7
      clear hs0 hps0 hro0 hb7 hfar
      go_wp2_with fail
      refine (filled_any p0 FA j fc l w7 HP0.out (HFa.out _ (HBY.out.trans (HB7.out.mono HBY.out.size))) (by omega)).mono ?_
      rintro e w8 ⟨p1, rfl, hf8, hb8, -, hfar8⟩
      have HB8 := hidp (HB7.out.trans (hb8.mono HB7.out.size))
      have HF8 := hidp hf8
      have HFar8 : Hid (∀ x, PsBl p1 x → x ≠ X) := fun x hx e => by
        have h6 := HX6.out
        have h7 := HB7.out.size
        rcases hfar8 x hx with h | h
        · have := HFar.out x h; omega
        · omega
      have HG8 := hidp ((HB8.out.block X HX6.out).trans HG6.out)
      rw [facts_len HEc.out (List.Perm.refl l), ← HLen.out]
      clear x0 x1 x2 x3 x4 hf8 hb8 hfar8
      have x0 := cell_of_heap (o := 0) HG8.out
      have x1 := cell_of_heap (o := 1) HG8.out
      have x2 := lt_of_heap HG8.out
      have x3 := frozen_of_heap (o := 0) HG8.out
      have x4 := frozen_of_heap (o := 1) HG8.out
      simp only [List.getElem?_toArray, List.getElem?_cons_zero, List.getElem?_cons_succ] at x0 x1
      go_wp2_with fail
      go_meet
      have hO : Only X w8 ((w8.setCell ⟨X, 0, none⟩ (.slice p1.pA p1.pn p1.pc)).setCell ⟨X, 1, none⟩ (.slice p1.rA p1.rn p1.rc)) := (Only.setCell _ _ _ _).trans (Only.setCell _ _ _ _)
      have hbx := heap_setN (heap_setN HG8.out 0 (.slice p1.pA p1.pn p1.pc)) 1 (.slice p1.rA p1.rn p1.rc)
      have hb9 : Below W.heap.size W ((w8.setCell ⟨X, 0, none⟩ (.slice p1.pA p1.pn p1.pc)).setCell ⟨X, 1, none⟩ (.slice p1.rA p1.rn p1.rc)) := ((HBY.out.trans (HB8.out.mono HBY.out.size)).setCell (p := ⟨X, 0, none⟩) HXs.out.2.2 _).setCell (p := ⟨X, 1, none⟩) HXs.out.2.2 _
      exact ⟨FA, fc, l, p1, rfl, rfl, ⟨List.Perm.refl l, HFa.out _ hb9, ⟨⟨HF8.out.inn.inn.only hO HFar8.out, HF8.out.inn.slim⟩, HF8.out.ps, HF8.out.roots⟩, by simpa using hbx⟩, hb9⟩
    · have hr0 : ((r7 : Int) == 0) = false := by simp; omega
      have hFu := HFull.out h70
      have hPe := HPerm.out h70
      clear h70
      go_wp2_with fail
      go_meet
      exact ⟨A9, c9, rotF l t j, s, rfl, by rw [hFu], ⟨hPe, HR6.out, HF6.out, HG6.out⟩, HBY.out⟩
  case rest =>
  obtain ⟨mA, mc, m, p, rfl, rfl, hft, hbw⟩ := hcut
  rename World => w10
  have HT := hidp hft
  have HB10 := hidp hbw
  have hmc := hft.rows.2.1
  have hmc2 := hft.rows.2.2.1
  have HAc : Hid ((fillF m).acc.length = j) := by show _ = _; rw [facts_len HEc.out hft.perm, ← HLen.out]
  have hrn : ((p.rn : Int) != (j : Int) + 1) = false := by
    rw [hft.st.inn.inn.roots.1, hft.st.roots, (fill_inv _).len, HAc.out]; simp
  have hwn : IntKind.i64.wrap ((j : Int) + 1) = (j : Int) + 1 := IntWalk.i64_in _ (by omega)
  clear x0 x1 x2 x3 x4 hft hbw hrm hw7
  have x0 := cell_of_heap (o := 0) HT.out.box
  have x1 := cell_of_heap (o := 1) HT.out.box
  have x2 := lt_of_heap HT.out.box
  have gk := (HB10.out.block _ (lt_of_heap HKb.out)).trans HKb.out
  have k0 := cell_of_heap (o := 0) gk
  have k1 := cell_of_heap (o := 1) gk
  have k2 := cell_of_heap (o := 2) gk
  have k3 := lt_of_heap gk
  simp only [List.getElem?_toArray, List.getElem?_cons_zero, List.getElem?_cons_succ] at x0 x1 k0 k1 k2
  obtain ⟨W11, hW11⟩ : ∃ W, w10.alloc (.cells #[.int .i64 kk.kind, .int .i64 kk.subj, .int .i64 kk.obj] 27) = W := ⟨_, rfl⟩
  have own11 : W11.ownsRow w10.heap.size 27 3 (.slice (some ⟨w10.heap.size, 0, none⟩) 1 1) 1 (([kk] : List Ky).flatMap kEnc) := by rw [← hW11]; exact own_singleP w10 w10.heap.size 3 27 (kEnc kk) rfl (Nat.le_refl _)
  have c11 : Below w10.heap.size w10 W11 := hW11 ▸ (Below.refl _ w10).alloc (Nat.le_refl _) _
  have HO11 := hidp own11
  have HC11 := hidp c11
  clear own11 c11 gk
  go_upto_if 111 with fail
  clear x0 x1 x2 k0 k1 k2 k3 hrn hwn hW11
  go_cut [15] (fun v15 wx => ∃ (A : Option Addr) (c : Nat) (ks : List Ky), v15 = .slice A ks.length c ∧ Rows 3 (Rep.flat kEnc) wx wx.heap.size A ks.length c ks ∧ ks.length ≤ 3 ∧ Below w10.heap.size w10 wx)
  case first =>
    by_cases hj0 : j = 0
    · have hj1 : ¬ ((0 : Int) < j) := by omega
      have HJ0 := hidp hj0
      clear hj0
      obtain ⟨A, c, hA, hr⟩ := own_rows kEnc_lenP (by decide) HO11.out
      cases hA
      go_wp2_with fail
      go_meet
      exact ⟨_, _, [kk], rfl, hr, by simp, HC11.out⟩
    · have hj1 : (0 : Int) < j := by omega
      obtain ⟨h2, hh⟩ : ∃ h, j / 2 = h := ⟨_, rfl⟩
      have HH := hidp hh
      have hq2 : (j : Int).tdiv 2 = (h2 : Int) := by rw [← hh]; rfl
      have hw2 : IntKind.i64.wrap (h2 : Int) = h2 := IntWalk.i64_in _ (by omega)
      obtain ⟨fb, fo, f0, hA, _, hf0, c0, c1, c2, _⟩ := fSl.get (HFa.out W11 (HB10.out.trans (HC11.out.mono HB10.out.size))) (show 0 < j by omega)
      obtain ⟨fb2, fo2, f1, hA2, _, hf1, e0, e1, e2, _⟩ := fSl.get (HFa.out W11 (HB10.out.trans (HC11.out.mono HB10.out.size))) (show h2 < j by omega)
      have hix0 : ∀ W, (Instr.indexAt 41 (.slice FA j fc) (.int .i64 0)).run Try.prog W = .ok (.pointer (some ⟨fb, fo, none⟩)) W := fun W => ix_FactsP (k := 0) (c := fc) (off := fo) hA (show 0 < j by omega) W
      simp only [Nat.zero_mul, Nat.add_zero] at c0 c1 c2
      have hix1 := fun W => ix_FactsP (c := fc) hA2 (show h2 < j by omega) W
      have lb := lt_of_cell c0
      have lb2 := lt_of_cell e0
      clear hj0 hA hA2 hf0 hf1 hh
      go_wp2_with fail
      refine wp_region_QS (w10.heap.size) (fun k => k == 13) (fun k => k == 12 || k == 13 || k == 14) (fun k => k == 0 || k == 1 || k == 2 || k == 3 || k == 4 || k == 5 || k == 6 || k == 7 || k == 8 || k == 9 || k == 10 || k == 11 || k == 12 || k == 13) (HC11.out.size) (by kernel_rfl) (by kernel_rfl) (by kernel_rfl) (by kernel_rfl) ?_
      apply qs_det (mask := []) (S := (Below W11.heap.size W11)) (m := (fun w => w.heap.size)) (x := .slice (some ⟨w10.heap.size, 0, none⟩) 1 1) (hS := by rfl) (hm := by rfl) (hg := by kernel_rfl) (hk := by kernel_rfl)
      · dsimp only [oblS]
        rintro w9 h9
        go_simp
        exact ⟨Below.refl _ _, rfl⟩
      dsimp only [List.nil_append, List.cons_append]
      apply qs_det (mask := [false]) (S := (Below W11.heap.size W11)) (m := (fun w => w.heap.size)) (hS := by rfl) (hm := by rfl) (hg := by kernel_rfl) (hk := by kernel_rfl)
      · dsimp only [oblS]
        rintro w9 h9
        go_simp
        exact ⟨Below.refl _ _, rfl⟩
      dsimp only [List.nil_append, List.cons_append]
      apply qs_det (mask := [false, true]) (S := (Below W11.heap.size W11)) (m := (fun w => w.heap.size)) (hS := by rfl) (hm := by rfl) (hg := by kernel_rfl) (hk := by kernel_rfl)
      · dsimp only [oblS]
        rintro w9 h9
        go_simp
        exact ⟨Below.refl _ _, rfl⟩
      dsimp only [List.nil_append, List.cons_append]
      apply qs_det (mask := [false, false, true]) (S := (Below W11.heap.size W11)) (m := (fun w => w.heap.size)) (hS := by rfl) (hm := by rfl) (hg := by kernel_rfl) (hk := by kernel_rfl)
      · dsimp only [oblS]
        rintro w9 h9
        go_simp
        exact ⟨Below.refl _ _, rfl⟩
      dsimp only [List.nil_append, List.cons_append]
      apply qs_det (mask := [false, false, false, true]) (S := (Below W11.heap.size W11)) (m := (fun w => w.heap.size)) (x := .agg #[.int .i64 f0.key.kind, .int .i64 f0.key.subj, .int .i64 f0.key.obj]) (hS := by rfl) (hm := by rfl) (hg := by kernel_rfl) (hk := by kernel_rfl)
      · dsimp only [oblS]
        rintro w9 h9
        have hc9 := (bcell h9).1
        go_simp
        exact ⟨Below.refl _ _, rfl⟩
      dsimp only [List.nil_append, List.cons_append]
      apply qs_det (mask := [false, false, false, false, false]) (S := (Below W11.heap.size W11)) (m := (fun w => w.heap.size)) (hS := by rfl) (hm := by rfl) (hg := by kernel_rfl) (hk := by kernel_rfl)
      · dsimp only [oblS]
        rintro w9 h9
        go_simp
        exact ⟨Below.refl _ _, rfl⟩
      dsimp only [List.nil_append, List.cons_append]
      apply qs_det (mask := [false, false, false, false, false, false]) (S := (Below W11.heap.size W11)) (m := (fun w => w.heap.size)) (hS := by rfl) (hm := by rfl) (hg := by kernel_rfl) (hk := by kernel_rfl)
      · dsimp only [oblS]
        rintro w9 h9
        go_simp
        exact ⟨Below.refl _ _, rfl⟩
      dsimp only [List.nil_append, List.cons_append]
      apply qs_det (mask := [false, false, false, false, false, false, true]) (S := (Below W11.heap.size W11)) (m := (fun w => w.heap.size)) (hS := by rfl) (hm := by rfl) (hg := by kernel_rfl) (hk := by kernel_rfl)
      · dsimp only [oblS]
        rintro w9 h9
        go_simp
        exact ⟨Below.refl _ _, rfl⟩
      dsimp only [List.nil_append, List.cons_append]
      apply qs_det (mask := [false, false, false, false, false, false, false, true]) (S := (Below W11.heap.size W11)) (m := (fun w => w.heap.size)) (x := .int .i64 (h2 : Int)) (hS := by rfl) (hm := by rfl) (hg := by kernel_rfl) (hk := by kernel_rfl)
      · dsimp only [oblS]
        rintro w9 h9
        go_simp
        exact ⟨Below.refl _ _, rfl⟩
      dsimp only [List.nil_append, List.cons_append]
      apply qs_det (mask := [false, false, false, false, false, true, false, false, true]) (S := (Below W11.heap.size W11)) (m := (fun w => w.heap.size)) (hS := by rfl) (hm := by rfl) (hg := by kernel_rfl) (hk := by kernel_rfl)
      · dsimp only [oblS]
        rintro w9 h9
        go_simp
        exact ⟨Below.refl _ _, rfl⟩
      dsimp only [List.nil_append, List.cons_append]
      apply qs_det (mask := [false, false, false, false, false, false, false, false, false, true]) (S := (Below W11.heap.size W11)) (m := (fun w => w.heap.size)) (hS := by rfl) (hm := by rfl) (hg := by kernel_rfl) (hk := by kernel_rfl)
      · dsimp only [oblS]
        rintro w9 h9
        go_simp
        exact ⟨Below.refl _ _, rfl⟩
      dsimp only [List.nil_append, List.cons_append]
      apply qs_det (mask := [false, false, false, false, false, false, false, false, false, false, true]) (S := (Below W11.heap.size W11)) (m := (fun w => w.heap.size)) (x := .agg #[.int .i64 f1.key.kind, .int .i64 f1.key.subj, .int .i64 f1.key.obj]) (hS := by rfl) (hm := by rfl) (hg := by kernel_rfl) (hk := by kernel_rfl)
      · dsimp only [oblS]
        rintro w9 h9
        have hc9 := (bcell h9).1
        go_simp
        exact ⟨Below.refl _ _, rfl⟩
      dsimp only [List.nil_append, List.cons_append]
      apply qs_any (mask := [false, false, false, false, true, false, false, false, false, false, false, true]) (S := (Below W11.heap.size W11)) (m := (fun w => w.heap.size)) (T := fun v W => ∃ g, v = .slice (some ⟨g, 0, none⟩) 2 2 ∧ w10.heap.size ≤ g ∧ W.heap[g]? = some (.cells #[.int .i64 f0.key.kind, .int .i64 f0.key.subj, .int .i64 f0.key.obj, .int .i64 f1.key.kind, .int .i64 f1.key.subj, .int .i64 f1.key.obj] 27 (0, 0))) (hT := fun v w w' hb ⟨g, e, h1, h2⟩ => ⟨g, e, h1, (hb.block _ (lt_of_heap h2)).trans h2⟩) (hf := by kernel_rfl) (hS := by rfl) (hm := by rfl) (hg := by kernel_rfl) (hk := by kernel_rfl)
      · dsimp only [oblS]
        rintro w9 h9 T' hT'
        go_simp
        exact ⟨(Below.refl _ w9).alloc (Nat.le_refl _) _, hT' _ _ ⟨_, rfl, Nat.le_trans HC11.out.size h9.size, World.alloc_heap_new w9 _⟩⟩
      dsimp only [List.nil_append, List.cons_append]
      apply qs_any (mask := [true, false, false, false, false, false, false, false, false, false, false, false, true]) (S := (Below W11.heap.size W11)) (m := (fun _ => w10.heap.size)) (T := fun v W => W.ownsRow w10.heap.size 27 3 v 3 (([kk, f0.key, f1.key] : List Ky).flatMap kEnc)) (hT := fun v w w' hb h => own_keepB h fun g hg => hb.block g (h.lt g hg).2) (hf := by kernel_rfl) (hS := by rfl) (hm := by rfl) (hg := by kernel_rfl) (hk := by kernel_rfl)
      · dsimp only [oblS]
        intro v124
        rintro w9 ⟨h9, t124⟩ T' hT'
        obtain ⟨g, e0, hg0, hh0⟩ := t124
        subst e0
        have own9 : w9.ownsRow w10.heap.size 27 3 (.slice (some ⟨w10.heap.size, 0, none⟩) 1 1) 1 (([kk] : List Ky).flatMap kEnc) := own_keepB HO11.out fun g hg => h9.block g (HO11.out.lt g hg).2
        have hr9 : Rows 3 (Rep.flat kEnc) w9 w9.heap.size (some ⟨g, 0, none⟩) 2 2 [f0.key, f1.key] := rows_of_heap (l := [f0.key, f1.key]) (c := 2) kEnc_lenP hh0 (by simp) (by omega) (by simp [kEnc])
        obtain ⟨v', w', hrun, hown', hg', hat⟩ := run_append_rows (P := Try.prog) (ty := 48) (l := [kk]) (enc := kEnc) Try.underlying48 hji hjz hjs hjb rfl kEnc_lenP (by decide) kEnc_oneP own9 hr9 (by omega) (by omega) (Nat.le_trans HC11.out.size h9.size)
        have hbg : Below w10.heap.size w9 w' := (Below.refl _ w9).grown hg' (Nat.le_trans HC11.out.size h9.size) fun g e => (own9.lt g e).1
        exact relUpon_append (.tmp 112) (.tmp 124) 48 rfl rfl rfl hrun hbg (hT' _ _ hown')
      dsimp only [List.nil_append, List.cons_append]
      apply qs_any (mask := [true, false, false, false, false, false, false, false, false, false, false, false, false, true]) (S := (Below (w10.heap.size) W11)) (m := (fun w => w.heap.size)) (T := fun v W => W.ownsRow w10.heap.size 27 3 v 3 (([kk, f0.key, f1.key] : List Ky).flatMap kEnc)) (hT := fun v w w' hb h => own_keepB h fun g hg => hb.block g (h.lt g hg).2) (hf := by kernel_rfl) (hS := by rfl) (hm := by rfl) (hg := by kernel_rfl) (hk := by kernel_rfl)
      · dsimp only [oblS]
        intro v125
        rintro w9 ⟨h9, t125⟩ T' hT'
        exact ⟨Below.refl _ _, hT' _ _ t125⟩
      dsimp only [List.nil_append, List.cons_append]
      refine qs_end [false, false, false, false, false, false, false, false, false, false, false, false, true, false, false] (by kernel_rfl) (by kernel_rfl) ?_
      dsimp only [finQ]
      rintro v124 v125 v15 w8 ⟨⟨hb, t125⟩, t15⟩
      go_simp
      go_wp2_with fail
      go_meet
      obtain ⟨A5, c5, rfl, hr5⟩ := own_rows kEnc_lenP (by decide) t15
      exact ⟨A5, c5, [kk, f0.key, f1.key], rfl, hr5, by simp, HC11.out.trans hb⟩
  case rest =>
  obtain ⟨kA, kc, ks, rfl, hks, hk3, hb12⟩ := hcut
  rename World => w12
  have HKs : Hid (∀ W', Below w12.heap.size w12 W' → Rows 3 (Rep.flat kEnc) W' W'.heap.size kA ks.length kc ks) := fun W' h => hks.keep (Rep.flat_stable _) h.size h.block
  have HT12 := hidp (HT.out.later hb12)
  have HB12 := hidp (HB10.out.trans (hb12.mono HB10.out.size))
  have hkc := hks.2.1
  have hkc2 := hks.2.2.1
  obtain ⟨kn, hkn⟩ : ∃ n, ks.length = n := ⟨_, rfl⟩
  have HKn := hidp hkn
  rw [hkn] at hkc hk3 ⊢
  clear hks hb12 hkn HO11 HC11
  go_wp2_with fail
  go_loopw [16, 17, 18, 19, 20, 21, 22] (fun s16 s17 s18 s19 s20 s21 s22 wr => ∃ (i : Nat) (v17 v18 v19 v20 v21 v22 : Value), i ≤ kn ∧ s16 = .int .i64 i ∧ s17 = v17 ∧ s18 = v18 ∧ s19 = v19 ∧ s20 = v20 ∧ s21 = v21 ∧ s22 = v22 ∧ Below w12.heap.size w12 wr) (fun s16 _ _ _ _ _ _ _ => kn - (intOf s16).toNat)
  case atStart => exact ⟨0, _, _, _, _, _, _, by omega, rfl, rfl, rfl, rfl, rfl, rfl, rfl, Below.refl _ _⟩
  case round =>
  obtain ⟨i, v17, v18, v19, v20, v21, v22, hik, rfl, rfl, rfl, rfl, rfl, rfl, rfl, hbi⟩ := hrel
  rename World => wi
  have HBi := hidp hbi
  clear hbi
  by_cases hin : i < kn
  case neg =>
    have hin' : ¬ ((i : Int) < kn) := by omega
    go_wp2_with fail
    go_ret
    have h1 := HB12.out.trans (HBi.out.mono HB12.out.size)
    exact ⟨rfl, HC1.out.trans (h1.mono HC1.out.size)⟩
  have hin' : (i : Int) < kn := by omega
  have hwi : IntKind.i64.wrap ((i : Int) + 1) = (i : Int) + 1 := IntWalk.i64_in _ (by omega)
  go_wp2_with fail
  go_loopw [17, 18, 19, 20, 21, 22] (fun s17 s18 s19 s20 s21 s22 wr => ∃ (v : Nat) (v18 v19 v20 v21 v22 : Value), v ≤ j + 1 ∧ s17 = .int .i64 v ∧ s18 = v18 ∧ s19 = v19 ∧ s20 = v20 ∧ s21 = v21 ∧ s22 = v22 ∧ Below w12.heap.size w12 wr) (fun s17 _ _ _ _ _ _ => j + 1 - (intOf s17).toNat)
  case atStart => exact ⟨0, _, _, _, _, _, by omega, rfl, rfl, rfl, rfl, rfl, rfl, HBi.out⟩
  case round =>
  obtain ⟨v, u18, u19, u20, u21, u22, hvj, rfl, rfl, rfl, rfl, rfl, rfl, hbv⟩ := hrel
  rename World => wv
  have HBv := hidp hbv
  clear hbv
  by_cases hvn : v ≤ j
  case neg =>
    have hvn' : ¬ ((v : Int) ≤ j) := by omega
    go_wp2_with fail
    go_roundw
    case rel => exact ⟨i + 1, _, _, _, _, _, _, by omega, by go_num, rfl, rfl, rfl, rfl, rfl, rfl, HBv.out⟩
    case measure => simp [intOf]; omega
  have hvn' : (v : Int) ≤ j := by omega
  have hwv : IntKind.i64.wrap ((v : Int) + 1) = (v : Int) + 1 := IntWalk.i64_in _ (by omega)
  have hcut := fun W => run_cut_high (P := Try.prog) W Try.underlying41 hi mA j mc v .i64 (v : Int) rfl (by omega)
  have HTv := hidp (HT12.out.later HBv.out)
  obtain ⟨kb, ko, key, hKA, _, hkey, d0, d1, d2⟩ := kGetP (HKs.out wv HBv.out) (show i < ks.length by have := HKn.out; omega)
  have hixk := fun W => ix_KeysP (n := kn) (c := kc) hKA hin W
  have lk := lt_of_cell d0
  have HVer := hidp ((facts_ver HEc.out HT.out.perm).2 v (by have := HT.out.rows.1; omega))
  obtain ⟨q, hq⟩ : ∃ q, atF (m.take v) key term known = q := ⟨_, rfl⟩
  have HQ := hidp hq
  have x0 := cell_of_heap (o := 0) HTv.out.box
  have x1 := cell_of_heap (o := 1) HTv.out.box
  have x2 := lt_of_heap HTv.out.box
  simp only [List.getElem?_toArray, List.getElem?_cons_zero, List.getElem?_cons_succ] at x0 x1
  clear hq hKA hkey
  go_upto_region 27 with fail
  refine wp_region_S wv.heap.size 16 (fun _ => false) (Nat.le_refl _) (by kernel_rfl) (by kernel_rfl) (by kernel_rfl) ?_
  dsimp only [List.take, List.drop]
  apply relS_det (mask := []) (x := .agg #[.slice p.pA p.pn p.pc, .slice p.rA p.rn p.rc])
  · rfl
  · kernel_rfl
  · kernel_rfl
  · dsimp only [oblS]
    rintro w9 h9
    have hc9 := (bcell h9).1
    go_simp
    exact ⟨Below.refl _ _, rfl⟩
  dsimp only [List.nil_append, List.cons_append]
  apply relS_det (mask := [false]) (x := .int .i64 (v : Int))
  · rfl
  · kernel_rfl
  · kernel_rfl
  · dsimp only [oblS]
    rintro w9 h9
    go_simp
    exact ⟨Below.refl _ _, rfl⟩
  dsimp only [List.nil_append, List.cons_append]
  apply relS_det (mask := [false, false])
  · rfl
  · kernel_rfl
  · kernel_rfl
  · dsimp only [oblS]
    rintro w9 h9
    go_simp
    exact ⟨Below.refl _ _, rfl⟩
  dsimp only [List.nil_append, List.cons_append]
  apply relS_det (mask := [false, false, false])
  · rfl
  · kernel_rfl
  · kernel_rfl
  · dsimp only [oblS]
    rintro w9 h9
    go_simp
    exact ⟨Below.refl _ _, rfl⟩
  dsimp only [List.nil_append, List.cons_append]
  apply relS_det (mask := [false, false, true, true])
  · rfl
  · kernel_rfl
  · kernel_rfl
  · dsimp only [oblS]
    rintro w9 h9
    go_simp
    exact ⟨Below.refl _ _, rfl⟩
  dsimp only [List.nil_append, List.cons_append]
  apply relS_det (mask := [false, false, false, false, true]) (x := .agg #[.int .i64 key.kind, .int .i64 key.subj, .int .i64 key.obj])
  · rfl
  · kernel_rfl
  · kernel_rfl
  · dsimp only [oblS]
    rintro w9 h9
    have hc9 := (bcell h9).1
    go_simp
    exact ⟨Below.refl _ _, rfl⟩
  dsimp only [List.nil_append, List.cons_append]
  apply relS_det (mask := [false, false, false, false, false, false])
  · rfl
  · kernel_rfl
  · kernel_rfl
  · dsimp only [oblS]
    rintro w9 h9
    go_simp
    exact ⟨Below.refl _ _, rfl⟩
  dsimp only [List.nil_append, List.cons_append]
  apply relS_det (mask := [false, false, false, false, false, false, false])
  · rfl
  · kernel_rfl
  · kernel_rfl
  · dsimp only [oblS]
    rintro w9 h9
    go_simp
    exact ⟨Below.refl _ _, rfl⟩
  dsimp only [List.nil_append, List.cons_append]
  apply relS_det (mask := [true, true, false, false, false, true, true, true]) (x := .tuple #[.int .i64 (q.getD 0), .bool q.isSome, .int .i64 0])
  · rfl
  · kernel_rfl
  · kernel_rfl
  · dsimp only [oblS]
    rintro w9 h9
    have hc9 := (bcell h9).1
    go_simp
    refine (at_any (fillF m) p (v : Nat) key term known w9 (HTv.out.st.later h9) (by rw [HVer.out.2.1]; omega)).mono ?_
    rintro e w7 ⟨rfl, hb7⟩
    exact ⟨_, rfl, hb7, by show _ = _; rw [HVer.out.2.2 key term known, HQ.out, HVer.out.1]; rfl⟩
  dsimp only [List.nil_append, List.cons_append]
  apply relS_det (mask := [false, false, false, false, false, false, false, false, true]) (x := .tuple #[.int .i64 (q.getD 0), .bool q.isSome, .int .i64 0])
  · rfl
  · kernel_rfl
  · kernel_rfl
  · dsimp only [oblS]
    rintro w9 h9
    go_simp
    exact ⟨Below.refl _ _, rfl⟩
  dsimp only [List.nil_append, List.cons_append]
  apply relS_det (mask := [false, false, false, false, false, false, false, false, false, true]) (x := .int .i64 (q.getD 0))
  · rfl
  · kernel_rfl
  · kernel_rfl
  · dsimp only [oblS]
    rintro w9 h9
    go_simp
    exact ⟨Below.refl _ _, rfl⟩
  dsimp only [List.nil_append, List.cons_append]
  apply relS_det (mask := [false, false, false, false, false, false, false, false, false, true, false]) (x := .bool q.isSome)
  · rfl
  · kernel_rfl
  · kernel_rfl
  · dsimp only [oblS]
    rintro w9 h9
    go_simp
    exact ⟨Below.refl _ _, rfl⟩
  dsimp only [List.nil_append, List.cons_append]
  apply relS_det (mask := [false, false, false, false, false, false, false, false, false, true, false, false]) (x := .int .i64 0)
  · rfl
  · kernel_rfl
  · kernel_rfl
  · dsimp only [oblS]
    rintro w9 h9
    go_simp
    exact ⟨Below.refl _ _, rfl⟩
  dsimp only [List.nil_append, List.cons_append]
  apply relS_det (mask := [false, false, false, false, false, false, false, false, false, false, true, false, false]) (x := .int .i64 (q.getD 0))
  · rfl
  · kernel_rfl
  · kernel_rfl
  · dsimp only [oblS]
    rintro w9 h9
    go_simp
    exact ⟨Below.refl _ _, rfl⟩
  dsimp only [List.nil_append, List.cons_append]
  apply relS_det (mask := [false, false, false, false, false, false, false, false, false, false, false, true, false, false]) (x := .bool q.isSome)
  · rfl
  · kernel_rfl
  · kernel_rfl
  · dsimp only [oblS]
    rintro w9 h9
    go_simp
    exact ⟨Below.refl _ _, rfl⟩
  dsimp only [List.nil_append, List.cons_append]
  apply relS_det (mask := [false, false, false, false, false, false, false, false, false, false, false, false, true, false, false]) (x := .int .i64 0)
  · rfl
  · kernel_rfl
  · kernel_rfl
  · dsimp only [oblS]
    rintro w9 h9
    go_simp
    exact ⟨Below.refl _ _, rfl⟩
  dsimp only [List.nil_append, List.cons_append]
  refine relS_end (by rfl) ?_
  dsimp only [finS]
  rintro wy hby
  have HTy := hidp (HTv.out.later hby)
  have HBy := hidp (HBv.out.trans (hby.mono HBv.out.size))
  have d0' := ((bcell hby).1 kb (ko + i * 3) lk).trans d0
  have d1' := ((bcell hby).1 kb (ko + i * 3 + 1) lk).trans d1
  have d2' := ((bcell hby).1 kb (ko + i * 3 + 2) lk).trans d2
  have lk' := lt_of_cell d0'
  clear x0 x1 x2 d0 d1 d2 lk hby
  go_simp
  go_upto_region 28 with fail
  refine wp_region_S wy.heap.size 15 (fun _ => false) (Nat.le_refl _) (by kernel_rfl) (by kernel_rfl) (by kernel_rfl) ?_
  dsimp only [List.take, List.drop]
  apply relS_det (mask := [])
  · rfl
  · kernel_rfl
  · kernel_rfl
  · dsimp only [oblS]
    rintro w9 h9
    go_simp
    exact ⟨Below.refl _ _, rfl⟩
  dsimp only [List.nil_append, List.cons_append]
  apply relS_det (mask := [false])
  · rfl
  · kernel_rfl
  · kernel_rfl
  · dsimp only [oblS]
    rintro w9 h9
    go_simp
    exact ⟨Below.refl _ _, rfl⟩
  dsimp only [List.nil_append, List.cons_append]
  apply relS_det (mask := [true, true]) (x := .slice mA v mc)
  · rfl
  · kernel_rfl
  · kernel_rfl
  · dsimp only [oblS]
    rintro w9 h9
    go_simp
    exact ⟨Below.refl _ _, rfl⟩
  dsimp only [List.nil_append, List.cons_append]
  apply relS_det (mask := [false, false, false])
  · rfl
  · kernel_rfl
  · kernel_rfl
  · dsimp only [oblS]
    rintro w9 h9
    go_simp
    exact ⟨Below.refl _ _, rfl⟩
  dsimp only [List.nil_append, List.cons_append]
  apply relS_det (mask := [false, false, false, false])
  · rfl
  · kernel_rfl
  · kernel_rfl
  · dsimp only [oblS]
    rintro w9 h9
    go_simp
    exact ⟨Below.refl _ _, rfl⟩
  dsimp only [List.nil_append, List.cons_append]
  apply relS_det (mask := [false, false, false, true, true])
  · rfl
  · kernel_rfl
  · kernel_rfl
  · dsimp only [oblS]
    rintro w9 h9
    go_simp
    exact ⟨Below.refl _ _, rfl⟩
  dsimp only [List.nil_append, List.cons_append]
  apply relS_det (mask := [false, false, false, false, false, true]) (x := .agg #[.int .i64 key.kind, .int .i64 key.subj, .int .i64 key.obj])
  · rfl
  · kernel_rfl
  · kernel_rfl
  · dsimp only [oblS]
    rintro w9 h9
    have hc9 := (bcell h9).1
    go_simp
    exact ⟨Below.refl _ _, rfl⟩
  dsimp only [List.nil_append, List.cons_append]
  apply relS_det (mask := [false, false, false, false, false, false, false])
  · rfl
  · kernel_rfl
  · kernel_rfl
  · dsimp only [oblS]
    rintro w9 h9
    go_simp
    exact ⟨Below.refl _ _, rfl⟩
  dsimp only [List.nil_append, List.cons_append]
  apply relS_det (mask := [false, false, false, false, false, false, false, false])
  · rfl
  · kernel_rfl
  · kernel_rfl
  · dsimp only [oblS]
    rintro w9 h9
    go_simp
    exact ⟨Below.refl _ _, rfl⟩
  dsimp only [List.nil_append, List.cons_append]
  apply relS_det (mask := [false, false, true, false, false, false, true, true, true]) (x := .tuple #[.int .i64 (q.getD 0), .bool q.isSome])
  · rfl
  · kernel_rfl
  · kernel_rfl
  · dsimp only [oblS]
    rintro w9 h9
    have hc9 := (bcell h9).1
    go_simp
    refine (fAt_any mA v mc (m.take v) key term known w9 ((HTy.out.later h9).rows.take (by omega))).mono ?_
    rintro e w7 ⟨rfl, hb7⟩
    exact ⟨_, rfl, hb7, by show _ = _; rw [HQ.out]⟩
  dsimp only [List.nil_append, List.cons_append]
  apply relS_det (mask := [false, false, false, false, false, false, false, false, false, true]) (x := .tuple #[.int .i64 (q.getD 0), .bool q.isSome])
  · rfl
  · kernel_rfl
  · kernel_rfl
  · dsimp only [oblS]
    rintro w9 h9
    go_simp
    exact ⟨Below.refl _ _, rfl⟩
  dsimp only [List.nil_append, List.cons_append]
  apply relS_det (mask := [false, false, false, false, false, false, false, false, false, false, true]) (x := .int .i64 (q.getD 0))
  · rfl
  · kernel_rfl
  · kernel_rfl
  · dsimp only [oblS]
    rintro w9 h9
    go_simp
    exact ⟨Below.refl _ _, rfl⟩
  dsimp only [List.nil_append, List.cons_append]
  apply relS_det (mask := [false, false, false, false, false, false, false, false, false, false, true, false]) (x := .bool q.isSome)
  · rfl
  · kernel_rfl
  · kernel_rfl
  · dsimp only [oblS]
    rintro w9 h9
    go_simp
    exact ⟨Below.refl _ _, rfl⟩
  dsimp only [List.nil_append, List.cons_append]
  apply relS_det (mask := [false, false, false, false, false, false, false, false, false, false, false, true, false]) (x := .int .i64 (q.getD 0))
  · rfl
  · kernel_rfl
  · kernel_rfl
  · dsimp only [oblS]
    rintro w9 h9
    go_simp
    exact ⟨Below.refl _ _, rfl⟩
  dsimp only [List.nil_append, List.cons_append]
  apply relS_det (mask := [false, false, false, false, false, false, false, false, false, false, false, false, true, false]) (x := .bool q.isSome)
  · rfl
  · kernel_rfl
  · kernel_rfl
  · dsimp only [oblS]
    rintro w9 h9
    go_simp
    exact ⟨Below.refl _ _, rfl⟩
  dsimp only [List.nil_append, List.cons_append]
  refine relS_end (by rfl) ?_
  dsimp only [finS]
  rintro wz hbz
  have HBz := hidp (HBy.out.trans (hbz.mono HBy.out.size))
  clear d0' d1' d2' lk' hbz
  go_simp
  go_wp2_with fail
  go_roundw
  case rel => exact ⟨v + 1, _, _, _, _, _, by omega, by go_num, rfl, rfl, rfl, rfl, rfl, HBz.out⟩
  case measure => simp [intOf]; omega
end Go.Proofs.Ytpnfpdkoeednhaa
