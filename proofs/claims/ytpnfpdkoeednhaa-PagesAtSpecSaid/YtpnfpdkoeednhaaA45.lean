/- PagesAtSpec walked (printed by tools/gen155.py). -/
import Derived.Test.YtpnfpdkoeednhaaA44
import Derived.Test.YtpnfpdkoeednhaaA43
import Derived.Test.YtpnfpdkoeednhaaA29
import Derived.Test.YtpnfpdkoeednhaaME
namespace Go.Proofs.Ytpnfpdkoeednhaa
open Go.RowKit Go.Shelf Go.Sort

theorem kInfoQ : (Try.prog.info? 27).map (fun i => (i.zero, i.size, i.bytes)) = some (some (.agg #[.int .i64 0, .int .i64 0, .int .i64 0]), 3, 24) := by kernel_rfl
theorem kEnc_lenQ (k : Ky) : (kEnc k).length = 3 := rfl
theorem kEnc_oneQ (k : Ky) : ∀ u ∈ kEnc k, u.oneCell' = true := by
  intro u hu
  simp [kEnc] at hu
  rcases hu with rfl | rfl | rfl <;> rfl
theorem ix_KeysQ {A : Option Addr} {n c k b off : Nat} (hA : A = some ⟨b, off, none⟩) (hk : k < n) (W : World) : (Instr.indexAt 48 (.slice A n c) (.int .i64 k)).run Try.prog W = .ok (.pointer (some ⟨b, off + k * 3, none⟩)) W := by
  subst hA
  have hk' : (k : Int) < n := by omega
  simp [go_sem, hk']
theorem kGetQ {n₀ n c k : Nat} {A : Option Addr} {l : List Ky} {W : World} (h : Rows 3 (Rep.flat kEnc) W n₀ A n c l) (hk : k < n) :
    ∃ b off m, A = some ⟨b, off, none⟩ ∧ b < n₀ ∧ l[k]? = some m ∧ W.cell? ⟨b, off + k * 3, none⟩ = some (.int .i64 m.kind) ∧ W.cell? ⟨b, off + k * 3 + 1, none⟩ = some (.int .i64 m.subj) ∧ W.cell? ⟨b, off + k * 3 + 2, none⟩ = some (.int .i64 m.obj) := by
  obtain ⟨b, off, m, cs, e, hlt, hk', rfl, hc⟩ := Rows.get h hk
  exact ⟨b, off, m, e, hlt, hk', hc 0 _ rfl, hc 1 _ rfl, hc 2 _ rfl⟩
/-- The boxes of the pages and the key. -/
structure AtA (s : Ps) (kk : Ky) (n : Nat) (w0 w : World) : Prop where
  p : w.heap[n]? = some (.cells #[.slice s.pA s.pn s.pc, .slice s.rA s.rn s.rc] 25 (0, 0))
  k : w.heap[n + 1]? = some (.cells #[.int .i64 kk.kind, .int .i64 kk.subj, .int .i64 kk.obj] 27 (0, 0))
  below : Below w0.heap.size w0 w
  inn : PsIn s w w.heap.size
theorem AtA.later {s : Ps} {kk : Ky} {n : Nat} {w0 w w' : World} (h : AtA s kk n w0 w) (hb : Below w.heap.size w w') : AtA s kk n w0 w' :=
  ⟨(hb.block _ (lt_of_heap h.p)).trans h.p, (hb.block _ (lt_of_heap h.k)).trans h.k, h.below.trans (hb.mono h.below.size), h.inn.later hb⟩
set_option maxRecDepth 100000 in
set_option maxHeartbeats 8000000 in
theorem atP_any (s : Ps) (v : Int) (kk : Ky) (term known : Int) (w : World) (hps : PsIn s w w.heap.size) :
    Calls Try.prog 4 #[psVal s, .int .i64 v, .agg #[.int .i64 kk.kind, .int .i64 kk.subj, .int .i64 kk.obj], .int .i64 term, .int .i64 known] w fun e w' => e = .returned (.bool true) ∧ Below w.heap.size w w' := by
  obtain ⟨j0, hji, hjz, hjs, hjb⟩ := info_parts kInfoQ
  obtain ⟨n, hn⟩ : ∃ n, w.heap.size = n := ⟨_, rfl⟩
  obtain ⟨V, hV⟩ : ∃ V, w.alloc (.cells #[.slice s.pA s.pn s.pc, .slice s.rA s.rn s.rc] 25) = V := ⟨_, rfl⟩
  obtain ⟨W, hW⟩ : ∃ W, V.alloc (.cells #[.int .i64 kk.kind, .int .i64 kk.subj, .int .i64 kk.obj] 27) = W := ⟨_, rfl⟩
  have c0 : Below w.heap.size w V := hV ▸ (Below.refl _ w).alloc (Nat.le_refl _) _
  have c1 : Below V.heap.size V W := hW ▸ (Below.refl _ V).alloc (Nat.le_refl _) _
  have z0 : V.heap.size = n + 1 := by rw [← hV]; simp [hn]
  have g0 : W.heap[n]? = some (.cells #[.slice s.pA s.pn s.pc, .slice s.rA s.rn s.rc] 25 (0, 0)) := (c1.block _ (by omega)).trans (by rw [← hV, ← hn]; exact World.alloc_heap_new _ _)
  have g1 : W.heap[n + 1]? = some (.cells #[.int .i64 kk.kind, .int .i64 kk.subj, .int .i64 kk.obj] 27 (0, 0)) := by rw [← hW, ← z0]; exact World.alloc_heap_new _ _
  have cW := c0.trans (c1.mono c0.size)
  have HK0 : Hid (AtA s kk n w W) := ⟨g0, g1, cW, hps.later cW⟩
  have HPw := hidp hps
  clear c0 c1 cW g0 g1 hps
  go_enter Try.func4, Try.ntmps4
  go_wp2_with fail
  clear hV hW hn z0
  refine (sane_any W).mono ?_
  rintro e w1 ⟨rfl, hb1⟩
  have HK1 := hidp (HK0.out.later hb1)
  clear hb1
  have x0 := cell_of_heap (o := 0) HK1.out.p
  have x1 := cell_of_heap (o := 1) HK1.out.p
  have x2 := lt_of_heap HK1.out.p
  simp only [List.getElem?_toArray, List.getElem?_cons_zero, List.getElem?_cons_succ] at x0 x1
  go_wp2_with fail
  refine (few_any s w1 HK1.out.inn).mono ?_
  rintro e w2 ⟨rfl, hb2⟩
  have HK2 := hidp (HK1.out.later hb2)
  obtain ⟨few, hfew⟩ : ∃ f, fewP (psV s) s.roots = f := ⟨_, rfl⟩
  have HF := hidp hfew
  rw [hfew]
  clear x0 x1 x2 hb2 hfew
  have x0 := cell_of_heap (o := 0) HK2.out.p
  have x1 := cell_of_heap (o := 1) HK2.out.p
  have x2 := lt_of_heap HK2.out.p
  simp only [List.getElem?_toArray, List.getElem?_cons_zero, List.getElem?_cons_succ] at x0 x1
  cases few
  · go_wp2_with fail
    go_ret
    exact ⟨rfl, HK2.out.below⟩
  have HSlim := hidp (few_slim HPw.out HF.out)
  have HSum := hidp (few_sum HF.out)
  have HLen : Hid ((allV s v).length ≤ 1000000) := by
    show _ ≤ _
    rw [allV_eq]
    have := allB_len HF.out v
    omega
  have HRlen : Hid ((reachV s v).length ≤ 1000000) := by
    show _ ≤ _
    rw [reachV_eq]
    have h1 := reachB_len (ps := psV s) (roots := s.roots) (v := v)
    rw [psV_len] at h1
    have := HSlim.out.2.1
    omega
  obtain ⟨ev, hev⟩ : ∃ e, errP (verOk s v) = e := ⟨_, rfl⟩
  have HEv := hidp hev
  obtain ⟨l, hl⟩ : ∃ l, allV s v = l := ⟨_, rfl⟩
  have HL := hidp hl
  obtain ⟨rr, hrr⟩ : ∃ l, reachV s v = l := ⟨_, rfl⟩
  have HRr := hidp hrr
  clear hev hl hrr
  go_wp2_with fail
  refine (pgAll_any s v w2 HK2.out.inn HSlim.out.1 HLen.out).mono ?_
  rintro e w3 ⟨A1, n1, d1, rfl, hl1, hb3⟩
  rw [HEv.out]
  rw [HL.out] at hl1
  have HK3 := hidp (HK2.out.later hb3)
  have HL1 := hidp hl1
  clear x0 x1 x2 hb3 hl1
  have x0 := cell_of_heap (o := 0) HK3.out.p
  have x1 := cell_of_heap (o := 1) HK3.out.p
  have x2 := lt_of_heap HK3.out.p
  simp only [List.getElem?_toArray, List.getElem?_cons_zero, List.getElem?_cons_succ] at x0 x1
  go_wp2_with fail
  refine (r47All_any s v w3 HK3.out.inn HSlim.out.1 HSum.out).mono ?_
  rintro e w4 ⟨A2, n2, d2, rfl, hl2, hb4⟩
  rw [HEv.out]
  rw [HL.out] at hl2
  have HK4 := hidp (HK3.out.later hb4)
  have HL1b := hidp (HL1.out.keep fStable hb4.size hb4.block)
  have HL2 := hidp hl2
  have h2c := hl2.2.1
  have h2c2 := hl2.2.2.1
  clear x0 x1 x2 hb4 hl2
  have x0 := cell_of_heap (o := 0) HK4.out.p
  have x1 := cell_of_heap (o := 1) HK4.out.p
  have x2 := lt_of_heap HK4.out.p
  simp only [List.getElem?_toArray, List.getElem?_cons_zero, List.getElem?_cons_succ] at x0 x1
  go_wp2_with fail
  refine (pgReach_any s v w4 HK4.out.inn HSlim.out.1 HRlen.out).mono ?_
  rintro e w5 ⟨A3, n3, d3, rfl, hl3, hb5⟩
  rw [HEv.out]
  rw [HRr.out] at hl3
  have HK5 := hidp (HK4.out.later hb5)
  have HL1c := hidp (HL1b.out.keep fStable hb5.size hb5.block)
  have HL2c := hidp (HL2.out.keep fStable hb5.size hb5.block)
  have HL3 := hidp hl3
  clear x0 x1 x2 hb5 hl3
  have x0 := cell_of_heap (o := 0) HK5.out.p
  have x1 := cell_of_heap (o := 1) HK5.out.p
  have x2 := lt_of_heap HK5.out.p
  simp only [List.getElem?_toArray, List.getElem?_cons_zero, List.getElem?_cons_succ] at x0 x1
  go_wp2_with fail
  refine (r47Reach_any s v w5 HK5.out.inn HSlim.out.1 HSum.out (by have := HSlim.out.2.1; omega)).mono ?_
  rintro e w6 ⟨A4, n4, d4, rfl, hl4, hb6⟩
  rw [HEv.out]
  rw [HRr.out] at hl4
  have HK6 := hidp (HK5.out.later hb6)
  have HL1d := hidp (HL1c.out.keep fStable hb6.size hb6.block)
  have HL2d := hidp (HL2c.out.keep fStable hb6.size hb6.block)
  have HL3d := hidp (HL3.out.keep (Rep.flat_stable _) hb6.size hb6.block)
  have HL4 := hidp hl4
  clear x0 x1 x2 hb6 hl4
  go_wp2_with fail
  refine (fSame_any A1 A2 n1 n2 d1 d2 l l w6 HL1d.out HL2d.out).mono ?_
  rintro e w7 ⟨rfl, hb7⟩
  rw [decide_eq_true (rfl : l = l)]
  have HK7 := hidp (HK6.out.later hb7)
  have HL2e := hidp (HL2d.out.keep fStable hb7.size hb7.block)
  have HL3e := hidp (HL3d.out.keep (Rep.flat_stable _) hb7.size hb7.block)
  have HL4e := hidp (HL4.out.keep (Rep.flat_stable _) hb7.size hb7.block)
  clear hb7
  go_wp2_with fail
  refine (lw47same_any A3 A4 n3 n4 d3 d4 rr rr w7 HL3e.out HL4e.out).mono ?_
  rintro e w8 ⟨rfl, hb8⟩
  rw [decide_eq_true (rfl : rr = rr)]
  have HK8 := hidp (HK7.out.later hb8)
  have HL8 : Hid (∀ W', Below w8.heap.size w8 W' → fSl W' W'.heap.size A2 n2 d2 l) := fun W' h => HL2e.out.keep fStable (Nat.le_trans hb8.size h.size) (hb8.trans (h.mono hb8.size)).block
  clear hb8
  have k0 := cell_of_heap (o := 0) HK8.out.k
  have k1 := cell_of_heap (o := 1) HK8.out.k
  have k2 := cell_of_heap (o := 2) HK8.out.k
  have k3 := lt_of_heap HK8.out.k
  simp only [List.getElem?_toArray, List.getElem?_cons_zero, List.getElem?_cons_succ] at k0 k1 k2
  obtain ⟨W11, hW11⟩ : ∃ W, w8.alloc (.cells #[.int .i64 kk.kind, .int .i64 kk.subj, .int .i64 kk.obj] 27) = W := ⟨_, rfl⟩
  have own11 : W11.ownsRow w8.heap.size 27 3 (.slice (some ⟨w8.heap.size, 0, none⟩) 1 1) 1 (([kk] : List Ky).flatMap kEnc) := by rw [← hW11]; exact own_singleP w8 w8.heap.size 3 27 (kEnc kk) rfl (Nat.le_refl _)
  have c11 : Below w8.heap.size w8 W11 := hW11 ▸ (Below.refl _ w8).alloc (Nat.le_refl _) _
  have HO11 := hidp own11
  have HC11 := hidp c11
  clear own11 c11
  go_upto_if 80 with fail
  clear k0 k1 k2 k3 hW11
  go_cut [19] (fun v15 wx => ∃ (A : Option Addr) (c : Nat) (ks : List Ky), v15 = .slice A ks.length c ∧ Rows 3 (Rep.flat kEnc) wx wx.heap.size A ks.length c ks ∧ ks.length ≤ 3 ∧ Below w8.heap.size w8 wx)
  case first =>
    by_cases hj0 : n2 = 0
    · have hj1 : ¬ ((0 : Int) < n2) := by omega
      have HJ0 := hidp hj0
      obtain ⟨A, c, hA, hr⟩ := own_rows kEnc_lenQ (by decide) HO11.out
      cases hA
      have HHr := hidp hr
      have hj2 : ¬ (0 < n2) := by omega
      clear hj0 hr
      go_wp2_with fail
      go_meet
      exact ⟨_, _, [kk], rfl, HHr.out, by simp, HC11.out⟩
    · have hj1 : (0 : Int) < n2 := by omega
      have hj2 : 0 < n2 := by omega
      obtain ⟨h2, HH⟩ : ∃ h, Hid (h = n2 - 1) := ⟨_, rfl⟩
      have hq2 : IntKind.i64.wrap ((n2 : Int) - 1) = (h2 : Int) := by
        have := HH.out
        rw [show (n2 : Int) - 1 = (h2 : Int) by omega]
        exact IntWalk.i64_in _ (by omega)
      have hh2 : h2 < n2 := by have := HH.out; omega
      obtain ⟨fb, fo, f0, hA, _, hf0, c0, c1, c2, _⟩ := fSl.get (HL8.out W11 HC11.out) hj2
      obtain ⟨fb2, fo2, f1, hA2, _, hf1, e0, e1, e2, _⟩ := fSl.get (HL8.out W11 HC11.out) hh2
      have hix0 : ∀ W, (Instr.indexAt 41 (.slice A2 n2 d2) (.int .i64 0)).run Try.prog W = .ok (.pointer (some ⟨fb, fo, none⟩)) W := fun W => ix_FactsP (k := 0) (c := d2) (off := fo) hA hj2 W
      simp only [Nat.zero_mul, Nat.add_zero] at c0 c1 c2
      have hix1 := fun W => ix_FactsP (c := d2) hA2 hh2 W
      have lb := lt_of_cell c0
      have lb2 := lt_of_cell e0
      clear hj0 hA hA2 hf0 hf1
      go_wp2_with fail
      refine wp_region_QS (w8.heap.size) (fun k => k == 13) (fun k => k == 12 || k == 13 || k == 14) (fun k => k == 0 || k == 1 || k == 2 || k == 3 || k == 4 || k == 5 || k == 6 || k == 7 || k == 8 || k == 9 || k == 10 || k == 11 || k == 12 || k == 13) (HC11.out.size) (by kernel_rfl) (by kernel_rfl) (by kernel_rfl) (by kernel_rfl) ?_
      apply qs_det (mask := []) (S := (Below W11.heap.size W11)) (m := (fun w => w.heap.size)) (x := .slice (some ⟨w8.heap.size, 0, none⟩) 1 1) (hS := by rfl) (hm := by rfl) (hg := by kernel_rfl) (hk := by kernel_rfl)
      · dsimp only [oblS]
        rintro w9 h9
        go_simp
        exact ⟨Below.refl _ _, rfl⟩
      dsimp only [List.nil_append, List.cons_append]
      apply qs_det (mask := [false]) (S := (Below W11.heap.size W11)) (m := (fun w => w.heap.size)) (hS := by rfl) (hm := by rfl) (hg := by kernel_rfl) (hk := by kernel_rfl)
      · dsimp only [oblS]
        rintro w9 h9
        go_simp
        exact ⟨Below.refl _ _, rfl⟩
      dsimp only [List.nil_append, List.cons_append]
      apply qs_det (mask := [false, true]) (S := (Below W11.heap.size W11)) (m := (fun w => w.heap.size)) (hS := by rfl) (hm := by rfl) (hg := by kernel_rfl) (hk := by kernel_rfl)
      · dsimp only [oblS]
        rintro w9 h9
        go_simp
        exact ⟨Below.refl _ _, rfl⟩
      dsimp only [List.nil_append, List.cons_append]
      apply qs_det (mask := [false, false, true]) (S := (Below W11.heap.size W11)) (m := (fun w => w.heap.size)) (hS := by rfl) (hm := by rfl) (hg := by kernel_rfl) (hk := by kernel_rfl)
      · dsimp only [oblS]
        rintro w9 h9
        go_simp
        exact ⟨Below.refl _ _, rfl⟩
      dsimp only [List.nil_append, List.cons_append]
      apply qs_det (mask := [false, false, false, true]) (S := (Below W11.heap.size W11)) (m := (fun w => w.heap.size)) (x := .agg #[.int .i64 f0.key.kind, .int .i64 f0.key.subj, .int .i64 f0.key.obj]) (hS := by rfl) (hm := by rfl) (hg := by kernel_rfl) (hk := by kernel_rfl)
      · dsimp only [oblS]
        rintro w9 h9
        have hc9 := (bcell h9).1
        go_simp
        exact ⟨Below.refl _ _, rfl⟩
      dsimp only [List.nil_append, List.cons_append]
      apply qs_det (mask := [false, false, false, false, false]) (S := (Below W11.heap.size W11)) (m := (fun w => w.heap.size)) (hS := by rfl) (hm := by rfl) (hg := by kernel_rfl) (hk := by kernel_rfl)
      · dsimp only [oblS]
        rintro w9 h9
        go_simp
        exact ⟨Below.refl _ _, rfl⟩
      dsimp only [List.nil_append, List.cons_append]
      apply qs_det (mask := [false, false, false, false, false, false]) (S := (Below W11.heap.size W11)) (m := (fun w => w.heap.size)) (hS := by rfl) (hm := by rfl) (hg := by kernel_rfl) (hk := by kernel_rfl)
      · dsimp only [oblS]
        rintro w9 h9
        go_simp
        exact ⟨Below.refl _ _, rfl⟩
      dsimp only [List.nil_append, List.cons_append]
      apply qs_det (mask := [false, false, false, false, false, false, true]) (S := (Below W11.heap.size W11)) (m := (fun w => w.heap.size)) (hS := by rfl) (hm := by rfl) (hg := by kernel_rfl) (hk := by kernel_rfl)
      · dsimp only [oblS]
        rintro w9 h9
        go_simp
        exact ⟨Below.refl _ _, rfl⟩
      dsimp only [List.nil_append, List.cons_append]
      apply qs_det (mask := [false, false, false, false, false, false, false, true]) (S := (Below W11.heap.size W11)) (m := (fun w => w.heap.size)) (x := .int .i64 (h2 : Int)) (hS := by rfl) (hm := by rfl) (hg := by kernel_rfl) (hk := by kernel_rfl)
      · dsimp only [oblS]
        rintro w9 h9
        go_simp
        exact ⟨Below.refl _ _, rfl⟩
      dsimp only [List.nil_append, List.cons_append]
      apply qs_det (mask := [false, false, false, false, false, true, false, false, true]) (S := (Below W11.heap.size W11)) (m := (fun w => w.heap.size)) (hS := by rfl) (hm := by rfl) (hg := by kernel_rfl) (hk := by kernel_rfl)
      · dsimp only [oblS]
        rintro w9 h9
        go_simp
        exact ⟨Below.refl _ _, rfl⟩
      dsimp only [List.nil_append, List.cons_append]
      apply qs_det (mask := [false, false, false, false, false, false, false, false, false, true]) (S := (Below W11.heap.size W11)) (m := (fun w => w.heap.size)) (hS := by rfl) (hm := by rfl) (hg := by kernel_rfl) (hk := by kernel_rfl)
      · dsimp only [oblS]
        rintro w9 h9
        go_simp
        exact ⟨Below.refl _ _, rfl⟩
      dsimp only [List.nil_append, List.cons_append]
      apply qs_det (mask := [false, false, false, false, false, false, false, false, false, false, true]) (S := (Below W11.heap.size W11)) (m := (fun w => w.heap.size)) (x := .agg #[.int .i64 f1.key.kind, .int .i64 f1.key.subj, .int .i64 f1.key.obj]) (hS := by rfl) (hm := by rfl) (hg := by kernel_rfl) (hk := by kernel_rfl)
      · dsimp only [oblS]
        rintro w9 h9
        have hc9 := (bcell h9).1
        go_simp
        exact ⟨Below.refl _ _, rfl⟩
      dsimp only [List.nil_append, List.cons_append]
      apply qs_any (mask := [false, false, false, false, true, false, false, false, false, false, false, true]) (S := (Below W11.heap.size W11)) (m := (fun w => w.heap.size)) (T := fun v W => ∃ g, v = .slice (some ⟨g, 0, none⟩) 2 2 ∧ w8.heap.size ≤ g ∧ W.heap[g]? = some (.cells #[.int .i64 f0.key.kind, .int .i64 f0.key.subj, .int .i64 f0.key.obj, .int .i64 f1.key.kind, .int .i64 f1.key.subj, .int .i64 f1.key.obj] 27 (0, 0))) (hT := fun v w w' hb ⟨g, e, h1, h2⟩ => ⟨g, e, h1, (hb.block _ (lt_of_heap h2)).trans h2⟩) (hf := by kernel_rfl) (hS := by rfl) (hm := by rfl) (hg := by kernel_rfl) (hk := by kernel_rfl)
      · dsimp only [oblS]
        rintro w9 h9 T' hT'
        go_simp
        exact ⟨(Below.refl _ w9).alloc (Nat.le_refl _) _, hT' _ _ ⟨_, rfl, Nat.le_trans HC11.out.size h9.size, World.alloc_heap_new w9 _⟩⟩
      dsimp only [List.nil_append, List.cons_append]
      apply qs_any (mask := [true, false, false, false, false, false, false, false, false, false, false, false, true]) (S := (Below W11.heap.size W11)) (m := (fun _ => w8.heap.size)) (T := fun v W => W.ownsRow w8.heap.size 27 3 v 3 (([kk, f0.key, f1.key] : List Ky).flatMap kEnc)) (hT := fun v w w' hb h => own_keepB h fun g hg => hb.block g (h.lt g hg).2) (hf := by kernel_rfl) (hS := by rfl) (hm := by rfl) (hg := by kernel_rfl) (hk := by kernel_rfl)
      · dsimp only [oblS]
        intro v93
        rintro w9 ⟨h9, t93⟩ T' hT'
        obtain ⟨g, e0, hg0, hh0⟩ := t93
        subst e0
        have own9 : w9.ownsRow w8.heap.size 27 3 (.slice (some ⟨w8.heap.size, 0, none⟩) 1 1) 1 (([kk] : List Ky).flatMap kEnc) := own_keepB HO11.out fun g hg => h9.block g (HO11.out.lt g hg).2
        have hr9 : Rows 3 (Rep.flat kEnc) w9 w9.heap.size (some ⟨g, 0, none⟩) 2 2 [f0.key, f1.key] := rows_of_heap (l := [f0.key, f1.key]) (c := 2) kEnc_lenQ hh0 (by simp) (by omega) (by simp [kEnc])
        obtain ⟨v', w', hrun, hown', hg', hat⟩ := run_append_rows (P := Try.prog) (ty := 48) (l := [kk]) (enc := kEnc) Try.underlying48 hji hjz hjs hjb rfl kEnc_lenQ (by decide) kEnc_oneQ own9 hr9 (by omega) (by omega) (Nat.le_trans HC11.out.size h9.size)
        have hbg : Below w8.heap.size w9 w' := (Below.refl _ w9).grown hg' (Nat.le_trans HC11.out.size h9.size) fun g e => (own9.lt g e).1
        exact relUpon_append (.tmp 81) (.tmp 93) 48 rfl rfl rfl hrun hbg (hT' _ _ hown')
      dsimp only [List.nil_append, List.cons_append]
      apply qs_any (mask := [true, false, false, false, false, false, false, false, false, false, false, false, false, true]) (S := (Below (w8.heap.size) W11)) (m := (fun w => w.heap.size)) (T := fun v W => W.ownsRow w8.heap.size 27 3 v 3 (([kk, f0.key, f1.key] : List Ky).flatMap kEnc)) (hT := fun v w w' hb h => own_keepB h fun g hg => hb.block g (h.lt g hg).2) (hf := by kernel_rfl) (hS := by rfl) (hm := by rfl) (hg := by kernel_rfl) (hk := by kernel_rfl)
      · dsimp only [oblS]
        intro v94
        rintro w9 ⟨h9, t94⟩ T' hT'
        exact ⟨Below.refl _ _, hT' _ _ t94⟩
      dsimp only [List.nil_append, List.cons_append]
      refine qs_end [false, false, false, false, false, false, false, false, false, false, false, false, true, false, false] (by kernel_rfl) (by kernel_rfl) ?_
      dsimp only [finQ]
      rintro v93 v94 v19 w8 ⟨⟨hb, t94⟩, t19⟩
      go_simp
      go_wp2_with fail
      go_meet
      obtain ⟨A5, c5, rfl, hr5⟩ := own_rows kEnc_lenQ (by decide) t19
      exact ⟨A5, c5, [kk, f0.key, f1.key], rfl, hr5, by simp, HC11.out.trans hb⟩
  case rest =>
  obtain ⟨kA, kc, ks, rfl, hks, hk3, hb12⟩ := hcut
  rename World => w12
  have HKs : Hid (∀ W', Below w12.heap.size w12 W' → Rows 3 (Rep.flat kEnc) W' W'.heap.size kA ks.length kc ks) := fun W' h => hks.keep (Rep.flat_stable _) h.size h.block
  have HK12 := hidp (HK8.out.later hb12)
  have hkc := hks.2.1
  have hkc2 := hks.2.2.1
  obtain ⟨kn, hkn⟩ : ∃ n, ks.length = n := ⟨_, rfl⟩
  have HKn := hidp hkn
  rw [hkn] at hkc hk3 ⊢
  clear hks hb12 hkn HO11 HC11
  go_wp2_with fail
  go_loopw [20, 21, 22, 23, 24, 25, 26] (fun s20 s21 s22 s23 s24 s25 s26 wr => ∃ (i : Nat) (v21 v22 v23 v24 v25 v26 : Value), i ≤ kn ∧ s20 = .int .i64 i ∧ v21 = s21 ∧ v22 = s22 ∧ v23 = s23 ∧ v24 = s24 ∧ v25 = s25 ∧ v26 = s26 ∧ Below w12.heap.size w12 wr) (fun s20 _ _ _ _ _ _ _ => kn - (intOf s20).toNat)
  case atStart => exact ⟨0, _, _, _, _, _, _, by omega, rfl, rfl, rfl, rfl, rfl, rfl, rfl, Below.refl _ _⟩
  case round =>
  obtain ⟨i, v21, v22, v23, v24, v25, v26, hik, rfl, rfl, rfl, rfl, rfl, rfl, rfl, hbi⟩ := hrel
  have HKi := hidp (HK12.out.later hbi)
  have HBi := hidp hbi
  clear hbi
  by_cases hin : i < kn
  case neg =>
    have hin' : ¬ ((i : Int) < kn) := by omega
    go_wp2_with fail
    go_ret
    exact ⟨rfl, HKi.out.below⟩
  have hin' : (i : Int) < kn := by omega
  have hwi : IntKind.i64.wrap ((i : Int) + 1) = (i : Int) + 1 := IntWalk.i64_in _ (by omega)
  obtain ⟨kb, ko, key, hKA, _, hkey, d0, d1, d2'⟩ := kGetQ (HKs.out wr HBi.out) (show i < ks.length by have := HKn.out; omega)
  have hixk := fun W => ix_KeysQ (n := kn) (c := kc) hKA hin W
  have lk := lt_of_cell d0
  obtain ⟨q, hq⟩ : ∃ q, atF l key term known = q := ⟨_, rfl⟩
  have HQ := hidp hq
  have x0 := cell_of_heap (o := 0) HKi.out.p
  have x1 := cell_of_heap (o := 1) HKi.out.p
  have x2 := lt_of_heap HKi.out.p
  simp only [List.getElem?_toArray, List.getElem?_cons_zero, List.getElem?_cons_succ] at x0 x1
  clear hq hKA hkey
  go_upto_region 17 with fail
  refine wp_region_S wr.heap.size 16 (fun _ => false) (Nat.le_refl _) (by kernel_rfl) (by kernel_rfl) (by kernel_rfl) ?_
  dsimp only [List.take, List.drop]
  apply relS_det (mask := []) (x := .agg #[.slice s.pA s.pn s.pc, .slice s.rA s.rn s.rc])
  · rfl
  · kernel_rfl
  · kernel_rfl
  · dsimp only [oblS]
    rintro w9 h9
    have hc9 := (bcell h9).1
    go_simp
    exact ⟨Below.refl _ _, rfl⟩
  dsimp only [List.nil_append, List.cons_append]
  apply relS_det (mask := [false]) (x := .int .i64 v)
  · rfl
  · kernel_rfl
  · kernel_rfl
  · dsimp only [oblS]
    rintro w9 h9
    go_simp
    exact ⟨Below.refl _ _, rfl⟩
  dsimp only [List.nil_append, List.cons_append]
  apply relS_det (mask := [false, false])
  · rfl
  · kernel_rfl
  · kernel_rfl
  · dsimp only [oblS]
    rintro w9 h9
    go_simp
    exact ⟨Below.refl _ _, rfl⟩
  dsimp only [List.nil_append, List.cons_append]
  apply relS_det (mask := [false, false, false])
  · rfl
  · kernel_rfl
  · kernel_rfl
  · dsimp only [oblS]
    rintro w9 h9
    go_simp
    exact ⟨Below.refl _ _, rfl⟩
  dsimp only [List.nil_append, List.cons_append]
  apply relS_det (mask := [false, false, true, true])
  · rfl
  · kernel_rfl
  · kernel_rfl
  · dsimp only [oblS]
    rintro w9 h9
    go_simp
    exact ⟨Below.refl _ _, rfl⟩
  dsimp only [List.nil_append, List.cons_append]
  apply relS_det (mask := [false, false, false, false, true]) (x := .agg #[.int .i64 key.kind, .int .i64 key.subj, .int .i64 key.obj])
  · rfl
  · kernel_rfl
  · kernel_rfl
  · dsimp only [oblS]
    rintro w9 h9
    have hc9 := (bcell h9).1
    go_simp
    exact ⟨Below.refl _ _, rfl⟩
  dsimp only [List.nil_append, List.cons_append]
  apply relS_det (mask := [false, false, false, false, false, false])
  · rfl
  · kernel_rfl
  · kernel_rfl
  · dsimp only [oblS]
    rintro w9 h9
    go_simp
    exact ⟨Below.refl _ _, rfl⟩
  dsimp only [List.nil_append, List.cons_append]
  apply relS_det (mask := [false, false, false, false, false, false, false])
  · rfl
  · kernel_rfl
  · kernel_rfl
  · dsimp only [oblS]
    rintro w9 h9
    go_simp
    exact ⟨Below.refl _ _, rfl⟩
  dsimp only [List.nil_append, List.cons_append]
  apply relS_det (mask := [true, true, false, false, false, true, true, true]) (x := .tuple #[.int .i64 (q.getD 0), .bool q.isSome, .int .i64 ev])
  · rfl
  · kernel_rfl
  · kernel_rfl
  · dsimp only [oblS]
    rintro w9 h9
    have hc9 := (bcell h9).1
    go_simp
    refine (pgAt_any s v key term known w9 (HKi.out.inn.later h9) HSlim.out.1 HLen.out).mono ?_
    rintro e w7 ⟨rfl, hb7⟩
    exact ⟨_, rfl, hb7, by show _ = _; rw [HL.out, HQ.out, HEv.out]⟩
  dsimp only [List.nil_append, List.cons_append]
  apply relS_det (mask := [false, false, false, false, false, false, false, false, true]) (x := .tuple #[.int .i64 (q.getD 0), .bool q.isSome, .int .i64 ev])
  · rfl
  · kernel_rfl
  · kernel_rfl
  · dsimp only [oblS]
    rintro w9 h9
    go_simp
    exact ⟨Below.refl _ _, rfl⟩
  dsimp only [List.nil_append, List.cons_append]
  apply relS_det (mask := [false, false, false, false, false, false, false, false, false, true]) (x := .int .i64 (q.getD 0))
  · rfl
  · kernel_rfl
  · kernel_rfl
  · dsimp only [oblS]
    rintro w9 h9
    go_simp
    exact ⟨Below.refl _ _, rfl⟩
  dsimp only [List.nil_append, List.cons_append]
  apply relS_det (mask := [false, false, false, false, false, false, false, false, false, true, false]) (x := .bool q.isSome)
  · rfl
  · kernel_rfl
  · kernel_rfl
  · dsimp only [oblS]
    rintro w9 h9
    go_simp
    exact ⟨Below.refl _ _, rfl⟩
  dsimp only [List.nil_append, List.cons_append]
  apply relS_det (mask := [false, false, false, false, false, false, false, false, false, true, false, false]) (x := .int .i64 ev)
  · rfl
  · kernel_rfl
  · kernel_rfl
  · dsimp only [oblS]
    rintro w9 h9
    go_simp
    exact ⟨Below.refl _ _, rfl⟩
  dsimp only [List.nil_append, List.cons_append]
  apply relS_det (mask := [false, false, false, false, false, false, false, false, false, false, true, false, false]) (x := .int .i64 (q.getD 0))
  · rfl
  · kernel_rfl
  · kernel_rfl
  · dsimp only [oblS]
    rintro w9 h9
    go_simp
    exact ⟨Below.refl _ _, rfl⟩
  dsimp only [List.nil_append, List.cons_append]
  apply relS_det (mask := [false, false, false, false, false, false, false, false, false, false, false, true, false, false]) (x := .bool q.isSome)
  · rfl
  · kernel_rfl
  · kernel_rfl
  · dsimp only [oblS]
    rintro w9 h9
    go_simp
    exact ⟨Below.refl _ _, rfl⟩
  dsimp only [List.nil_append, List.cons_append]
  apply relS_det (mask := [false, false, false, false, false, false, false, false, false, false, false, false, true, false, false]) (x := .int .i64 ev)
  · rfl
  · kernel_rfl
  · kernel_rfl
  · dsimp only [oblS]
    rintro w9 h9
    go_simp
    exact ⟨Below.refl _ _, rfl⟩
  dsimp only [List.nil_append, List.cons_append]
  refine relS_end (by rfl) ?_
  dsimp only [finS]
  rintro wy hby
  have HKy := hidp (HKi.out.later hby)
  have HBy := hidp (HBi.out.trans (hby.mono HBi.out.size))
  have e0' := ((bcell hby).1 kb (ko + i * 3) lk).trans d0
  have e1' := ((bcell hby).1 kb (ko + i * 3 + 1) lk).trans d1
  have e2' := ((bcell hby).1 kb (ko + i * 3 + 2) lk).trans d2'
  have lk' := lt_of_cell e0'
  clear x0 x1 x2 d0 d1 d2' lk hby
  have x0 := cell_of_heap (o := 0) HKy.out.p
  have x1 := cell_of_heap (o := 1) HKy.out.p
  have x2 := lt_of_heap HKy.out.p
  simp only [List.getElem?_toArray, List.getElem?_cons_zero, List.getElem?_cons_succ] at x0 x1
  go_simp
  go_upto_region 18 with fail
  refine wp_region_S wy.heap.size 16 (fun _ => false) (Nat.le_refl _) (by kernel_rfl) (by kernel_rfl) (by kernel_rfl) ?_
  dsimp only [List.take, List.drop]
  apply relS_det (mask := []) (x := .agg #[.slice s.pA s.pn s.pc, .slice s.rA s.rn s.rc])
  · rfl
  · kernel_rfl
  · kernel_rfl
  · dsimp only [oblS]
    rintro w9 h9
    have hc9 := (bcell h9).1
    go_simp
    exact ⟨Below.refl _ _, rfl⟩
  dsimp only [List.nil_append, List.cons_append]
  apply relS_det (mask := [false]) (x := .int .i64 v)
  · rfl
  · kernel_rfl
  · kernel_rfl
  · dsimp only [oblS]
    rintro w9 h9
    go_simp
    exact ⟨Below.refl _ _, rfl⟩
  dsimp only [List.nil_append, List.cons_append]
  apply relS_det (mask := [false, false])
  · rfl
  · kernel_rfl
  · kernel_rfl
  · dsimp only [oblS]
    rintro w9 h9
    go_simp
    exact ⟨Below.refl _ _, rfl⟩
  dsimp only [List.nil_append, List.cons_append]
  apply relS_det (mask := [false, false, false])
  · rfl
  · kernel_rfl
  · kernel_rfl
  · dsimp only [oblS]
    rintro w9 h9
    go_simp
    exact ⟨Below.refl _ _, rfl⟩
  dsimp only [List.nil_append, List.cons_append]
  apply relS_det (mask := [false, false, true, true])
  · rfl
  · kernel_rfl
  · kernel_rfl
  · dsimp only [oblS]
    rintro w9 h9
    go_simp
    exact ⟨Below.refl _ _, rfl⟩
  dsimp only [List.nil_append, List.cons_append]
  apply relS_det (mask := [false, false, false, false, true]) (x := .agg #[.int .i64 key.kind, .int .i64 key.subj, .int .i64 key.obj])
  · rfl
  · kernel_rfl
  · kernel_rfl
  · dsimp only [oblS]
    rintro w9 h9
    have hc9 := (bcell h9).1
    go_simp
    exact ⟨Below.refl _ _, rfl⟩
  dsimp only [List.nil_append, List.cons_append]
  apply relS_det (mask := [false, false, false, false, false, false])
  · rfl
  · kernel_rfl
  · kernel_rfl
  · dsimp only [oblS]
    rintro w9 h9
    go_simp
    exact ⟨Below.refl _ _, rfl⟩
  dsimp only [List.nil_append, List.cons_append]
  apply relS_det (mask := [false, false, false, false, false, false, false])
  · rfl
  · kernel_rfl
  · kernel_rfl
  · dsimp only [oblS]
    rintro w9 h9
    go_simp
    exact ⟨Below.refl _ _, rfl⟩
  dsimp only [List.nil_append, List.cons_append]
  apply relS_det (mask := [true, true, false, false, false, true, true, true]) (x := .tuple #[.int .i64 (q.getD 0), .bool q.isSome, .int .i64 ev])
  · rfl
  · kernel_rfl
  · kernel_rfl
  · dsimp only [oblS]
    rintro w9 h9
    have hc9 := (bcell h9).1
    go_simp
    refine (r47At_any s v key term known w9 (HKy.out.inn.later h9) HSlim.out.1 HSum.out).mono ?_
    rintro e w7 ⟨rfl, hb7⟩
    exact ⟨_, rfl, hb7, by show _ = _; rw [HL.out, HQ.out, HEv.out]⟩
  dsimp only [List.nil_append, List.cons_append]
  apply relS_det (mask := [false, false, false, false, false, false, false, false, true]) (x := .tuple #[.int .i64 (q.getD 0), .bool q.isSome, .int .i64 ev])
  · rfl
  · kernel_rfl
  · kernel_rfl
  · dsimp only [oblS]
    rintro w9 h9
    go_simp
    exact ⟨Below.refl _ _, rfl⟩
  dsimp only [List.nil_append, List.cons_append]
  apply relS_det (mask := [false, false, false, false, false, false, false, false, false, true]) (x := .int .i64 (q.getD 0))
  · rfl
  · kernel_rfl
  · kernel_rfl
  · dsimp only [oblS]
    rintro w9 h9
    go_simp
    exact ⟨Below.refl _ _, rfl⟩
  dsimp only [List.nil_append, List.cons_append]
  apply relS_det (mask := [false, false, false, false, false, false, false, false, false, true, false]) (x := .bool q.isSome)
  · rfl
  · kernel_rfl
  · kernel_rfl
  · dsimp only [oblS]
    rintro w9 h9
    go_simp
    exact ⟨Below.refl _ _, rfl⟩
  dsimp only [List.nil_append, List.cons_append]
  apply relS_det (mask := [false, false, false, false, false, false, false, false, false, true, false, false]) (x := .int .i64 ev)
  · rfl
  · kernel_rfl
  · kernel_rfl
  · dsimp only [oblS]
    rintro w9 h9
    go_simp
    exact ⟨Below.refl _ _, rfl⟩
  dsimp only [List.nil_append, List.cons_append]
  apply relS_det (mask := [false, false, false, false, false, false, false, false, false, false, true, false, false]) (x := .int .i64 (q.getD 0))
  · rfl
  · kernel_rfl
  · kernel_rfl
  · dsimp only [oblS]
    rintro w9 h9
    go_simp
    exact ⟨Below.refl _ _, rfl⟩
  dsimp only [List.nil_append, List.cons_append]
  apply relS_det (mask := [false, false, false, false, false, false, false, false, false, false, false, true, false, false]) (x := .bool q.isSome)
  · rfl
  · kernel_rfl
  · kernel_rfl
  · dsimp only [oblS]
    rintro w9 h9
    go_simp
    exact ⟨Below.refl _ _, rfl⟩
  dsimp only [List.nil_append, List.cons_append]
  apply relS_det (mask := [false, false, false, false, false, false, false, false, false, false, false, false, true, false, false]) (x := .int .i64 ev)
  · rfl
  · kernel_rfl
  · kernel_rfl
  · dsimp only [oblS]
    rintro w9 h9
    go_simp
    exact ⟨Below.refl _ _, rfl⟩
  dsimp only [List.nil_append, List.cons_append]
  refine relS_end (by rfl) ?_
  dsimp only [finS]
  rintro wz hbz
  have HBz := hidp (HBy.out.trans (hbz.mono HBy.out.size))
  clear e0' e1' e2' lk' hbz x0 x1 x2
  go_simp
  go_wp2_with fail
  go_roundw
  case rel => exact ⟨i + 1, _, _, _, _, _, _, by omega, by go_num, rfl, rfl, rfl, rfl, rfl, rfl, HBz.out⟩
  case measure => simp [intOf]; omega
end Go.Proofs.Ytpnfpdkoeednhaa
