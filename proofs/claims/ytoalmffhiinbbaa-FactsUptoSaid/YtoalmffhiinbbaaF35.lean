/- FactsUpto walked. Regions printed by tools/gen35.py. -/
import Derived.Test.YtoalmffhiinbbaaF32
namespace Go.Proofs.Ytoalmffhiinbbaa
open Go.RowKit Go.Shelf

def keysT (ks : List Ky) : VT := fun v w => ∃ A n c, v = .slice A n c ∧ kSl w w.heap.size A n c ks
theorem keysT_stable (l : List Ky) : (keysT l).Stable := by
  rintro v w w' hb ⟨A, n, c, rfl, h⟩; exact ⟨A, n, c, rfl, h.keep kStable hb.size hb.block⟩
theorem atF_upto (l : List Fc) (k : Ky) (t : Int) {known later : Int} (h : known ≤ later) : atF (uptoF l known) k t later = atF l k t known := by
  have : ofF (uptoF l known) k later = ofF l k known := by
    rw [ofF, uptoF, List.filter_filter, ofF]
    refine List.filter_congr fun f _ => ?_
    by_cases h1 : f.key = k <;> by_cases h2 : f.known ≤ known <;> by_cases h3 : f.known ≤ later <;> simp [h1, h2, h3] <;> omega
  rw [atF, this, atF]
theorem uptoF_len (l : List Fc) (known : Int) : (uptoF l known).length ≤ l.length := List.length_filter_le _ _

set_option maxRecDepth 100000 in
set_option maxHeartbeats 4000000 in
theorem lUpto_any (A : Option Addr) (n c : Nat) (l : List Fc) (k : Ky) (term known later : Int) (w : World) (hl : fSl w w.heap.size A n c l) :
    Calls Try.prog 7 #[.slice A n c, .agg (kEnc k).toArray, .int .i64 term, .int .i64 known, .int .i64 later] w fun e w' => e = .returned (.bool true) ∧ Below w.heap.size w w' := by
  show Calls Try.prog 7 #[.slice A n c, .agg #[.int .i64 k.kind, .int .i64 k.subj, .int .i64 k.obj], .int .i64 term, .int .i64 known, .int .i64 later] w _
  obtain ⟨i0, hi, hz, hs, hbb⟩ := info_parts kInfo
  obtain ⟨W, hW⟩ : ∃ W, w.alloc (.cells #[.int .i64 k.kind, .int .i64 k.subj, .int .i64 k.obj] 24) = W := ⟨_, rfl⟩
  have hBW : Below w.heap.size w W := hW ▸ (Below.refl _ w).alloc (Nat.le_refl _) _
  have hbox : W.heap[w.heap.size]? = some (.cells #[.int .i64 k.kind, .int .i64 k.subj, .int .i64 k.obj] 24 (0, 0)) := hW ▸ World.alloc_heap_new _ _
  have HL : Hid (∀ W', Below W.heap.size W W' → fSl W' W'.heap.size A n c l) := fun W' h => (hl.keep fStable hBW.size hBW.block).keep fStable h.size h.block
  have HF : Hid (∀ W', Below W.heap.size W W' → W'.cell? ⟨w.heap.size, 0, none⟩ = some (.int .i64 k.kind) ∧ W'.cell? ⟨w.heap.size, 1, none⟩ = some (.int .i64 k.subj) ∧ W'.cell? ⟨w.heap.size, 2, none⟩ = some (.int .i64 k.obj)) := fun W' h => by
    have := (h.block _ (lt_of_heap hbox)).trans hbox
    exact ⟨cell_of_heap this, cell_of_heap this, cell_of_heap this⟩
  have HW := hidp hW
  have HBW := hidp hBW
  have hlen := hl.2.1
  have hcap := hl.2.2.1
  have HN := hidp hl.1
  clear hW hBW hbox hl
  go_enter Try.func7, Try.ntmps7
  go_wp2_with fail
  rw [HW.out]
  refine (sane07_any W).mono ?_
  rintro e w1 ⟨rfl, hb1⟩
  go_wp2_with fail
  refine (rFew_any A n c w1).mono ?_
  rintro e w2 ⟨rfl, rfl⟩
  by_cases hn : n ≤ 30
  · have hd : decide (n ≤ 30) = true := by simpa using hn
    rw [hd]
    by_cases hkl : later < known
    · have hkl' : decide (later < known) = true := by simpa using hkl
      go_wp2_with fail
      go_ret
      exact ⟨rfl, HBW.out.trans (hb1.mono HBW.out.size)⟩
    have hkl' : decide (later < known) = false := by simpa using hkl
    have HLT : Hid (known ≤ later) := by show _ ≤ _; omega
    clear hkl
    go_wp2_with fail
    refine (fUpto_any A n c l known _ (HL.out _ hb1) (by omega)).mono ?_
    rintro e w2 ⟨Ax, nx, cx, rfl, rx, hb2⟩
    have hB2 := hb1.trans (hb2.mono hb1.size)
    have hncx := rx.2.2.1
    have hnlx := rx.2.1
    have HX := hidp rx
    obtain ⟨c0, c1, c2⟩ := HF.out w2 hB2
    clear hb1 hb2 rx
    rcases Nat.eq_zero_or_pos n with h0 | h0
    · subst h0
      obtain rfl : nx = 0 := by
        have h1 := HX.out.1
        have h2 := HN.out
        have h3 := uptoF_len l known
        omega
      obtain ⟨w3, hw3⟩ : ∃ w3, w2.alloc (.cells #[.int .i64 k.kind, .int .i64 k.subj, .int .i64 k.obj] 24) = w3 := ⟨_, rfl⟩
      have hbk : Below w2.heap.size w2 w3 := hw3 ▸ (Below.refl _ w2).alloc (Nat.le_refl _) _
      have hkh : w3.heap[w2.heap.size]? = some (.cells #[.int .i64 k.kind, .int .i64 k.subj, .int .i64 k.obj] 24 (0, 0)) := hw3 ▸ World.alloc_heap_new _ _
      have rks : kSl w3 w3.heap.size (some ⟨w2.heap.size, 0, none⟩) 1 1 [k] := rows_of_heap (l := [k]) kEnc_len hkh (Nat.le_refl _) (by decide) rfl
      have hB3 := hB2.trans (hbk.mono hB2.size)
      have hx3 := HX.out.keep fStable hbk.size hbk.block
      have HW3 := hidp hw3
      clear hkh hbk hw3 HX
      go_wp2_with fail
      rw [HW3.out]
      have HBV := hidp hB3
      have HM := hidp rks.1
      have hck := rks.2.1
      have hck2 := rks.2.2.1
      have HKS := hidp rks
      have HX3 := hidp hx3
      clear rks hB3 hx3
      go_wp2_with fail
      go_loopw [13] (fun i wr => ∃ q : Nat, q ≤ 1 ∧ i = .int .i64 q ∧ Below w3.heap.size w3 wr) (fun i _ => 1 - (intOf i).toNat)
      case atStart => exact ⟨0, by omega, rfl, Below.refl _ _⟩
      case round =>
        obtain ⟨q, hq, rfl, hbe⟩ := hrel
        by_cases hlt : q < 1
        · obtain ⟨bq, oq, kq, e, hbq, hzq, c0, c1, c2⟩ := kSl.get (HKS.out.keep kStable hbe.size hbe.block) hlt
          cases e
          try simp only [Nat.zero_add] at c0 c1 c2
          have hqn : (q : Int) < 1 := by omega
          have HZ := hidp hzq
          have hB4 := HBV.out.trans (hbe.mono HBV.out.size)
          have hbl1 := lt_of_cell c0
          clear hzq
          go_wp2_with fail
          refine (fAt_any _ _ _ l kq term known _ (HL.out _ hB4)).mono ?_
          rintro e w4 ⟨rfl, hb4⟩
          have hB5 := hbe.trans (hb4.mono hbe.size)
          obtain ⟨V, hV⟩ : ∃ V, (atF l kq term known).getD 0 = V := ⟨_, rfl⟩
          obtain ⟨S, hS⟩ : ∃ S, (atF l kq term known).isSome = S := ⟨_, rfl⟩
          have HE : Hid (atF (uptoF l known) kq term later = atF l kq term known) := atF_upto l kq term HLT.out
          rw [hV, hS]
          have HV := hidp hV
          have HS := hidp hS
          clear c0 c1 c2 hB4 hbe hb4 hV hS hbl1
          obtain ⟨_, _, kq', e, _, hzq, c0, c1, c2⟩ := kSl.get (HKS.out.keep kStable hB5.size hB5.block) hlt
          cases e
          cases HZ.out.symm.trans hzq
          try simp only [Nat.zero_add] at c0 c1 c2
          have hB6 := HBV.out.trans (hB5.mono HBV.out.size)
          have hbl1 := lt_of_cell c0
          clear hzq
          go_wp2_with fail
          refine (fAt_any Ax 0 cx (uptoF l known) kq term later _ (HX3.out.keep fStable hB5.size hB5.block)).mono ?_
          rintro e w5 ⟨rfl, hb5⟩
          rw [HE.out, HV.out, HS.out]
          have hB7 := hB5.trans (hb5.mono hB5.size)
          have hvv : (V != V) = false := by simp
          have hss : (S != S) = false := by simp
          clear c0 c1 c2 hB6 hB5 hb5 hbl1
          go_wp2_with fail
          go_roundw
          case rel => exact ⟨q + 1, by omega, by go_num, hB7⟩
          case measure => simp [intOf]; omega
        · obtain rfl : q = 1 := by omega
          have hle : decide (0 ≤ 0) = true := by
            have h1 := HX3.out.1
            have h2 := HN.out
            have h3 := uptoF_len l known
            simp
          go_wp2_with fail
          go_ret
          exact ⟨rfl, HBW.out.trans (Below.mono (HBV.out.trans (hbe.mono HBV.out.size)) HBW.out.size)⟩
    · obtain ⟨b, off, x, rfl, hbl, hx, -⟩ := fSl.get (HL.out w2 hB2) (k := 0) h0
      obtain ⟨b', off', y, e, _, hy, -⟩ := fSl.get (HL.out w2 hB2) (k := n / 2) (by omega)
      cases e
      have hpd : decide (0 < n) = true := by simpa using h0
      obtain ⟨wk, hwk⟩ : ∃ wk, w2.alloc (.cells #[.int .i64 k.kind, .int .i64 k.subj, .int .i64 k.obj] 24) = wk := ⟨_, rfl⟩
      have hbk : Below w2.heap.size w2 wk := hwk ▸ (Below.refl _ w2).alloc (Nat.le_refl _) _
      have hkh : wk.heap[w2.heap.size]? = some (.cells #[.int .i64 k.kind, .int .i64 k.subj, .int .i64 k.obj] 24 (0, 0)) := hwk ▸ World.alloc_heap_new _ _
      have rk : kSl wk wk.heap.size (some ⟨w2.heap.size, 0, none⟩) 1 1 [k] := rows_of_heap (l := [k]) kEnc_len hkh (Nat.le_refl _) (by decide) rfl
      have HRK := hidp rk
      have hBk := hB2.trans (hbk.mono hB2.size)
      have HBk := hidp hBk
      have HWK := hidp hwk
      have hkz : wk.heap.size = w2.heap.size + 1 := by rw [← hwk]; simp
      have HKZ := hidp hkz
      have HX1 := hidp (HX.out.keep fStable hbk.size hbk.block)
      have HCX : Hid (∀ W', Below wk.heap.size wk W' → W'.cell? ⟨b, off, none⟩ = some (.int .i64 x.key.kind) ∧ W'.cell? ⟨b, off + 1, none⟩ = some (.int .i64 x.key.subj) ∧ W'.cell? ⟨b, off + 2, none⟩ = some (.int .i64 x.key.obj)) := fun W' h => by
        obtain ⟨_, _, m, e, _, hm, z0, z1, z2, _⟩ := fSl.get (HL.out W' (hBk.trans (h.mono hBk.size))) (k := 0) h0
        cases e
        rw [hx] at hm
        cases hm
        rw [Nat.zero_mul] at z0 z1 z2
        exact ⟨z0, z1, z2⟩
      have HCY : Hid (∀ W', Below wk.heap.size wk W' → W'.cell? ⟨b, off + n / 2 * 8, none⟩ = some (.int .i64 y.key.kind) ∧ W'.cell? ⟨b, off + n / 2 * 8 + 1, none⟩ = some (.int .i64 y.key.subj) ∧ W'.cell? ⟨b, off + n / 2 * 8 + 2, none⟩ = some (.int .i64 y.key.obj)) := fun W' h => by
        obtain ⟨_, _, m, e, _, hm, z0, z1, z2, _⟩ := fSl.get (HL.out W' (hBk.trans (h.mono hBk.size))) (k := n / 2) (by omega)
        cases e
        rw [hy] at hm
        cases hm
        exact ⟨z0, z1, z2⟩
      have hq0 : (0 : Int) ≤ (n : Int) / 2 := by omega
      have hq1 : (n : Int) / 2 < n := by omega
      have hto : ((n : Int) / 2).toNat = n / 2 := by omega
      have hwrap : IntKind.i64.wrap ((n : Int) / 2) = (n : Int) / 2 := IntWalk.i64_in _ (by omega)
      have hbkl : b < wk.heap.size := by omega
      clear hx hy hkh hkz hbk rk hwk hBk HX
      go_wp2_with fail
      rw [HWK.out]
      refine wp_region_S wk.heap.size 15 (fun _ => false) (Nat.le_refl _) (by kernel_rfl) (by kernel_rfl) (by kernel_rfl) ?_
      dsimp only [List.take, List.drop]
      apply relS_det (mask := [])
      · rfl
      · kernel_rfl
      · kernel_rfl
      · dsimp only [oblS]
        rintro w9 h9
        go_simp
        exact ⟨Below.refl _ _, rfl⟩
      dsimp only [List.nil_append, List.cons_append]
      apply relS_det (mask := [false])
      · rfl
      · kernel_rfl
      · kernel_rfl
      · dsimp only [oblS]
        rintro w9 h9
        go_simp
        exact ⟨Below.refl _ _, rfl⟩
      dsimp only [List.nil_append, List.cons_append]
      apply relS_det (mask := [false, true])
      · rfl
      · kernel_rfl
      · kernel_rfl
      · dsimp only [oblS]
        rintro w9 h9
        go_simp
        exact ⟨Below.refl _ _, rfl⟩
      dsimp only [List.nil_append, List.cons_append]
      apply relS_det (mask := [false, false, true])
      · rfl
      · kernel_rfl
      · kernel_rfl
      · dsimp only [oblS]
        rintro w9 h9
        go_simp
        exact ⟨Below.refl _ _, rfl⟩
      dsimp only [List.nil_append, List.cons_append]
      apply relS_det (mask := [false, false, false, true]) (x := .agg #[.int .i64 x.key.kind, .int .i64 x.key.subj, .int .i64 x.key.obj])
      · rfl
      · kernel_rfl
      · kernel_rfl
      · dsimp only [oblS]
        rintro w9 h9
        obtain ⟨z0, z1, z2⟩ := HCX.out w9 h9
        go_simp
        exact ⟨Below.refl _ _, rfl⟩
      dsimp only [List.nil_append, List.cons_append]
      apply relS_det (mask := [false, false, false, false, false])
      · rfl
      · kernel_rfl
      · kernel_rfl
      · dsimp only [oblS]
        rintro w9 h9
        go_simp
        exact ⟨Below.refl _ _, rfl⟩
      dsimp only [List.nil_append, List.cons_append]
      apply relS_det (mask := [false, false, false, false, false, false])
      · rfl
      · kernel_rfl
      · kernel_rfl
      · dsimp only [oblS]
        rintro w9 h9
        go_simp
        exact ⟨Below.refl _ _, rfl⟩
      dsimp only [List.nil_append, List.cons_append]
      apply relS_det (mask := [false, false, false, false, false, false, true])
      · rfl
      · kernel_rfl
      · kernel_rfl
      · dsimp only [oblS]
        rintro w9 h9
        go_simp
        exact ⟨Below.refl _ _, rfl⟩
      dsimp only [List.nil_append, List.cons_append]
      apply relS_det (mask := [false, false, false, false, false, false, false, true])
      · rfl
      · kernel_rfl
      · kernel_rfl
      · dsimp only [oblS]
        rintro w9 h9
        go_simp
        exact ⟨Below.refl _ _, rfl⟩
      dsimp only [List.nil_append, List.cons_append]
      apply relS_det (mask := [false, false, false, false, false, true, false, false, true])
      · rfl
      · kernel_rfl
      · kernel_rfl
      · dsimp only [oblS]
        rintro w9 h9
        go_simp
        exact ⟨Below.refl _ _, rfl⟩
      dsimp only [List.nil_append, List.cons_append]
      apply relS_det (mask := [false, false, false, false, false, false, false, false, false, true])
      · rfl
      · kernel_rfl
      · kernel_rfl
      · dsimp only [oblS]
        rintro w9 h9
        go_simp
        exact ⟨Below.refl _ _, rfl⟩
      dsimp only [List.nil_append, List.cons_append]
      apply relS_det (mask := [false, false, false, false, false, false, false, false, false, false, true]) (x := .agg #[.int .i64 y.key.kind, .int .i64 y.key.subj, .int .i64 y.key.obj])
      · rfl
      · kernel_rfl
      · kernel_rfl
      · dsimp only [oblS]
        rintro w9 h9
        obtain ⟨z0, z1, z2⟩ := HCY.out w9 h9
        go_simp
        exact ⟨Below.refl _ _, rfl⟩
      dsimp only [List.nil_append, List.cons_append]
      apply relS_any (mask := [false, false, false, false, true, false, false, false, false, false, false, true]) (T := keysT [x.key, y.key]) (hT := keysT_stable _)
      · rfl
      · kernel_rfl
      · kernel_rfl
      · dsimp only [oblS]
        rintro w9 h9 T' hT'
        go_simp
        exact ⟨(Below.refl _ w9).alloc (Nat.le_refl _) _, hT' _ _ ⟨_, _, _, rfl, rows_of_heap (l := [x.key, y.key]) kEnc_len (World.alloc_heap_new w9 _) (Nat.le_refl _) (by decide) rfl⟩⟩
      dsimp only [List.nil_append, List.cons_append]
      apply relS_any (mask := [true, false, false, false, false, false, false, false, false, false, false, false, true]) (T := keysT [k, x.key, y.key]) (hT := keysT_stable _)
      · rfl
      · kernel_rfl
      · kernel_rfl
      · dsimp only [oblS]
        intro v48
        rintro w9 ⟨h9, t48⟩ T' hT'
        obtain ⟨A2, n2, c2, rfl, r2⟩ := t48
        obtain rfl : n2 = 2 := r2.1
        obtain ⟨v', w', hrun, hown', hb'⟩ := run_append_clip (P := Try.prog) (ty := 37) (enc := kEnc) Try.underlying37 hi hz hs hbb rfl kEnc_len (by decide) kEnc_one (HRK.out.keep kStable h9.size h9.block) r2 (by omega) (by omega) (by omega)
        obtain ⟨A5, c5, rfl, r5⟩ := own_rows kEnc_len (by decide) hown'
        exact relUpon_append (.tmp 36) (.tmp 48) 37 rfl rfl rfl hrun hb' (hT' _ _ ⟨A5, 3, c5, rfl, r5⟩)
      dsimp only [List.nil_append, List.cons_append]
      apply relS_any (mask := [true, false, false, false, false, false, false, false, false, false, false, false, false, true]) (T := keysT [k, x.key, y.key]) (hT := keysT_stable _)
      · rfl
      · kernel_rfl
      · kernel_rfl
      · dsimp only [oblS]
        intro v49
        rintro w9 ⟨h9, t49⟩ T' hT'
        obtain ⟨A2, n2, c2, rfl, r2⟩ := t49
        go_simp
        exact ⟨Below.refl _ _, hT' _ _ ⟨A2, n2, c2, rfl, r2⟩⟩
      dsimp only [List.nil_append, List.cons_append]
      refine relS_end (by rfl) ?_
      dsimp only [finS]
      -- rintro v48 v49 v12 w8 ⟨⟨⟨hb, t48⟩, t49⟩, t12⟩
      rintro v48 v49 v12 w8 ⟨⟨⟨hb8, -⟩, -⟩, Ak, nk, ck, rfl, rks⟩
      go_frame
      have hB3 := HBk.out.trans (hb8.mono HBk.out.size)
      have hx3 := HX1.out.keep fStable hb8.size hb8.block
      obtain ⟨w3, rfl⟩ : ∃ w3, w3 = w8 := ⟨_, rfl⟩
      obtain rfl : nk = 3 := rks.1
      clear HCX HCY HRK hb8 hq0 hq1 hwrap hto hpd HWK HKZ HX1
      have HBV := hidp hB3
      have HM := hidp rks.1
      have hck := rks.2.1
      have hck2 := rks.2.2.1
      have HKS := hidp rks
      have HX3 := hidp hx3
      clear rks hB3 hx3
      go_wp2_with fail
      go_loopw [13] (fun i wr => ∃ q : Nat, q ≤ 3 ∧ i = .int .i64 q ∧ Below w3.heap.size w3 wr) (fun i _ => 3 - (intOf i).toNat)
      case atStart => exact ⟨0, by omega, rfl, Below.refl _ _⟩
      case round =>
        obtain ⟨q, hq, rfl, hbe⟩ := hrel
        by_cases hlt : q < 3
        · obtain ⟨bq, oq, kq, e, hbq, hzq, c0, c1, c2⟩ := kSl.get (HKS.out.keep kStable hbe.size hbe.block) hlt
          cases e
          try simp only [Nat.zero_add] at c0 c1 c2
          have hqn : (q : Int) < 3 := by omega
          have HZ := hidp hzq
          have hB4 := HBV.out.trans (hbe.mono HBV.out.size)
          have hbl1 := lt_of_cell c0
          clear hzq
          go_wp2_with fail
          refine (fAt_any _ _ _ l kq term known _ (HL.out _ hB4)).mono ?_
          rintro e w4 ⟨rfl, hb4⟩
          have hB5 := hbe.trans (hb4.mono hbe.size)
          obtain ⟨V, hV⟩ : ∃ V, (atF l kq term known).getD 0 = V := ⟨_, rfl⟩
          obtain ⟨S, hS⟩ : ∃ S, (atF l kq term known).isSome = S := ⟨_, rfl⟩
          have HE : Hid (atF (uptoF l known) kq term later = atF l kq term known) := atF_upto l kq term HLT.out
          rw [hV, hS]
          have HV := hidp hV
          have HS := hidp hS
          clear c0 c1 c2 hB4 hbe hb4 hV hS hbl1
          obtain ⟨_, _, kq', e, _, hzq, c0, c1, c2⟩ := kSl.get (HKS.out.keep kStable hB5.size hB5.block) hlt
          cases e
          cases HZ.out.symm.trans hzq
          try simp only [Nat.zero_add] at c0 c1 c2
          have hB6 := HBV.out.trans (hB5.mono HBV.out.size)
          have hbl1 := lt_of_cell c0
          clear hzq
          go_wp2_with fail
          refine (fAt_any Ax nx cx (uptoF l known) kq term later _ (HX3.out.keep fStable hB5.size hB5.block)).mono ?_
          rintro e w5 ⟨rfl, hb5⟩
          rw [HE.out, HV.out, HS.out]
          have hB7 := hB5.trans (hb5.mono hB5.size)
          have hvv : (V != V) = false := by simp
          have hss : (S != S) = false := by simp
          clear c0 c1 c2 hB6 hB5 hb5 hbl1
          go_wp2_with fail
          go_roundw
          case rel => exact ⟨q + 1, by omega, by go_num, hB7⟩
          case measure => simp [intOf]; omega
        · obtain rfl : q = 3 := by omega
          have hle : decide (nx ≤ n) = true := by
            have h1 := HX3.out.1
            have h2 := HN.out
            have h3 := uptoF_len l known
            simp; omega
          go_wp2_with fail
          go_ret
          exact ⟨rfl, HBW.out.trans (Below.mono (HBV.out.trans (hbe.mono HBV.out.size)) HBW.out.size)⟩
  · have hd : decide (n ≤ 30) = false := by simpa using hn
    rw [hd]
    go_wp2_with fail
    go_ret
    exact ⟨rfl, HBW.out.trans (hb1.mono HBW.out.size)⟩
def UptoCalls : Prop := ∀ (A : Option Addr) (n c : Nat) (l : List Fc) (k : Ky) (term known later : Int) (w : World), fSl w w.heap.size A n c l → Calls Try.prog 7 #[.slice A n c, .agg (kEnc k).toArray, .int .i64 term, .int .i64 known, .int .i64 later] w fun e w' => e = .returned (.bool true) ∧ Below w.heap.size w w'
theorem upto_calls : UptoCalls := lUpto_any
end Go.Proofs.Ytoalmffhiinbbaa
