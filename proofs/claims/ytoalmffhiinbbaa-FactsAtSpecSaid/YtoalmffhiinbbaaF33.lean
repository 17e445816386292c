/- FactsAtSpec walked. Regions printed by tools/gen33.py. -/
import Derived.Test.YtoalmffhiinbbaaF32
namespace Go.Proofs.Ytoalmffhiinbbaa
open Go.RowKit Go.Shelf

def keysT (ks : List Ky) : VT := fun v w => ∃ A n c, v = .slice A n c ∧ kSl w w.heap.size A n c ks
theorem keysT_stable (l : List Ky) : (keysT l).Stable := by
  rintro v w w' hb ⟨A, n, c, rfl, h⟩; exact ⟨A, n, c, rfl, h.keep kStable hb.size hb.block⟩

set_option maxRecDepth 100000 in
set_option maxHeartbeats 12000000 in
theorem lAtSpec_any (A : Option Addr) (n c : Nat) (l : List Fc) (k : Ky) (fr to known : Int) (w : World) (hl : fSl w w.heap.size A n c l) :
    Calls Try.prog 4 #[.slice A n c, .agg (kEnc k).toArray, .int .i64 fr, .int .i64 to, .int .i64 known] w fun e w' => e = .returned (.bool true) ∧ Below w.heap.size w w' := by
  show Calls Try.prog 4 #[.slice A n c, .agg #[.int .i64 k.kind, .int .i64 k.subj, .int .i64 k.obj], .int .i64 fr, .int .i64 to, .int .i64 known] w _
  obtain ⟨i0, hi, hz, hs, hbb⟩ := info_parts kInfo
  obtain ⟨W, hW⟩ : ∃ W, w.alloc (.cells #[.int .i64 k.kind, .int .i64 k.subj, .int .i64 k.obj] 24) = W := ⟨_, rfl⟩
  have hBW : Below w.heap.size w W := hW ▸ (Below.refl _ w).alloc (Nat.le_refl _) _
  have hbox : W.heap[w.heap.size]? = some (.cells #[.int .i64 k.kind, .int .i64 k.subj, .int .i64 k.obj] 24 (0, 0)) := hW ▸ World.alloc_heap_new _ _
  have HL : Hid (∀ W', Below W.heap.size W W' → fSl W' W'.heap.size A n c l) := fun W' h => (hl.keep fStable hBW.size hBW.block).keep fStable h.size h.block
  have HF : Hid (∀ W', Below W.heap.size W W' → W'.cell? ⟨w.heap.size, 0, none⟩ = some (.int .i64 k.kind) ∧ W'.cell? ⟨w.heap.size, 1, none⟩ = some (.int .i64 k.subj) ∧ W'.cell? ⟨w.heap.size, 2, none⟩ = some (.int .i64 k.obj)) := fun W' h => by
    have := (h.block _ (lt_of_heap hbox)).trans hbox
    exact ⟨cell_of_heap this, cell_of_heap this, cell_of_heap this⟩
  have HW := hidp hW
  have HBW := hidp hBW
  have hlen := hl.2.1
  have hcap := hl.2.2.1
  clear hW hBW hbox hl
  go_enter Try.func4, Try.ntmps4
  go_wp2_with fail
  rw [HW.out]
  refine (sane07_any W).mono ?_
  rintro e w1 ⟨rfl, hb1⟩
  go_wp2_with fail
  refine (rFew_any A n c w1).mono ?_
  rintro e w2 ⟨rfl, rfl⟩
  by_cases hn : n ≤ 30
  · have hd : decide (n ≤ 30) = true := by simpa using hn
    obtain ⟨c0, c1, c2⟩ := HF.out w1 hb1
    rw [hd]
    rcases Nat.eq_zero_or_pos n with h0 | h0
    · subst h0
      obtain ⟨w3, hw3⟩ : ∃ w3, w1.alloc (.cells #[.int .i64 k.kind, .int .i64 k.subj, .int .i64 k.obj] 24) = w3 := ⟨_, rfl⟩
      have hbk : Below w1.heap.size w1 w3 := hw3 ▸ (Below.refl _ w1).alloc (Nat.le_refl _) _
      have hkh : w3.heap[w1.heap.size]? = some (.cells #[.int .i64 k.kind, .int .i64 k.subj, .int .i64 k.obj] 24 (0, 0)) := hw3 ▸ World.alloc_heap_new _ _
      have rks : kSl w3 w3.heap.size (some ⟨w1.heap.size, 0, none⟩) 1 1 [k] := rows_of_heap (l := [k]) kEnc_len hkh (Nat.le_refl _) (by decide) rfl
      have hB3 := hb1.trans (hbk.mono hb1.size)
      have HW3 := hidp hw3
      clear hkh hbk hw3
      go_wp2_with fail
      rw [HW3.out]
      obtain ⟨Ak, hAk⟩ : ∃ Ak : Option Addr, some ⟨w1.heap.size, 0, none⟩ = Ak := ⟨_, rfl⟩
      rw [hAk] at rks ⊢
      clear hAk

      have HBV := hidp hB3
      have HM := hidp rks.1
      have hck := rks.2.1
      have hck2 := rks.2.2.1
      have HKS := hidp rks
      clear rks hB3
      go_wp2_with fail
      go_loopw [12] (fun i wr => ∃ q : Nat, q ≤ 1 ∧ i = .int .i64 q ∧ Below w3.heap.size w3 wr) (fun i _ => 1 - (intOf i).toNat)
      case atStart => exact ⟨0, by omega, rfl, Below.refl _ _⟩
      case round =>
        obtain ⟨q, hq, rfl, hbe⟩ := hrel
        by_cases hlt : q < 1
        · obtain ⟨bq, oq, kq, rfl, hbq, hzq, c0, c1, c2⟩ := kSl.get (HKS.out.keep kStable hbe.size hbe.block) hlt
          have hqn : (q : Int) < 1 := by omega
          have HZ := hidp hzq
          have hB4 := HBV.out.trans (hbe.mono HBV.out.size)
          have hbl1 := lt_of_cell c0
          clear hzq
          go_wp2_with fail
          refine (fAt_any _ _ _ l kq fr known _ (HL.out _ hB4)).mono ?_
          rintro e w4 ⟨rfl, hb4⟩
          have hB5 := hbe.trans (hb4.mono hbe.size)
          obtain ⟨V, hV⟩ : ∃ V, (atF l kq fr known).getD 0 = V := ⟨_, rfl⟩
          obtain ⟨S, hS⟩ : ∃ S, (atF l kq fr known).isSome = S := ⟨_, rfl⟩
          rw [hV, hS]
          have HV := hidp hV
          have HS := hidp hS
          clear c0 c1 c2 hB4 hbe hb4 hV hS hbl1
          obtain ⟨_, _, kq', e, _, hzq, c0, c1, c2⟩ := kSl.get (HKS.out.keep kStable hB5.size hB5.block) hlt
          cases e
          cases HZ.out.symm.trans hzq
          have hB6 := HBV.out.trans (hB5.mono HBV.out.size)
          have hbl1 := lt_of_cell c0
          clear hzq
          go_wp2_with fail
          refine (rAt_any _ _ _ l kq fr known _ (HL.out _ hB6)).mono ?_
          rintro e w5 ⟨rfl, hb5⟩
          rw [HV.out, HS.out]
          have hB7 := hB5.trans (hb5.mono hB5.size)
          have HB7 := hidp hB7
          clear c0 c1 c2 hB6 hB5 hb5 hbl1
          have HLL : Hid (∀ W', Below w5.heap.size w5 W' → fSl W' W'.heap.size A 0 c l) := fun W' h => by
            have h1 := HBV.out.trans (HB7.out.mono HBV.out.size)
            exact HL.out W' (h1.trans (h.mono h1.size))
          have HKQ : Hid (∀ W', Below w5.heap.size w5 W' → bq < W'.heap.size ∧ W'.cell? ⟨bq, oq + q * 3, none⟩ = some (.int .i64 kq.kind) ∧ W'.cell? ⟨bq, oq + q * 3 + 1, none⟩ = some (.int .i64 kq.subj) ∧ W'.cell? ⟨bq, oq + q * 3 + 2, none⟩ = some (.int .i64 kq.obj)) := fun W' h => by
            have h1 := HB7.out.trans (h.mono HB7.out.size)
            obtain ⟨_, _, kq', e, hb', hzq, c0, c1, c2⟩ := kSl.get (HKS.out.keep kStable h1.size h1.block) hlt
            cases e
            cases HZ.out.symm.trans hzq
            exact ⟨hb', c0, c1, c2⟩
          clear hB7
          go_wp2_with fail
          refine wp_region_S w5.heap.size 30 (fun _ => false) (Nat.le_refl _) (by kernel_rfl) (by kernel_rfl) (by kernel_rfl) ?_
          dsimp only [List.take, List.drop]
          apply relS_det (mask := [])
          · rfl
          · kernel_rfl
          · kernel_rfl
          · dsimp only [oblS]
            rintro w9 h9
            go_simp
            exact ⟨Below.refl _ _, rfl⟩
          dsimp only [List.nil_append, List.cons_append]
          apply relS_det (mask := [false])
          · rfl
          · kernel_rfl
          · kernel_rfl
          · dsimp only [oblS]
            rintro w9 h9
            go_simp
            exact ⟨Below.refl _ _, rfl⟩
          dsimp only [List.nil_append, List.cons_append]
          apply relS_det (mask := [true, true]) (x := .bool false)
          · rfl
          · kernel_rfl
          · kernel_rfl
          · dsimp only [oblS]
            rintro w9 h9
            go_simp
            exact ⟨Below.refl _ _, by simp [IsV]⟩
          dsimp only [List.nil_append, List.cons_append]
          apply relS_det (mask := [false, false, true])
          · rfl
          · kernel_rfl
          · kernel_rfl
          · dsimp only [oblS]
            rintro w9 h9
            go_simp
            exact ⟨Below.refl _ _, rfl⟩
          dsimp only [List.nil_append, List.cons_append]
          apply relS_detg (mask := [false, false, false, true]) (t := 72) (want := false)
          · rfl
          · kernel_rfl
          · kernel_rfl
          · dsimp only [oblS]
            refine ⟨by rfl, ?_⟩
            rintro w9 h9
            go_simp
            exact ⟨Below.refl _ _, rfl⟩
          dsimp only [List.nil_append, List.cons_append]
          apply relS_detg (mask := [false, false, false, true, false]) (t := 72) (want := false)
          · rfl
          · kernel_rfl
          · kernel_rfl
          · dsimp only [oblS]
            refine ⟨by rfl, ?_⟩
            rintro w9 h9
            go_simp
            exact ⟨Below.refl _ _, rfl⟩
          dsimp only [List.nil_append, List.cons_append]
          apply relS_detg (mask := [false, false, false, true, true, true]) (t := 72) (want := false) (x := .bool false)
          · rfl
          · kernel_rfl
          · kernel_rfl
          · dsimp only [oblS]
            refine ⟨by rfl, ?_⟩
            rintro w9 h9
            go_simp
            exact ⟨Below.refl _ _, by simp [IsV]⟩
          dsimp only [List.nil_append, List.cons_append]
          apply relS_det (mask := [false, false, false, true, false, false, true])
          · rfl
          · kernel_rfl
          · kernel_rfl
          · dsimp only [oblS]
            rintro w9 h9
            go_simp
            exact ⟨Below.refl _ _, rfl⟩
          dsimp only [List.nil_append, List.cons_append]
          apply relS_det (mask := [false, false, false, false, false, false, false, true])
          · rfl
          · kernel_rfl
          · kernel_rfl
          · dsimp only [oblS]
            rintro w9 h9
            go_simp
            exact ⟨Below.refl _ _, rfl⟩
          dsimp only [List.nil_append, List.cons_append]
          apply relS_detg (mask := [false, false, false, false, false, false, false, false, true]) (t := 77) (want := false)
          · rfl
          · kernel_rfl
          · kernel_rfl
          · dsimp only [oblS]
            refine ⟨by rfl, ?_⟩
            rintro w9 h9
            go_simp
            exact ⟨Below.refl _ _, rfl⟩
          dsimp only [List.nil_append, List.cons_append]
          apply relS_detg (mask := [false, false, false, false, false, false, false, false, true, false]) (t := 77) (want := false)
          · rfl
          · kernel_rfl
          · kernel_rfl
          · dsimp only [oblS]
            refine ⟨by rfl, ?_⟩
            rintro w9 h9
            go_simp
            exact ⟨Below.refl _ _, rfl⟩
          dsimp only [List.nil_append, List.cons_append]
          apply relS_detg (mask := [false, false, false, false, false, false, false, false, true, false, false]) (t := 77) (want := false)
          · rfl
          · kernel_rfl
          · kernel_rfl
          · dsimp only [oblS]
            refine ⟨by rfl, ?_⟩
            rintro w9 h9
            go_simp
            exact ⟨Below.refl _ _, rfl⟩
          dsimp only [List.nil_append, List.cons_append]
          apply relS_detg (mask := [false, false, false, false, false, false, false, false, true, false, true, true]) (t := 77) (want := false)
          · rfl
          · kernel_rfl
          · kernel_rfl
          · dsimp only [oblS]
            refine ⟨by rfl, ?_⟩
            rintro w9 h9
            go_simp
            exact ⟨Below.refl _ _, rfl⟩
          dsimp only [List.nil_append, List.cons_append]
          apply relS_detg (mask := [false, false, false, false, false, false, false, false, true, false, false, false, true]) (t := 77) (want := false) (x := .agg #[.int .i64 kq.kind, .int .i64 kq.subj, .int .i64 kq.obj])
          · rfl
          · kernel_rfl
          · kernel_rfl
          · dsimp only [oblS]
            refine ⟨by rfl, ?_⟩
            rintro w9 h9
            obtain ⟨zz, z0, z1, z2⟩ := HKQ.out w9 h9
            go_simp
            exact ⟨Below.refl _ _, rfl⟩
          dsimp only [List.nil_append, List.cons_append]
          apply relS_detg (mask := [false, false, false, false, false, false, false, false, true, false, false, false, false, false]) (t := 77) (want := false)
          · rfl
          · kernel_rfl
          · kernel_rfl
          · dsimp only [oblS]
            refine ⟨by rfl, ?_⟩
            rintro w9 h9
            go_simp
            exact ⟨Below.refl _ _, rfl⟩
          dsimp only [List.nil_append, List.cons_append]
          apply relS_detg (mask := [false, false, false, false, false, false, false, false, true, false, false, false, false, false, false]) (t := 77) (want := false)
          · rfl
          · kernel_rfl
          · kernel_rfl
          · dsimp only [oblS]
            refine ⟨by rfl, ?_⟩
            rintro w9 h9
            go_simp
            exact ⟨Below.refl _ _, rfl⟩
          dsimp only [List.nil_append, List.cons_append]
          apply relS_detg (mask := [false, false, false, false, false, false, false, false, true, false, false, false, false, false, false, false]) (t := 77) (want := false)
          · rfl
          · kernel_rfl
          · kernel_rfl
          · dsimp only [oblS]
            refine ⟨by rfl, ?_⟩
            rintro w9 h9
            go_simp
            exact ⟨Below.refl _ _, rfl⟩
          dsimp only [List.nil_append, List.cons_append]
          apply relS_anyg (mask := [false, false, false, false, false, false, false, false, true, true, false, false, false, true, true, true, true]) (t := 77) (want := false) (T := ptsT (pointsF l kq fr to known)) (hT := ptsT_stable _)
          · rfl
          · kernel_rfl
          · kernel_rfl
          · dsimp only [oblS]
            refine ⟨by rfl, ?_⟩
            rintro w9 h9 T' hT'
            go_simp
            refine (fPoints_any _ _ _ l kq fr to known _ (HLL.out w9 h9)).mono ?_
            rintro e w7 ⟨A7, n7, c7, rfl, r7, hb7⟩
            exact ⟨_, rfl, hb7, hT' _ _ ⟨A7, n7, c7, rfl, r7⟩⟩
          dsimp only [List.nil_append, List.cons_append]
          apply relS_detg (mask := [false, false, false, false, false, false, false, false, true, false, false, false, false, false, false, false, false, false]) (t := 77) (want := false)
          · rfl
          · kernel_rfl
          · kernel_rfl
          · dsimp only [oblS]
            refine ⟨by rfl, ?_⟩
            rintro w9 h9
            go_simp
            exact ⟨Below.refl _ _, rfl⟩
          dsimp only [List.nil_append, List.cons_append]
          apply relS_detg (mask := [false, false, false, false, false, false, false, false, true, false, false, false, false, false, false, false, false, false, false]) (t := 77) (want := false)
          · rfl
          · kernel_rfl
          · kernel_rfl
          · dsimp only [oblS]
            refine ⟨by rfl, ?_⟩
            rintro w9 h9
            go_simp
            exact ⟨Below.refl _ _, rfl⟩
          dsimp only [List.nil_append, List.cons_append]
          apply relS_detg (mask := [false, false, false, false, false, false, false, false, true, false, false, false, false, false, false, false, false, false, false, false]) (t := 77) (want := false)
          · rfl
          · kernel_rfl
          · kernel_rfl
          · dsimp only [oblS]
            refine ⟨by rfl, ?_⟩
            rintro w9 h9
            go_simp
            exact ⟨Below.refl _ _, rfl⟩
          dsimp only [List.nil_append, List.cons_append]
          apply relS_detg (mask := [false, false, false, false, false, false, false, false, true, false, false, false, false, false, false, false, false, false, false, true, true]) (t := 77) (want := false)
          · rfl
          · kernel_rfl
          · kernel_rfl
          · dsimp only [oblS]
            refine ⟨by rfl, ?_⟩
            rintro w9 h9
            go_simp
            exact ⟨Below.refl _ _, rfl⟩
          dsimp only [List.nil_append, List.cons_append]
          apply relS_detg (mask := [false, false, false, false, false, false, false, false, true, false, false, false, false, false, false, false, false, false, false, false, false, true]) (t := 77) (want := false) (x := .agg #[.int .i64 kq.kind, .int .i64 kq.subj, .int .i64 kq.obj])
          · rfl
          · kernel_rfl
          · kernel_rfl
          · dsimp only [oblS]
            refine ⟨by rfl, ?_⟩
            rintro w9 h9
            obtain ⟨zz, z0, z1, z2⟩ := HKQ.out w9 h9
            go_simp
            exact ⟨Below.refl _ _, rfl⟩
          dsimp only [List.nil_append, List.cons_append]
          apply relS_detg (mask := [false, false, false, false, false, false, false, false, true, false, false, false, false, false, false, false, false, false, false, false, false, false, false]) (t := 77) (want := false)
          · rfl
          · kernel_rfl
          · kernel_rfl
          · dsimp only [oblS]
            refine ⟨by rfl, ?_⟩
            rintro w9 h9
            go_simp
            exact ⟨Below.refl _ _, rfl⟩
          dsimp only [List.nil_append, List.cons_append]
          apply relS_detg (mask := [false, false, false, false, false, false, false, false, true, false, false, false, false, false, false, false, false, false, false, false, false, false, false, false]) (t := 77) (want := false)
          · rfl
          · kernel_rfl
          · kernel_rfl
          · dsimp only [oblS]
            refine ⟨by rfl, ?_⟩
            rintro w9 h9
            go_simp
            exact ⟨Below.refl _ _, rfl⟩
          dsimp only [List.nil_append, List.cons_append]
          apply relS_detg (mask := [false, false, false, false, false, false, false, false, true, false, false, false, false, false, false, false, false, false, false, false, false, false, false, false, false]) (t := 77) (want := false)
          · rfl
          · kernel_rfl
          · kernel_rfl
          · dsimp only [oblS]
            refine ⟨by rfl, ?_⟩
            rintro w9 h9
            go_simp
            exact ⟨Below.refl _ _, rfl⟩
          dsimp only [List.nil_append, List.cons_append]
          apply relS_anyg (mask := [false, false, false, false, false, false, false, false, true, false, false, false, false, false, false, false, false, false, true, false, false, false, true, true, true, true]) (t := 77) (want := false) (T := ptsT (pointsF l kq fr to known)) (hT := ptsT_stable _)
          · rfl
          · kernel_rfl
          · kernel_rfl
          · dsimp only [oblS]
            refine ⟨by rfl, ?_⟩
            rintro w9 h9 T' hT'
            go_simp
            refine (rPoints_any _ _ _ l kq fr to known _ (HLL.out w9 h9)).mono ?_
            rintro e w7 ⟨A7, n7, c7, rfl, r7, hb7⟩
            exact ⟨_, rfl, hb7, hT' _ _ ⟨A7, n7, c7, rfl, r7⟩⟩
          dsimp only [List.nil_append, List.cons_append]
          apply relS_detg (mask := [false, false, false, false, false, false, false, false, true, false, false, false, false, false, false, false, false, true, false, false, false, false, false, false, false, false, true]) (t := 77) (want := false) (x := .bool true)
          · rfl
          · kernel_rfl
          · kernel_rfl
          · dsimp only [oblS]
            intro v86 v95
            refine ⟨by rfl, ?_⟩
            rintro w9 ⟨⟨h9, t86⟩, t95⟩
            obtain ⟨A1, n1, c1, rfl, r1⟩ := t86
            obtain ⟨A2, n2, c2, rfl, r2⟩ := t95
            go_simp
            refine (pSame_any _ _ _ _ _ _ _ _ _ r1 r2).mono ?_
            rintro e w7 ⟨rfl, hb7⟩
            exact ⟨_, rfl, hb7, by rw [decide_eq_true rfl]; rfl⟩
          dsimp only [List.nil_append, List.cons_append]
          apply relS_detg (mask := [false, false, false, false, false, false, false, false, true, false, false, false, false, false, false, false, false, false, false, false, false, false, false, false, false, false, false, true]) (t := 77) (want := false)
          · rfl
          · kernel_rfl
          · kernel_rfl
          · dsimp only [oblS]
            refine ⟨by rfl, ?_⟩
            rintro w9 h9
            go_simp
            exact ⟨Below.refl _ _, rfl⟩
          dsimp only [List.nil_append, List.cons_append]
          apply relS_det (mask := [false, false, false, false, false, false, false, false, true, false, false, false, false, false, false, false, false, false, false, false, false, false, false, false, false, false, false, false, true])
          · rfl
          · kernel_rfl
          · kernel_rfl
          · dsimp only [oblS]
            rintro w9 h9
            go_simp
            exact ⟨Below.refl _ _, rfl⟩
          dsimp only [List.nil_append, List.cons_append]
          refine relS_end (by rfl) ?_
          dsimp only [finS]
          -- rintro v86 v95 w8 ⟨⟨hb, t86⟩, t95⟩
          rintro v86 v95 w8 ⟨⟨hb8, -⟩, -⟩
          go_frame
          have hB9 := HB7.out.trans (hb8.mono HB7.out.size)
          clear hb8
          go_wp2_with fail
          go_roundw
          case rel => exact ⟨q + 1, by omega, by go_num, hB9⟩
          case measure => simp [intOf]; omega
        · obtain rfl : q = 1 := by omega
          go_wp2_with fail
          go_ret
          exact ⟨rfl, HBW.out.trans (Below.mono (HBV.out.trans (hbe.mono HBV.out.size)) HBW.out.size)⟩
    · obtain ⟨b, off, x, rfl, hbl, hx, -⟩ := fSl.get (HL.out w1 hb1) (k := 0) h0
      obtain ⟨b', off', y, e, _, hy, -⟩ := fSl.get (HL.out w1 hb1) (k := n - 1) (by omega)
      cases e
      have hpd : decide (0 < n) = true := by simpa using h0
      obtain ⟨wk, hwk⟩ : ∃ wk, w1.alloc (.cells #[.int .i64 k.kind, .int .i64 k.subj, .int .i64 k.obj] 24) = wk := ⟨_, rfl⟩
      have hbk : Below w1.heap.size w1 wk := hwk ▸ (Below.refl _ w1).alloc (Nat.le_refl _) _
      have hkh : wk.heap[w1.heap.size]? = some (.cells #[.int .i64 k.kind, .int .i64 k.subj, .int .i64 k.obj] 24 (0, 0)) := hwk ▸ World.alloc_heap_new _ _
      have rk : kSl wk wk.heap.size (some ⟨w1.heap.size, 0, none⟩) 1 1 [k] := rows_of_heap (l := [k]) kEnc_len hkh (Nat.le_refl _) (by decide) rfl
      have HRK := hidp rk
      have hBk := hb1.trans (hbk.mono hb1.size)
      have HBk := hidp hBk
      have HWK := hidp hwk
      have hkz : wk.heap.size = w1.heap.size + 1 := by rw [← hwk]; simp
      have HKZ := hidp hkz
      have HCX : Hid (∀ W', Below wk.heap.size wk W' → W'.cell? ⟨b, off, none⟩ = some (.int .i64 x.key.kind) ∧ W'.cell? ⟨b, off + 1, none⟩ = some (.int .i64 x.key.subj) ∧ W'.cell? ⟨b, off + 2, none⟩ = some (.int .i64 x.key.obj)) := fun W' h => by
        obtain ⟨_, _, m, e, _, hm, z0, z1, z2, _⟩ := fSl.get (HL.out W' (hBk.trans (h.mono hBk.size))) (k := 0) h0
        cases e
        rw [hx] at hm
        cases hm
        rw [Nat.zero_mul] at z0 z1 z2
        exact ⟨z0, z1, z2⟩
      have HCY : Hid (∀ W', Below wk.heap.size wk W' → W'.cell? ⟨b, off + (n - 1) * 8, none⟩ = some (.int .i64 y.key.kind) ∧ W'.cell? ⟨b, off + (n - 1) * 8 + 1, none⟩ = some (.int .i64 y.key.subj) ∧ W'.cell? ⟨b, off + (n - 1) * 8 + 2, none⟩ = some (.int .i64 y.key.obj)) := fun W' h => by
        obtain ⟨_, _, m, e, _, hm, z0, z1, z2, _⟩ := fSl.get (HL.out W' (hBk.trans (h.mono hBk.size))) (k := n - 1) (by omega)
        cases e
        rw [hy] at hm
        cases hm
        exact ⟨z0, z1, z2⟩
      have hpos : (1 : Int) ≤ n := by omega
      have hin1 : (n : Int) - 1 < n := by omega
      have hwrap : IntKind.i64.wrap ((n : Int) - 1) = (n : Int) - 1 := IntWalk.i64_in _ (by omega)
      have hto : ((n : Int) - 1).toNat = n - 1 := by omega
      have hbkl : b < wk.heap.size := by omega
      clear hx hy hkh hkz hbk rk hwk hBk
      go_wp2_with fail
      rw [HWK.out]
      refine wp_region_S wk.heap.size 15 (fun _ => false) (Nat.le_refl _) (by kernel_rfl) (by kernel_rfl) (by kernel_rfl) ?_
      dsimp only [List.take, List.drop]
      apply relS_det (mask := [])
      · rfl
      · kernel_rfl
      · kernel_rfl
      · dsimp only [oblS]
        rintro w9 h9
        go_simp
        exact ⟨Below.refl _ _, rfl⟩
      dsimp only [List.nil_append, List.cons_append]
      apply relS_det (mask := [false])
      · rfl
      · kernel_rfl
      · kernel_rfl
      · dsimp only [oblS]
        rintro w9 h9
        go_simp
        exact ⟨Below.refl _ _, rfl⟩
      dsimp only [List.nil_append, List.cons_append]
      apply relS_det (mask := [false, true])
      · rfl
      · kernel_rfl
      · kernel_rfl
      · dsimp only [oblS]
        rintro w9 h9
        go_simp
        exact ⟨Below.refl _ _, rfl⟩
      dsimp only [List.nil_append, List.cons_append]
      apply relS_det (mask := [false, false, true])
      · rfl
      · kernel_rfl
      · kernel_rfl
      · dsimp only [oblS]
        rintro w9 h9
        go_simp
        exact ⟨Below.refl _ _, rfl⟩
      dsimp only [List.nil_append, List.cons_append]
      apply relS_det (mask := [false, false, false, true]) (x := .agg #[.int .i64 x.key.kind, .int .i64 x.key.subj, .int .i64 x.key.obj])
      · rfl
      · kernel_rfl
      · kernel_rfl
      · dsimp only [oblS]
        rintro w9 h9
        obtain ⟨z0, z1, z2⟩ := HCX.out w9 h9
        go_simp
        exact ⟨Below.refl _ _, rfl⟩
      dsimp only [List.nil_append, List.cons_append]
      apply relS_det (mask := [false, false, false, false, false])
      · rfl
      · kernel_rfl
      · kernel_rfl
      · dsimp only [oblS]
        rintro w9 h9
        go_simp
        exact ⟨Below.refl _ _, rfl⟩
      dsimp only [List.nil_append, List.cons_append]
      apply relS_det (mask := [false, false, false, false, false, false])
      · rfl
      · kernel_rfl
      · kernel_rfl
      · dsimp only [oblS]
        rintro w9 h9
        go_simp
        exact ⟨Below.refl _ _, rfl⟩
      dsimp only [List.nil_append, List.cons_append]
      apply relS_det (mask := [false, false, false, false, false, false, true])
      · rfl
      · kernel_rfl
      · kernel_rfl
      · dsimp only [oblS]
        rintro w9 h9
        go_simp
        exact ⟨Below.refl _ _, rfl⟩
      dsimp only [List.nil_append, List.cons_append]
      apply relS_det (mask := [false, false, false, false, false, false, false, true])
      · rfl
      · kernel_rfl
      · kernel_rfl
      · dsimp only [oblS]
        rintro w9 h9
        go_simp
        exact ⟨Below.refl _ _, rfl⟩
      dsimp only [List.nil_append, List.cons_append]
      apply relS_det (mask := [false, false, false, false, false, true, false, false, true])
      · rfl
      · kernel_rfl
      · kernel_rfl
      · dsimp only [oblS]
        rintro w9 h9
        go_simp
        exact ⟨Below.refl _ _, rfl⟩
      dsimp only [List.nil_append, List.cons_append]
      apply relS_det (mask := [false, false, false, false, false, false, false, false, false, true])
      · rfl
      · kernel_rfl
      · kernel_rfl
      · dsimp only [oblS]
        rintro w9 h9
        go_simp
        exact ⟨Below.refl _ _, rfl⟩
      dsimp only [List.nil_append, List.cons_append]
      apply relS_det (mask := [false, false, false, false, false, false, false, false, false, false, true]) (x := .agg #[.int .i64 y.key.kind, .int .i64 y.key.subj, .int .i64 y.key.obj])
      · rfl
      · kernel_rfl
      · kernel_rfl
      · dsimp only [oblS]
        rintro w9 h9
        obtain ⟨z0, z1, z2⟩ := HCY.out w9 h9
        go_simp
        exact ⟨Below.refl _ _, rfl⟩
      dsimp only [List.nil_append, List.cons_append]
      apply relS_any (mask := [false, false, false, false, true, false, false, false, false, false, false, true]) (T := keysT [x.key, y.key]) (hT := keysT_stable _)
      · rfl
      · kernel_rfl
      · kernel_rfl
      · dsimp only [oblS]
        rintro w9 h9 T' hT'
        go_simp
        exact ⟨(Below.refl _ w9).alloc (Nat.le_refl _) _, hT' _ _ ⟨_, _, _, rfl, rows_of_heap (l := [x.key, y.key]) kEnc_len (World.alloc_heap_new w9 _) (Nat.le_refl _) (by decide) rfl⟩⟩
      dsimp only [List.nil_append, List.cons_append]
      apply relS_any (mask := [true, false, false, false, false, false, false, false, false, false, false, false, true]) (T := keysT [k, x.key, y.key]) (hT := keysT_stable _)
      · rfl
      · kernel_rfl
      · kernel_rfl
      · dsimp only [oblS]
        intro v39
        rintro w9 ⟨h9, t39⟩ T' hT'
        obtain ⟨A2, n2, c2, rfl, r2⟩ := t39
        obtain rfl : n2 = 2 := r2.1
        obtain ⟨v', w', hrun, hown', hb'⟩ := run_append_clip (P := Try.prog) (ty := 37) (enc := kEnc) Try.underlying37 hi hz hs hbb rfl kEnc_len (by decide) kEnc_one (HRK.out.keep kStable h9.size h9.block) r2 (by omega) (by omega) (by omega)
        obtain ⟨A5, c5, rfl, r5⟩ := own_rows kEnc_len (by decide) hown'
        exact relUpon_append (.tmp 27) (.tmp 39) 37 rfl rfl rfl hrun hb' (hT' _ _ ⟨A5, 3, c5, rfl, r5⟩)
      dsimp only [List.nil_append, List.cons_append]
      apply relS_any (mask := [true, false, false, false, false, false, false, false, false, false, false, false, false, true]) (T := keysT [k, x.key, y.key]) (hT := keysT_stable _)
      · rfl
      · kernel_rfl
      · kernel_rfl
      · dsimp only [oblS]
        intro v40
        rintro w9 ⟨h9, t40⟩ T' hT'
        obtain ⟨A2, n2, c2, rfl, r2⟩ := t40
        go_simp
        exact ⟨Below.refl _ _, hT' _ _ ⟨A2, n2, c2, rfl, r2⟩⟩
      dsimp only [List.nil_append, List.cons_append]
      refine relS_end (by rfl) ?_
      dsimp only [finS]
      -- rintro v39 v40 v11 w8 ⟨⟨⟨hb, t39⟩, t40⟩, t11⟩
      rintro v39 v40 v11 w8 ⟨⟨⟨hb8, -⟩, -⟩, Ak, nk, ck, rfl, rks⟩
      go_frame
      have hB3 := HBk.out.trans (hb8.mono HBk.out.size)
      have w3e : ∃ w3, w3 = w8 := ⟨_, rfl⟩
      obtain ⟨w3, rfl⟩ := w3e
      obtain rfl : nk = 3 := rks.1
      clear HCX HCY HRK hb8 hpos hin1 hwrap hto hpd HWK HKZ

      have HBV := hidp hB3
      have HM := hidp rks.1
      have hck := rks.2.1
      have hck2 := rks.2.2.1
      have HKS := hidp rks
      clear rks hB3
      go_wp2_with fail
      go_loopw [12] (fun i wr => ∃ q : Nat, q ≤ 3 ∧ i = .int .i64 q ∧ Below w3.heap.size w3 wr) (fun i _ => 3 - (intOf i).toNat)
      case atStart => exact ⟨0, by omega, rfl, Below.refl _ _⟩
      case round =>
        obtain ⟨q, hq, rfl, hbe⟩ := hrel
        by_cases hlt : q < 3
        · obtain ⟨bq, oq, kq, rfl, hbq, hzq, c0, c1, c2⟩ := kSl.get (HKS.out.keep kStable hbe.size hbe.block) hlt
          have hqn : (q : Int) < 3 := by omega
          have HZ := hidp hzq
          have hB4 := HBV.out.trans (hbe.mono HBV.out.size)
          have hbl1 := lt_of_cell c0
          clear hzq
          go_wp2_with fail
          refine (fAt_any _ _ _ l kq fr known _ (HL.out _ hB4)).mono ?_
          rintro e w4 ⟨rfl, hb4⟩
          have hB5 := hbe.trans (hb4.mono hbe.size)
          obtain ⟨V, hV⟩ : ∃ V, (atF l kq fr known).getD 0 = V := ⟨_, rfl⟩
          obtain ⟨S, hS⟩ : ∃ S, (atF l kq fr known).isSome = S := ⟨_, rfl⟩
          rw [hV, hS]
          have HV := hidp hV
          have HS := hidp hS
          clear c0 c1 c2 hB4 hbe hb4 hV hS hbl1
          obtain ⟨_, _, kq', e, _, hzq, c0, c1, c2⟩ := kSl.get (HKS.out.keep kStable hB5.size hB5.block) hlt
          cases e
          cases HZ.out.symm.trans hzq
          have hB6 := HBV.out.trans (hB5.mono HBV.out.size)
          have hbl1 := lt_of_cell c0
          clear hzq
          go_wp2_with fail
          refine (rAt_any _ _ _ l kq fr known _ (HL.out _ hB6)).mono ?_
          rintro e w5 ⟨rfl, hb5⟩
          rw [HV.out, HS.out]
          have hB7 := hB5.trans (hb5.mono hB5.size)
          have HB7 := hidp hB7
          clear c0 c1 c2 hB6 hB5 hb5 hbl1
          have HLL : Hid (∀ W', Below w5.heap.size w5 W' → fSl W' W'.heap.size (some ⟨b, off, none⟩) n c l) := fun W' h => by
            have h1 := HBV.out.trans (HB7.out.mono HBV.out.size)
            exact HL.out W' (h1.trans (h.mono h1.size))
          have HKQ : Hid (∀ W', Below w5.heap.size w5 W' → bq < W'.heap.size ∧ W'.cell? ⟨bq, oq + q * 3, none⟩ = some (.int .i64 kq.kind) ∧ W'.cell? ⟨bq, oq + q * 3 + 1, none⟩ = some (.int .i64 kq.subj) ∧ W'.cell? ⟨bq, oq + q * 3 + 2, none⟩ = some (.int .i64 kq.obj)) := fun W' h => by
            have h1 := HB7.out.trans (h.mono HB7.out.size)
            obtain ⟨_, _, kq', e, hb', hzq, c0, c1, c2⟩ := kSl.get (HKS.out.keep kStable h1.size h1.block) hlt
            cases e
            cases HZ.out.symm.trans hzq
            exact ⟨hb', c0, c1, c2⟩
          clear hB7
          go_wp2_with fail
          refine wp_region_S w5.heap.size 30 (fun _ => false) (Nat.le_refl _) (by kernel_rfl) (by kernel_rfl) (by kernel_rfl) ?_
          dsimp only [List.take, List.drop]
          apply relS_det (mask := [])
          · rfl
          · kernel_rfl
          · kernel_rfl
          · dsimp only [oblS]
            rintro w9 h9
            go_simp
            exact ⟨Below.refl _ _, rfl⟩
          dsimp only [List.nil_append, List.cons_append]
          apply relS_det (mask := [false])
          · rfl
          · kernel_rfl
          · kernel_rfl
          · dsimp only [oblS]
            rintro w9 h9
            go_simp
            exact ⟨Below.refl _ _, rfl⟩
          dsimp only [List.nil_append, List.cons_append]
          apply relS_det (mask := [true, true]) (x := .bool false)
          · rfl
          · kernel_rfl
          · kernel_rfl
          · dsimp only [oblS]
            rintro w9 h9
            go_simp
            exact ⟨Below.refl _ _, by simp [IsV]⟩
          dsimp only [List.nil_append, List.cons_append]
          apply relS_det (mask := [false, false, true])
          · rfl
          · kernel_rfl
          · kernel_rfl
          · dsimp only [oblS]
            rintro w9 h9
            go_simp
            exact ⟨Below.refl _ _, rfl⟩
          dsimp only [List.nil_append, List.cons_append]
          apply relS_detg (mask := [false, false, false, true]) (t := 72) (want := false)
          · rfl
          · kernel_rfl
          · kernel_rfl
          · dsimp only [oblS]
            refine ⟨by rfl, ?_⟩
            rintro w9 h9
            go_simp
            exact ⟨Below.refl _ _, rfl⟩
          dsimp only [List.nil_append, List.cons_append]
          apply relS_detg (mask := [false, false, false, true, false]) (t := 72) (want := false)
          · rfl
          · kernel_rfl
          · kernel_rfl
          · dsimp only [oblS]
            refine ⟨by rfl, ?_⟩
            rintro w9 h9
            go_simp
            exact ⟨Below.refl _ _, rfl⟩
          dsimp only [List.nil_append, List.cons_append]
          apply relS_detg (mask := [false, false, false, true, true, true]) (t := 72) (want := false) (x := .bool false)
          · rfl
          · kernel_rfl
          · kernel_rfl
          · dsimp only [oblS]
            refine ⟨by rfl, ?_⟩
            rintro w9 h9
            go_simp
            exact ⟨Below.refl _ _, by simp [IsV]⟩
          dsimp only [List.nil_append, List.cons_append]
          apply relS_det (mask := [false, false, false, true, false, false, true])
          · rfl
          · kernel_rfl
          · kernel_rfl
          · dsimp only [oblS]
            rintro w9 h9
            go_simp
            exact ⟨Below.refl _ _, rfl⟩
          dsimp only [List.nil_append, List.cons_append]
          apply relS_det (mask := [false, false, false, false, false, false, false, true])
          · rfl
          · kernel_rfl
          · kernel_rfl
          · dsimp only [oblS]
            rintro w9 h9
            go_simp
            exact ⟨Below.refl _ _, rfl⟩
          dsimp only [List.nil_append, List.cons_append]
          apply relS_detg (mask := [false, false, false, false, false, false, false, false, true]) (t := 77) (want := false)
          · rfl
          · kernel_rfl
          · kernel_rfl
          · dsimp only [oblS]
            refine ⟨by rfl, ?_⟩
            rintro w9 h9
            go_simp
            exact ⟨Below.refl _ _, rfl⟩
          dsimp only [List.nil_append, List.cons_append]
          apply relS_detg (mask := [false, false, false, false, false, false, false, false, true, false]) (t := 77) (want := false)
          · rfl
          · kernel_rfl
          · kernel_rfl
          · dsimp only [oblS]
            refine ⟨by rfl, ?_⟩
            rintro w9 h9
            go_simp
            exact ⟨Below.refl _ _, rfl⟩
          dsimp only [List.nil_append, List.cons_append]
          apply relS_detg (mask := [false, false, false, false, false, false, false, false, true, false, false]) (t := 77) (want := false)
          · rfl
          · kernel_rfl
          · kernel_rfl
          · dsimp only [oblS]
            refine ⟨by rfl, ?_⟩
            rintro w9 h9
            go_simp
            exact ⟨Below.refl _ _, rfl⟩
          dsimp only [List.nil_append, List.cons_append]
          apply relS_detg (mask := [false, false, false, false, false, false, false, false, true, false, true, true]) (t := 77) (want := false)
          · rfl
          · kernel_rfl
          · kernel_rfl
          · dsimp only [oblS]
            refine ⟨by rfl, ?_⟩
            rintro w9 h9
            go_simp
            exact ⟨Below.refl _ _, rfl⟩
          dsimp only [List.nil_append, List.cons_append]
          apply relS_detg (mask := [false, false, false, false, false, false, false, false, true, false, false, false, true]) (t := 77) (want := false) (x := .agg #[.int .i64 kq.kind, .int .i64 kq.subj, .int .i64 kq.obj])
          · rfl
          · kernel_rfl
          · kernel_rfl
          · dsimp only [oblS]
            refine ⟨by rfl, ?_⟩
            rintro w9 h9
            obtain ⟨zz, z0, z1, z2⟩ := HKQ.out w9 h9
            go_simp
            exact ⟨Below.refl _ _, rfl⟩
          dsimp only [List.nil_append, List.cons_append]
          apply relS_detg (mask := [false, false, false, false, false, false, false, false, true, false, false, false, false, false]) (t := 77) (want := false)
          · rfl
          · kernel_rfl
          · kernel_rfl
          · dsimp only [oblS]
            refine ⟨by rfl, ?_⟩
            rintro w9 h9
            go_simp
            exact ⟨Below.refl _ _, rfl⟩
          dsimp only [List.nil_append, List.cons_append]
          apply relS_detg (mask := [false, false, false, false, false, false, false, false, true, false, false, false, false, false, false]) (t := 77) (want := false)
          · rfl
          · kernel_rfl
          · kernel_rfl
          · dsimp only [oblS]
            refine ⟨by rfl, ?_⟩
            rintro w9 h9
            go_simp
            exact ⟨Below.refl _ _, rfl⟩
          dsimp only [List.nil_append, List.cons_append]
          apply relS_detg (mask := [false, false, false, false, false, false, false, false, true, false, false, false, false, false, false, false]) (t := 77) (want := false)
          · rfl
          · kernel_rfl
          · kernel_rfl
          · dsimp only [oblS]
            refine ⟨by rfl, ?_⟩
            rintro w9 h9
            go_simp
            exact ⟨Below.refl _ _, rfl⟩
          dsimp only [List.nil_append, List.cons_append]
          apply relS_anyg (mask := [false, false, false, false, false, false, false, false, true, true, false, false, false, true, true, true, true]) (t := 77) (want := false) (T := ptsT (pointsF l kq fr to known)) (hT := ptsT_stable _)
          · rfl
          · kernel_rfl
          · kernel_rfl
          · dsimp only [oblS]
            refine ⟨by rfl, ?_⟩
            rintro w9 h9 T' hT'
            go_simp
            refine (fPoints_any _ _ _ l kq fr to known _ (HLL.out w9 h9)).mono ?_
            rintro e w7 ⟨A7, n7, c7, rfl, r7, hb7⟩
            exact ⟨_, rfl, hb7, hT' _ _ ⟨A7, n7, c7, rfl, r7⟩⟩
          dsimp only [List.nil_append, List.cons_append]
          apply relS_detg (mask := [false, false, false, false, false, false, false, false, true, false, false, false, false, false, false, false, false, false]) (t := 77) (want := false)
          · rfl
          · kernel_rfl
          · kernel_rfl
          · dsimp only [oblS]
            refine ⟨by rfl, ?_⟩
            rintro w9 h9
            go_simp
            exact ⟨Below.refl _ _, rfl⟩
          dsimp only [List.nil_append, List.cons_append]
          apply relS_detg (mask := [false, false, false, false, false, false, false, false, true, false, false, false, false, false, false, false, false, false, false]) (t := 77) (want := false)
          · rfl
          · kernel_rfl
          · kernel_rfl
          · dsimp only [oblS]
            refine ⟨by rfl, ?_⟩
            rintro w9 h9
            go_simp
            exact ⟨Below.refl _ _, rfl⟩
          dsimp only [List.nil_append, List.cons_append]
          apply relS_detg (mask := [false, false, false, false, false, false, false, false, true, false, false, false, false, false, false, false, false, false, false, false]) (t := 77) (want := false)
          · rfl
          · kernel_rfl
          · kernel_rfl
          · dsimp only [oblS]
            refine ⟨by rfl, ?_⟩
            rintro w9 h9
            go_simp
            exact ⟨Below.refl _ _, rfl⟩
          dsimp only [List.nil_append, List.cons_append]
          apply relS_detg (mask := [false, false, false, false, false, false, false, false, true, false, false, false, false, false, false, false, false, false, false, true, true]) (t := 77) (want := false)
          · rfl
          · kernel_rfl
          · kernel_rfl
          · dsimp only [oblS]
            refine ⟨by rfl, ?_⟩
            rintro w9 h9
            go_simp
            exact ⟨Below.refl _ _, rfl⟩
          dsimp only [List.nil_append, List.cons_append]
          apply relS_detg (mask := [false, false, false, false, false, false, false, false, true, false, false, false, false, false, false, false, false, false, false, false, false, true]) (t := 77) (want := false) (x := .agg #[.int .i64 kq.kind, .int .i64 kq.subj, .int .i64 kq.obj])
          · rfl
          · kernel_rfl
          · kernel_rfl
          · dsimp only [oblS]
            refine ⟨by rfl, ?_⟩
            rintro w9 h9
            obtain ⟨zz, z0, z1, z2⟩ := HKQ.out w9 h9
            go_simp
            exact ⟨Below.refl _ _, rfl⟩
          dsimp only [List.nil_append, List.cons_append]
          apply relS_detg (mask := [false, false, false, false, false, false, false, false, true, false, false, false, false, false, false, false, false, false, false, false, false, false, false]) (t := 77) (want := false)
          · rfl
          · kernel_rfl
          · kernel_rfl
          · dsimp only [oblS]
            refine ⟨by rfl, ?_⟩
            rintro w9 h9
            go_simp
            exact ⟨Below.refl _ _, rfl⟩
          dsimp only [List.nil_append, List.cons_append]
          apply relS_detg (mask := [false, false, false, false, false, false, false, false, true, false, false, false, false, false, false, false, false, false, false, false, false, false, false, false]) (t := 77) (want := false)
          · rfl
          · kernel_rfl
          · kernel_rfl
          · dsimp only [oblS]
            refine ⟨by rfl, ?_⟩
            rintro w9 h9
            go_simp
            exact ⟨Below.refl _ _, rfl⟩
          dsimp only [List.nil_append, List.cons_append]
          apply relS_detg (mask := [false, false, false, false, false, false, false, false, true, false, false, false, false, false, false, false, false, false, false, false, false, false, false, false, false]) (t := 77) (want := false)
          · rfl
          · kernel_rfl
          · kernel_rfl
          · dsimp only [oblS]
            refine ⟨by rfl, ?_⟩
            rintro w9 h9
            go_simp
            exact ⟨Below.refl _ _, rfl⟩
          dsimp only [List.nil_append, List.cons_append]
          apply relS_anyg (mask := [false, false, false, false, false, false, false, false, true, false, false, false, false, false, false, false, false, false, true, false, false, false, true, true, true, true]) (t := 77) (want := false) (T := ptsT (pointsF l kq fr to known)) (hT := ptsT_stable _)
          · rfl
          · kernel_rfl
          · kernel_rfl
          · dsimp only [oblS]
            refine ⟨by rfl, ?_⟩
            rintro w9 h9 T' hT'
            go_simp
            refine (rPoints_any _ _ _ l kq fr to known _ (HLL.out w9 h9)).mono ?_
            rintro e w7 ⟨A7, n7, c7, rfl, r7, hb7⟩
            exact ⟨_, rfl, hb7, hT' _ _ ⟨A7, n7, c7, rfl, r7⟩⟩
          dsimp only [List.nil_append, List.cons_append]
          apply relS_detg (mask := [false, false, false, false, false, false, false, false, true, false, false, false, false, false, false, false, false, true, false, false, false, false, false, false, false, false, true]) (t := 77) (want := false) (x := .bool true)
          · rfl
          · kernel_rfl
          · kernel_rfl
          · dsimp only [oblS]
            intro v86 v95
            refine ⟨by rfl, ?_⟩
            rintro w9 ⟨⟨h9, t86⟩, t95⟩
            obtain ⟨A1, n1, c1, rfl, r1⟩ := t86
            obtain ⟨A2, n2, c2, rfl, r2⟩ := t95
            go_simp
            refine (pSame_any _ _ _ _ _ _ _ _ _ r1 r2).mono ?_
            rintro e w7 ⟨rfl, hb7⟩
            exact ⟨_, rfl, hb7, by rw [decide_eq_true rfl]; rfl⟩
          dsimp only [List.nil_append, List.cons_append]
          apply relS_detg (mask := [false, false, false, false, false, false, false, false, true, false, false, false, false, false, false, false, false, false, false, false, false, false, false, false, false, false, false, true]) (t := 77) (want := false)
          · rfl
          · kernel_rfl
          · kernel_rfl
          · dsimp only [oblS]
            refine ⟨by rfl, ?_⟩
            rintro w9 h9
            go_simp
            exact ⟨Below.refl _ _, rfl⟩
          dsimp only [List.nil_append, List.cons_append]
          apply relS_det (mask := [false, false, false, false, false, false, false, false, true, false, false, false, false, false, false, false, false, false, false, false, false, false, false, false, false, false, false, false, true])
          · rfl
          · kernel_rfl
          · kernel_rfl
          · dsimp only [oblS]
            rintro w9 h9
            go_simp
            exact ⟨Below.refl _ _, rfl⟩
          dsimp only [List.nil_append, List.cons_append]
          refine relS_end (by rfl) ?_
          dsimp only [finS]
          -- rintro v86 v95 w8 ⟨⟨hb, t86⟩, t95⟩
          rintro v86 v95 w8 ⟨⟨hb8, -⟩, -⟩
          go_frame
          have hB9 := HB7.out.trans (hb8.mono HB7.out.size)
          clear hb8
          go_wp2_with fail
          go_roundw
          case rel => exact ⟨q + 1, by omega, by go_num, hB9⟩
          case measure => simp [intOf]; omega
        · obtain rfl : q = 3 := by omega
          go_wp2_with fail
          go_ret
          exact ⟨rfl, HBW.out.trans (Below.mono (HBV.out.trans (hbe.mono HBV.out.size)) HBW.out.size)⟩
  · have hd : decide (n ≤ 30) = false := by simpa using hn
    rw [hd]
    go_wp2_with fail
    go_ret
    exact ⟨rfl, HBW.out.trans (hb1.mono HBW.out.size)⟩
def AtSpecCalls : Prop := ∀ (A : Option Addr) (n c : Nat) (l : List Fc) (k : Ky) (fr to known : Int) (w : World), fSl w w.heap.size A n c l → Calls Try.prog 4 #[.slice A n c, .agg (kEnc k).toArray, .int .i64 fr, .int .i64 to, .int .i64 known] w fun e w' => e = .returned (.bool true) ∧ Below w.heap.size w w'
theorem atSpec_calls : AtSpecCalls := lAtSpec_any
end Go.Proofs.Ytoalmffhiinbbaa
