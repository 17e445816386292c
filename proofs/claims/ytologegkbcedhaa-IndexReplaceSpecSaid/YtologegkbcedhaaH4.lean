/- The reference's Build walked. Regions printed by tools/gen51.py. -/
import Derived.Test.YtologegkbcedhaaH3
namespace Go.Proofs.Ytologegkbcedhaa
open Go.RowKit Go.Shelf

theorem linksOf_len (a : Int) (l : List Rd) : (linksOf a l).length = l.length := by simp [linksOf]
theorem ordL_snoc (l : List Lk) (x : Lk) : ordL (l ++ [x]) = insL x (ordL l) := ordOf_snoc l x
theorem ordL_len (l : List Lk) : (ordL l).length ≤ l.length := ordOf_len l

set_option maxRecDepth 100000 in
set_option maxHeartbeats 4000000 in
theorem qBuild_any (A : Option Addr) (n c : Nat) (l : List De) (w : World) (hl : deSl w w.heap.size A n c l) (hn : n ≤ 1000000) (hT : (allTo (l.map (·.2)) n).length ≤ 999999) :
    Calls Try.prog 14 #[.slice A n c] w (IxPost (buildL (l.map (·.2))) w) := by
  have HN := hidp hl.1
  have hcap := hl.2.2.1
  have hlen := hl.2.1
  obtain ⟨W0, hW0⟩ : ∃ W0, (w.alloc (.cells #[.slice none 0 0] 28)).alloc (.cells #[.slice none 0 0] 28) = W0 := ⟨_, rfl⟩
  have hBW : Below w.heap.size w W0 := by rw [← hW0]; exact ((Below.refl _ w).alloc (Nat.le_refl _) _).alloc (by simp) _
  have hz0 : W0.heap.size = w.heap.size + 2 := by rw [← hW0]; simp
  have g3 : W0.heap[w.heap.size + 1]? = some (.cells #[.slice none 0 0] 28 (0, 0)) := by
    rw [← hW0]
    have := World.alloc_heap_new (w.alloc (.cells #[.slice none 0 0] 28)) (.cells #[.slice none 0 0] 28)
    rw [World.size_alloc] at this
    exact this
  have g2 : W0.heap[w.heap.size]? = some (.cells #[.slice none 0 0] 28 (0, 0)) := by
    rw [← hW0]
    exact (Below.heap_alloc _ _ _ (by simp)).trans (World.alloc_heap_new _ _)
  have HW0 := hidp hW0
  have G2 := hidp g2
  have G3 := hidp g3
  have HBW := hidp hBW
  have HT := hidp hT
  clear hW0 g2 g3 hBW hT
  go_enter Try.func14, Try.ntmps14
  go_wp2_with fail
  rw [HW0.out]
  go_wp2_with fail
  go_loopw [4, 5] (fun i _ wr => ∃ (k m c' : Nat) (A' : Option Addr), k ≤ n ∧ i = .int .i64 k ∧ wr.heap[w.heap.size]? = some (.cells #[.slice none 0 0] 28 (0, 0)) ∧ wr.heap[w.heap.size + 1]? = some (.cells #[.slice A' m c'] 28 (0, 0)) ∧ lSl wr wr.heap.size A' m c' (ordL (allTo (l.map (·.2)) k)) ∧ Below w.heap.size w wr) (fun i _ _ => n - (intOf i).toNat)
  case atStart => exact ⟨0, 0, 0, none, by omega, rfl, G2.out, G3.out, Rows.nil (by decide), HBW.out⟩
  case round =>
    obtain ⟨k, m, c', A', hk, rfl, e2, e3, hr, hbe⟩ := hrel
    have E2 := hidp e2
    have E3 := hidp e3
    clear e2 e3
    by_cases hlt : k < n
    · obtain ⟨b, off, x, rfl, hb, hzx, hrd, c0, c1, c2, c3, c4, c5, c6, c7, c8, c9⟩ := deSl.get (hl.below deStable hbe) hlt
      have hkn : (k : Int) < n := by omega
      have HX := hidp hzx
      have HS : Hid (allTo (l.map (·.2)) (k + 1) = allTo (l.map (·.2)) k ++ linksOf k x.2) := allTo_step (de_reads hzx)
      have hrl := hrd.1
      have hTk : Hid ((allTo (l.map (·.2)) k).length + x.2.length ≤ 999999) := by
        have h1 := HT.out
        have h2 := allTo_mono (l.map (·.2)) (show k + 1 ≤ n by omega)
        rw [HS.out] at h2
        simp [linksOf] at h2
        show _ ≤ _
        omega
      have HRD := hidp hrd
      clear hzx c0 c1 c2 c3 c4 c5 c6 c7 c8 c9 hrd
      go_wp2_with fail
      go_loopw [5] (fun j wr2 => ∃ (q m c' : Nat) (A' : Option Addr), q ≤ x.1.rn ∧ j = .int .i64 q ∧ wr2.heap[w.heap.size]? = some (.cells #[.slice none 0 0] 28 (0, 0)) ∧ wr2.heap[w.heap.size + 1]? = some (.cells #[.slice A' m c'] 28 (0, 0)) ∧ lSl wr2 wr2.heap.size A' m c' (ordL (allTo (l.map (·.2)) k ++ linksOf k (x.2.take q))) ∧ Below w.heap.size w wr2) (fun j _ => x.1.rn - (intOf j).toNat)
      case atStart => exact ⟨0, m, c', A', by omega, rfl, E2.out, E3.out, by simpa [linksOf] using hr, hbe⟩
      case round =>
        obtain ⟨q, m, c', A', hq, rfl, e2, e3, hr2, hb2⟩ := hrel
        have E22 := hidp e2
        have E32 := hidp e3
        have hdl := hl.below deStable hb2
        obtain ⟨b2, off2, x2, he2, hbl, hx2, hrd, c0, c1, c2, c3, c4, c5, c6, c7, c8, c9⟩ := deSl.get hdl hlt
        simp only [Option.some.injEq, Addr.mk.injEq, and_true] at he2
        obtain ⟨rfl, rfl⟩ := he2
        have hxx : x2 = x := by have := HX.out; rw [hx2] at this; exact Option.some.inj this
        rw [hxx] at hrd c8
        have hlb := lt_of_cell c8
        have hrc := hrd.2.2.1
        have hrn := hrd.2.1
        clear hx2 hxx c0 c1 c2 c3 c4 c5 c6 c7 c9 hdl hr E2 E3 e2 e3
        by_cases hqm : q < x.1.rn
        · obtain ⟨br, offr, r, hre, hbr, hzr, r0, r1, r2, r3, r4⟩ := RdSl.get hrd hqm
          have hqn : (q : Int) < x.1.rn := by omega
          have HSq : Hid (linksOf k (x.2.take (q + 1)) = linksOf k (x.2.take q) ++ [(r, (k : Int))]) := linksOf_take0 hzr
          have hq2 : q < x.2.length := (List.getElem?_eq_some_iff.1 hzr).1
          have hml : m ≤ 1000000 := by
            have h1 := hr2.1
            have h2 := ordL_len (allTo (l.map (·.2)) k ++ linksOf k (x.2.take q))
            have h3 := hTk.out
            rw [List.length_append, linksOf_len, List.length_take] at h2
            omega
          have hM : ∀ W, Below wr.heap.size wr W → W.cell? ⟨w.heap.size + 1, 0, none⟩ = some (.slice A' m c') ∧ w.heap.size + 1 < W.heap.size ∧ W.cell? ⟨b, off + k * 10 + 8, none⟩ = some (.slice x.1.rA x.1.rn x.1.rc) ∧ b < W.heap.size ∧ br < W.heap.size ∧ W.cell? ⟨br, offr + q * 5, none⟩ = some (.int .i64 r.1.kind) ∧ W.cell? ⟨br, offr + q * 5 + 1, none⟩ = some (.int .i64 r.1.subj) ∧ W.cell? ⟨br, offr + q * 5 + 2, none⟩ = some (.int .i64 r.1.obj) ∧ W.cell? ⟨br, offr + q * 5 + 3, none⟩ = some (.int .i64 r.2.1) ∧ W.cell? ⟨br, offr + q * 5 + 4, none⟩ = some (.int .i64 r.2.2) ∧ lSl W W.heap.size A' m c' (ordL (allTo (l.map (·.2)) k ++ linksOf k (x.2.take q))) := fun W hW => by
            have h3 := (hW.block _ (lt_of_heap E32.out)).trans E32.out
            have hc := (bcell hW).1
            exact ⟨cell_of_heap h3, lt_of_heap h3, by rw [hc _ _ hlb]; exact c8, Nat.lt_of_lt_of_le hlb hW.size, Nat.lt_of_lt_of_le (lt_of_cell r0) hW.size, by rw [hc _ _ (lt_of_cell r0)]; exact r0, by rw [hc _ _ (lt_of_cell r0)]; exact r1, by rw [hc _ _ (lt_of_cell r0)]; exact r2, by rw [hc _ _ (lt_of_cell r0)]; exact r3, by rw [hc _ _ (lt_of_cell r0)]; exact r4, hr2.keep lStable hW.size hW.block⟩
          have HM := hidp hM
          have HB2 := hidp hb2
          have l3 := lt_of_heap E32.out
          have c3 := cell_of_heap (o := 0) E32.out
          simp only [List.getElem?_toArray, List.getElem?_cons_zero] at c3
          clear hM r0 r1 r2 r3 r4 hzr hr2 hrd hb2
          rw [hre] at c8 HM
          go_wp2_with fail
          refine wp_region_S wr.heap.size 14 (fun _ => false) (Nat.le_refl _) (by kernel_rfl) (by kernel_rfl) (by kernel_rfl) ?_
          dsimp only [List.take, List.drop]
          apply relS_det (mask := [])
          · rfl
          · kernel_rfl
          · kernel_rfl
          · dsimp only [oblS]
            rintro w9 h9
            go_simp
            exact ⟨Below.refl _ _, rfl⟩
          dsimp only [List.nil_append, List.cons_append]
          apply relS_det (mask := [true])
          · rfl
          · kernel_rfl
          · kernel_rfl
          · dsimp only [oblS]
            rintro w9 h9
            obtain ⟨m0, m1, m2, m3, m4, m5, m6, m7, m8, m9, m10⟩ := HM.out w9 h9
            go_simp
            exact ⟨Below.refl _ _, rfl⟩
          dsimp only [List.nil_append, List.cons_append]
          apply relS_det (mask := [false, false])
          · rfl
          · kernel_rfl
          · kernel_rfl
          · dsimp only [oblS]
            rintro w9 h9
            go_simp
            exact ⟨Below.refl _ _, rfl⟩
          dsimp only [List.nil_append, List.cons_append]
          apply relS_det (mask := [false, false, false])
          · rfl
          · kernel_rfl
          · kernel_rfl
          · dsimp only [oblS]
            rintro w9 h9
            go_simp
            exact ⟨Below.refl _ _, rfl⟩
          dsimp only [List.nil_append, List.cons_append]
          apply relS_det (mask := [false, false, true, true]) (x := .pointer (some ⟨b, off + k * 10, none⟩))
          · rfl
          · kernel_rfl
          · kernel_rfl
          · dsimp only [oblS]
            rintro w9 h9
            obtain ⟨m0, m1, m2, m3, m4, m5, m6, m7, m8, m9, m10⟩ := HM.out w9 h9
            go_simp
            exact ⟨Below.refl _ _, rfl⟩
          dsimp only [List.nil_append, List.cons_append]
          apply relS_det (mask := [false, false, false, false, true])
          · rfl
          · kernel_rfl
          · kernel_rfl
          · dsimp only [oblS]
            rintro w9 h9
            go_simp
            exact ⟨Below.refl _ _, rfl⟩
          dsimp only [List.nil_append, List.cons_append]
          apply relS_det (mask := [false, false, false, false, false, true])
          · rfl
          · kernel_rfl
          · kernel_rfl
          · dsimp only [oblS]
            rintro w9 h9
            obtain ⟨m0, m1, m2, m3, m4, m5, m6, m7, m8, m9, m10⟩ := HM.out w9 h9
            go_simp
            exact ⟨Below.refl _ _, rfl⟩
          dsimp only [List.nil_append, List.cons_append]
          apply relS_det (mask := [false, false, false, false, false, false, false])
          · rfl
          · kernel_rfl
          · kernel_rfl
          · dsimp only [oblS]
            rintro w9 h9
            go_simp
            exact ⟨Below.refl _ _, rfl⟩
          dsimp only [List.nil_append, List.cons_append]
          apply relS_det (mask := [false, false, false, false, false, false, true, true]) (x := .pointer (some ⟨br, offr + q * 5, none⟩))
          · rfl
          · kernel_rfl
          · kernel_rfl
          · dsimp only [oblS]
            rintro w9 h9
            obtain ⟨m0, m1, m2, m3, m4, m5, m6, m7, m8, m9, m10⟩ := HM.out w9 h9
            go_simp
            exact ⟨Below.refl _ _, rfl⟩
          dsimp only [List.nil_append, List.cons_append]
          apply relS_det (mask := [false, false, false, false, false, false, false, false, true])
          · rfl
          · kernel_rfl
          · kernel_rfl
          · dsimp only [oblS]
            rintro w9 h9
            obtain ⟨m0, m1, m2, m3, m4, m5, m6, m7, m8, m9, m10⟩ := HM.out w9 h9
            go_simp
            exact ⟨Below.refl _ _, rfl⟩
          dsimp only [List.nil_append, List.cons_append]
          apply relS_det (mask := [false, false, false, false, false, false, false, false, false, false])
          · rfl
          · kernel_rfl
          · kernel_rfl
          · dsimp only [oblS]
            rintro w9 h9
            go_simp
            exact ⟨Below.refl _ _, rfl⟩
          dsimp only [List.nil_append, List.cons_append]
          apply relS_det (mask := [false, false, false, false, false, false, false, false, false, true, true]) (x := .agg #[.int .i64 r.1.kind, .int .i64 r.1.subj, .int .i64 r.1.obj, .int .i64 r.2.1, .int .i64 r.2.2, .int .i64 k])
          · rfl
          · kernel_rfl
          · kernel_rfl
          · dsimp only [oblS]
            rintro w9 h9
            obtain ⟨m0, m1, m2, m3, m4, m5, m6, m7, m8, m9, m10⟩ := HM.out w9 h9
            go_simp
            exact ⟨Below.refl _ _, rfl⟩
          dsimp only [List.nil_append, List.cons_append]
          apply relS_any (mask := [false, true, false, false, false, false, false, false, false, false, false, true]) (T := LT (insL (r, (k : Int)) (ordL (allTo (l.map (·.2)) k ++ linksOf k (x.2.take q))))) (hT := LT_stable _)
          · rfl
          · kernel_rfl
          · kernel_rfl
          · dsimp only [oblS]
            rintro w9 h9 T' hT'
            obtain ⟨m0, m1, m2, m3, m4, m5, m6, m7, m8, m9, m10⟩ := HM.out w9 h9
            go_simp
            refine (qwith_any A' m c' _ (r, (k : Int)) w9 m10 hml).mono ?_
            rintro e w3 ⟨A5, n5, c5, rfl, h1, h2⟩
            exact ⟨_, rfl, h2, hT' _ _ ⟨A5, n5, c5, rfl, h1⟩⟩
          dsimp only [List.nil_append, List.cons_append]
          apply relS_det (mask := [false, false, false, false, false, false, false, false, false, false, false, false, false])
          · rfl
          · kernel_rfl
          · kernel_rfl
          · dsimp only [oblS]
            rintro w9 h9
            go_simp
            exact ⟨Below.refl _ _, rfl⟩
          dsimp only [List.nil_append, List.cons_append]
          refine relS_end (by rfl) ?_
          dsimp only [finS]
          -- rintro v35 w8 ⟨hb, t35⟩
          rintro v35 w8 ⟨hb8, A5, n5, c5, rfl, r5⟩
          go_frame
          obtain ⟨m0, m1, -, -, -, -, -, -, -, -, -⟩ := HM.out w8 hb8
          have e8 := (hb8.block _ (lt_of_heap E32.out)).trans E32.out
          have s3 := frozen_of_heap (o := 0) e8
          have R5 := hidp r5
          have hb9 := HB2.out.trans (hb8.mono HB2.out.size)
          have E28 := hidp ((hb8.block _ (lt_of_heap E22.out)).trans E22.out)
          have E8 := hidp e8
          clear r5 HM e8 hb8
          go_wp2_with fail
          go_roundw
          case rel =>
            refine ⟨q + 1, n5, c5, A5, by omega, by go_num, heap_set_ne E28.out (by omega) _ _, heap_set1 E8.out _, ?_, belowSet hb9 (Nat.le_succ _) _⟩
            rw [HSq.out, ← List.append_assoc, ordL_snoc]
            have := R5.out.set (v := .slice A5 n5 c5) E8.out
            simpa [World.setCell] using this
          case measure => simp [intOf]; omega
        · obtain rfl : q = x.1.rn := by omega
          have HA : Hid (x.2.take x.1.rn = x.2) := List.take_of_length_le (by omega)
          have hr3 : lSl wr wr.heap.size A' m c' (ordL (allTo (l.map (·.2)) (k + 1))) := by
            rw [HS.out]
            rw [HA.out] at hr2
            exact hr2
          have HR3 := hidp hr3
          clear hr2 hrd hr3
          go_wp2_with fail
          go_roundw
          case rel => exact ⟨k + 1, m, c', A', by omega, by go_num, E22.out, E32.out, HR3.out, hb2⟩
          case measure => simp [intOf]; omega
    · obtain rfl : k = n := by omega
      have HB : Hid (allTo (l.map (·.2)) k = allTo (l.map (·.2)) (l.map (·.2)).length) := by show _ = _; rw [List.length_map, HN.out]
      have l2 := lt_of_heap E2.out
      have l3 := lt_of_heap E3.out
      have c2 := cell_of_heap (o := 0) E2.out
      have c3 := cell_of_heap (o := 0) E3.out
      have s2 := frozen_of_heap (o := 0) E2.out
      simp only [List.getElem?_toArray, List.getElem?_cons_zero] at c2 c3
      have d3 : (wr.setCell ⟨w.heap.size, 0, none⟩ (.slice A' m c')).cell? ⟨w.heap.size, 0, none⟩ = some (.slice A' m c') := by rw [cell_of_heap (heap_set1 E2.out _)]; rfl
      have HR := hidp hr
      clear hr
      go_wp2_with fail
      refine bodyPost_ret (v := .agg #[.slice A' m c']) ?_ rfl ?_
      · simp [results, Try.f14, go_sem, d3]
      · refine ⟨A', m, c', rfl, ?_, belowSet hbe (Nat.le_refl _) _⟩
        rw [buildL, ← HB.out]
        have := HR.out.set (v := .slice A' m c') E2.out
        simpa [World.setCell] using this
end Go.Proofs.Ytologegkbcedhaa
