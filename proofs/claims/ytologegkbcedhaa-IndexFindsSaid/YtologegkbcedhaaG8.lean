/- Decisions in memory; index.links called; index.Build walked. -/
import Derived.Test.YtologegkbcedhaaG7
import Derived.Test.YtologegkbcedhaaH0
namespace Go.Proofs.Ytologegkbcedhaa
open Go.RowKit Go.Shelf

set_option maxHeartbeats 400000 in
theorem links_any (at' : Int) (x : DeV) (w : World) :
    Calls Try.prog 29 #[.int .i64 at', .agg #[.int .i64 x.q0, .int .i64 x.q1, .int .i64 x.q2, .int .i64 x.q3, .int .i64 x.an, .int .i64 x.la, .int .i64 x.kn, .slice x.wA x.wn x.wc, .slice x.rA x.rn x.rc, .slice x.mA x.mn x.mc]] w
      fun e w' => e = .returned (.func (.func 48) #[] #[.pointer (some ⟨w.heap.size + 1, 0, none⟩), .pointer (some ⟨w.heap.size, 0, none⟩)]) ∧ (w.alloc (.cells #[.int .i64 at'] 3)).alloc (.cells x.enc.toArray 35) = w' := by
  go_enter Try.func29, Try.ntmps29
  go_wp2
  go_ret
  exact ⟨rfl, rfl⟩

set_option maxRecDepth 100000 in
set_option maxHeartbeats 2000000 in
theorem xBuild_any (A : Option Addr) (n c : Nat) (l : List De) (w : World) (hl : deSl w w.heap.size A n c l) (hn : n ≤ 1000000) (hT : (allTo (l.map (·.2)) n).length ≤ 1000000) :
    Calls Try.prog 13 #[.slice A n c] w (IxPost (buildL (l.map (·.2))) w) := by
  have HN := hidp hl.1
  have hcap := hl.2.2.1
  have hlen := hl.2.1
  obtain ⟨W0, hW0⟩ : ∃ W0, w.alloc (.cells #[.slice none 0 0] 28) = W0 := ⟨_, rfl⟩
  have hBW : Below w.heap.size w W0 := by rw [← hW0]; exact (Below.refl _ w).alloc (Nat.le_refl _) _
  have hz0 : W0.heap.size = w.heap.size + 1 := by rw [← hW0]; simp
  have g1 : W0.heap[w.heap.size]? = some (.cells #[.slice none 0 0] 28 (0, 0)) := by rw [← hW0]; exact World.alloc_heap_new _ _
  have HW0 := hidp hW0
  have G1 := hidp g1
  have HBW := hidp hBW
  have HT := hidp hT
  clear hW0 g1 hBW hT
  go_enter Try.func13, Try.ntmps13
  go_wp2_with fail
  rw [HW0.out]
  go_loopw [3, 8] (fun v i wr => ∃ (k : Nat) (m : Nat), k ≤ n ∧ i = .int .i64 k ∧ m = (allTo (l.map (·.2)) k).length ∧ wr.ownsRow W0.heap.size 49 6 v m ((allTo (l.map (·.2)) k).flatMap lEnc) ∧ Below W0.heap.size W0 wr) (fun _ i _ => n - (intOf i).toNat)
  case atStart => exact ⟨0, 0, by omega, rfl, rfl, World.ownsRow_nil _ _ _ _, Below.refl _ _⟩
  case round =>
    obtain ⟨k, m, hk, rfl, hm, hown, hbe⟩ := hrel
    have hbw : Below w.heap.size w wr := HBW.out.trans (hbe.mono (by omega))
    have HO := hidp hown
    have HM := hidp hm
    clear hown hm
    by_cases hlt : k < n
    · obtain ⟨b, off, x, rfl, hb, hzx, hrd, c0, c1, c2, c3, c4, c5, c6, c7, c8, c9⟩ := deSl.get (hl.below deStable hbw) hlt
      have HX := hidp hzx
      have HRd := hidp hrd
      have hwb := lt_of_cell c0
      clear hzx hrd
      obtain ⟨A5, c5', rfl, _⟩ := own_rows lEnc_len (by decide) HO.out
      have HS : Hid (allTo (l.map (·.2)) (k + 1) = allTo (l.map (·.2)) k ++ linksOf k x.2) := allTo_step (de_reads HX.out)
      have hTk : (allTo (l.map (·.2)) k).length + x.2.length ≤ 1000000 := by
        have h1 := HT.out
        have h2 := allTo_mono (l.map (·.2)) (show k + 1 ≤ n by omega)
        rw [HS.out, List.length_append] at h2
        simp only [linksOf, List.length_map] at h2
        omega
      have HTK := hidp hTk
      obtain ⟨wk, hwk⟩ : ∃ wk, wr.alloc (.cells #[.int .i64 x.1.q0, .int .i64 x.1.q1, .int .i64 x.1.q2, .int .i64 x.1.q3, .int .i64 x.1.an, .int .i64 x.1.la, .int .i64 x.1.kn, .slice x.1.wA x.1.wn x.1.wc, .slice x.1.rA x.1.rn x.1.rc, .slice x.1.mA x.1.mn x.1.mc] 35) = wk := ⟨_, rfl⟩
      have hbk : Below wr.heap.size wr wk := hwk ▸ (Below.refl _ wr).alloc (Nat.le_refl _) _
      have hkb : wk.heap[wr.heap.size]? = some (.cells #[.int .i64 x.1.q0, .int .i64 x.1.q1, .int .i64 x.1.q2, .int .i64 x.1.q3, .int .i64 x.1.an, .int .i64 x.1.la, .int .i64 x.1.kn, .slice x.1.wA x.1.wn x.1.wc, .slice x.1.rA x.1.rn x.1.rc, .slice x.1.mA x.1.mn x.1.mc] 35 (0, 0)) := hwk ▸ World.alloc_heap_new _ _
      have hwz : wr.heap.size < wk.heap.size := lt_of_heap hkb
      have x0 := cell_of_heap (o := 0) hkb
      have x1 := cell_of_heap (o := 1) hkb
      have x2 := cell_of_heap (o := 2) hkb
      have x3 := cell_of_heap (o := 3) hkb
      have x4 := cell_of_heap (o := 4) hkb
      have x5 := cell_of_heap (o := 5) hkb
      have x6 := cell_of_heap (o := 6) hkb
      have x7 := cell_of_heap (o := 7) hkb
      have x8 := cell_of_heap (o := 8) hkb
      have x9 := cell_of_heap (o := 9) hkb
      simp only [List.getElem?_toArray, List.getElem?_cons_zero, List.getElem?_cons_succ] at x0 x1 x2 x3 x4 x5 x6 x7 x8 x9
      have HOk := hidp (own_stable _ _ _ _ _ _ _ _ hbk HO.out)
      have HBK := hidp hbk
      have HWK := hidp hwk
      have HBe := hidp hbe
      have hkn : (k : Int) < n := by omega
      clear hwk hkb hbk hTk
      go_wp2_with fail
      rw [HWK.out]
      go_wp2_with fail
      refine (links_any k x.1 wk).mono ?_
      rintro e w1 ⟨rfl, hw1⟩
      have hm1 : w1.heap[wk.heap.size]? = some (.cells #[.int .i64 (k : Int)] 3 (0, 0)) := by rw [← hw1]; exact (Below.heap_alloc _ _ _ (by simp)).trans (World.alloc_heap_new _ _)
      have hm2 : w1.heap[wk.heap.size + 1]? = some (.cells x.1.enc.toArray 35 (0, 0)) := by rw [← hw1]; have := World.alloc_heap_new (wk.alloc (.cells #[.int .i64 (k : Int)] 3)) (.cells x.1.enc.toArray 35); rwa [World.size_alloc] at this
      have hb1 : Below wk.heap.size wk w1 := by rw [← hw1]; exact ((Below.refl _ wk).alloc (Nat.le_refl _) _).alloc (by simp) _
      have hbws := hbw.size
      have hrd1 : RdSl w1 w.heap.size x.1.rA x.1.rn x.1.rc x.2 := HRd.out.keep rdStable (Nat.le_refl _) fun b hb => (hb1.block b (by omega)).trans (HBK.out.block b (by omega))
      have hseq := (links1_seq (wk.heap.size + 1) wk.heap.size w.heap.size x.1.rA x.1.rn x.1.rc x.2 k w1 (by rw [cell_of_heap hm2]; rfl) (by rw [cell_of_heap hm1]; rfl) hrd1).toG
      have HSq := hidp hseq
      have HO1 := hidp (own_stable _ _ _ _ _ _ _ _ hb1 HOk.out)
      have hw1z := lt_of_heap hm2
      have HB1 := hidp hb1
      clear hw1 hm1 hm2 hseq x0 x1 x2 x3 x4 x5 x6 x7 x8 x9 hb1 hrd1
      go_wp2_with fail
      refine (appSeqL_any 48 _ (enters_of Try.func48 (by kernel_rfl) rfl) _ _ W0.heap.size m A5 c5' _ w1 HSq.out (fun q hq => ?_) (fun xs hx => ?_) HO1.out (by have := HB1.out.size; have := HBe.out.size; omega)).mono ?_
      · have hlo := HO1.out.lt
        rcases hq with h | h | h
        · exact ⟨by omega, fun e => by have := (hlo q e).1; omega⟩
        · exact ⟨by omega, fun e => by have := (HOk.out.lt q e).2; omega⟩
        · exact ⟨by omega, fun e => by have := (HOk.out.lt q e).2; omega⟩
      · subst hx
        rw [linksOf, List.length_map]
        exact HTK.out
      · rintro e w2 ⟨v2, xs, rfl, rfl, ho2, hk2, -⟩
        obtain ⟨m2, hme⟩ : ∃ m2, (allTo (l.map (·.2)) k ++ linksOf k x.2).length = m2 := ⟨_, rfl⟩
        rw [hme] at ho2
        have HME := hidp hme
        obtain ⟨A6, c6, rfl, _⟩ := own_rows lEnc_len (by decide) ho2
        have hlo := fun g hg => (HO1.out.lt g hg).1
        have hB2 : Below W0.heap.size W0 w2 := (HBe.out.trans ((HBK.out.trans (HB1.out.mono HBK.out.size)).mono HBe.out.size)).trans (hk2.toBelow (by have := HB1.out.size; have := HBe.out.size; omega) (fun b hb h => by have := hlo b h; omega))
        have HO2 := hidp ho2
        have HB2 := hidp hB2
        clear ho2 hk2 hB2 hlo hme
        go_wp2_with fail
        go_roundw
        case rel => exact ⟨k + 1, m2, by omega, by go_num, by rw [HS.out]; exact HME.out.symm, by rw [HS.out]; exact HO2.out, HB2.out⟩
        case measure => simp [intOf]; omega
    · obtain rfl : k = n := by omega
      have HB : Hid (allTo (l.map (·.2)) k = allTo (l.map (·.2)) (l.map (·.2)).length) := by show _ = _; rw [List.length_map, HN.out]
      obtain ⟨A5, c5', rfl, _⟩ := own_rows lEnc_len (by decide) HO.out
      have hmk : m ≤ 1000000 := by rw [HM.out]; exact HT.out
      have HBe := hidp hbe
      clear hbe
      go_wp2_with fail
      refine (xordered_any W0.heap.size m _ _ wr HO.out HBe.out.size (by omega)).mono ?_
      rintro e w2 ⟨v', k', rfl, ho2, hb2⟩
      obtain ⟨A6, c6, rfl, r6⟩ := own_rows lEnc_len (by decide) ho2
      have hB2 := HBe.out.trans hb2
      have e2 := (hB2.block _ (by omega)).trans G1.out
      have s2 := frozen_of_heap (o := 0) e2
      have l2 := lt_of_heap e2
      have c2 := cell_of_heap (o := 0) e2
      simp only [List.getElem?_toArray, List.getElem?_cons_zero] at c2
      have HE2 := hidp e2
      have HR6 := hidp r6
      have HB2 := hidp (HBW.out.trans (hB2.mono (by omega)))
      have d2 : (w2.setCell ⟨w.heap.size, 0, none⟩ (.slice A6 k' c6)).cell? ⟨w.heap.size, 0, none⟩ = some (.slice A6 k' c6) := by rw [cell_of_heap (heap_set1 e2 _)]; rfl
      clear ho2 hb2 hB2 e2 r6
      go_wp2_with fail
      refine bodyPost_ret (v := .agg #[.slice A6 k' c6]) ?_ rfl ?_
      · simp [results, Try.f13, go_sem, d2]
      · refine ⟨A6, k', c6, rfl, ?_, belowSet HB2.out (Nat.le_refl _) _⟩
        have := lSl.set (v := .slice A6 k' c6) HR6.out HE2.out
        have e9 : (w2.setCell ⟨w.heap.size, 0, none⟩ (.slice A6 k' c6)).heap.size = w2.heap.size := by simp [World.setCell]
        rw [e9, buildL, ← HB.out]
        exact this
end Go.Proofs.Ytologegkbcedhaa
