/- index.Replace walked (printed by tools/gen54.py). -/
import Derived.Test.YtologegkbcedhaaG8
namespace Go.Proofs.Ytologegkbcedhaa
open Go.RowKit Go.Shelf

set_option maxRecDepth 100000 in
set_option maxHeartbeats 400000 in
theorem xReplace1_any (bk : Nat) (at' : Int) (x : Lk) (W : World) (hk : W.heap[bk]? = some (.cells #[.int .i64 at'] 3 (0, 0))) :
    Calls Try.prog 36 #[.agg #[.int .i64 x.1.1.kind, .int .i64 x.1.1.subj, .int .i64 x.1.1.obj, .int .i64 x.1.2.1, .int .i64 x.1.2.2, .int .i64 x.2], .pointer (some ⟨bk, 0, none⟩)] W fun e w' => e = .returned (.bool (x.2 == at')) ∧ Below W.heap.size W w' := by
  have c1 := cell_of_heap (o := 0) hk
  have h1 := lt_of_heap hk
  simp only [List.getElem?_toArray, List.getElem?_cons_zero] at c1
  go_enter Try.func36, Try.ntmps36
  go_wp2_with fail
  go_ret
  exact ⟨rfl, (Below.refl _ _).alloc (Nat.le_refl _) _⟩
set_option maxRecDepth 100000 in
set_option maxHeartbeats 1000000 in
theorem lIndex_nil (fv : Value) (w : World) : Calls Try.prog 55 #[.slice none 0 0, fv] w fun e w' => e = .returned (.int .i64 (-1)) ∧ Below w.heap.size w w' := by
  go_enter Try.func55, Try.ntmps55
  go_wp2_with fail
  go_loopw [5, 8] (fun _ i wr => i = .int .i64 0 ∧ Below w.heap.size w wr) (fun _ _ _ => 0)
  case atStart => exact ⟨rfl, Below.refl _ _⟩
  case round =>
    obtain ⟨rfl, hbe⟩ := hrel
    go_wp2_with fail
    go_ret
    exact ⟨rfl, hbe⟩
set_option maxRecDepth 100000 in
set_option maxHeartbeats 1000000 in
theorem lDelete_nil (fv : Value) (w : World) : Calls Try.prog 34 #[.slice none 0 0, fv] w fun e w' => e = .returned (.slice none 0 0) ∧ Below w.heap.size w w' := by
  go_enter Try.func34, Try.ntmps34
  go_wp2_with fail
  refine (lIndex_nil fv w).mono ?_
  rintro e w1 ⟨rfl, hb1⟩
  go_wp2_with fail
  go_ret
  exact ⟨rfl, hb1⟩
theorem filter_keep (X : List Lk) (at' : Int) : (X.filter fun m => !(m.2 == at')) = X.filter (fun k => decide (k.2 ≠ at')) := by
  congr 1
  funext k
  by_cases h : k.2 = at' <;> simp [h]
/-- What is left of the links, on a slice of the call's own. -/
theorem lRest_any (base n : Nat) (bk : Nat) (at' : Int) (v : Value) (X : List Lk) (w : World) (hown : w.ownsRow base 49 6 v n (X.flatMap lEnc)) (hbase : base ≤ w.heap.size) (hbk : bk < base) (hk : w.heap[bk]? = some (.cells #[.int .i64 at'] 3 (0, 0))) :
    Calls Try.prog 34 #[v, .func (.func 36) #[] #[.pointer (some ⟨bk, 0, none⟩)]] w fun e w' => ∃ A k c, e = .returned (.slice A k c) ∧ w'.ownsRow base 49 6 (.slice A k c) k ((X.filter (fun k => decide (k.2 ≠ at'))).flatMap lEnc) ∧ Below base w w' := by
  have hlen := own_len lEnc_len (by decide) hown
  rcases hown.2 with ⟨rfl, rfl⟩ | ⟨G, cap, _, rfl, _⟩
  · have hl : X = [] := List.eq_nil_of_length_eq_zero hlen.symm
    subst hl
    exact (lDelete_nil _ _).mono fun e w' ⟨he, hb⟩ => ⟨none, 0, 0, he, World.ownsRow_nil _ _ _ _, hb.mono hbase⟩
  · refine (lDelete_any 36 #[] #[.pointer (some ⟨bk, 0, none⟩)] (fun m => m.2 == at') base n cap G X w hown hbase (enters_of Try.func36 (by kernel_rfl) rfl) (fun m W hW => xReplace1_any bk at' m W ((hW.block _ hbk).trans hk))).mono ?_
    rintro e w' ⟨k, rfl, h1, h2⟩
    rw [filter_keep] at h1
    exact ⟨_, k, cap, rfl, h1, h2⟩

set_option maxRecDepth 100000 in
set_option maxHeartbeats 4000000 in
theorem xReplace_any (A : Option Addr) (n c : Nat) (X : List Lk) (at' : Int) (d : DeV) (rs : List Rd) (w : World) (hl : lSl w w.heap.size A n c X) (hrs : RdSl w w.heap.size d.rA d.rn d.rc rs) (hn : n ≤ 400000) (hn2 : d.rn ≤ 400000) :
    Calls Try.prog 18 #[.agg #[.slice A n c], .int .i64 at', .agg #[.int .i64 d.q0, .int .i64 d.q1, .int .i64 d.q2, .int .i64 d.q3, .int .i64 d.an, .int .i64 d.la, .int .i64 d.kn, .slice d.wA d.wn d.wc, .slice d.rA d.rn d.rc, .slice d.mA d.mn d.mc]] w (IxPost (replL X at' rs) w) := by
  have HN := hidp hl.1
  have hcap := hl.2.2.1
  have hlen := hl.2.1
  obtain ⟨W0, hW0⟩ : ∃ W0, (((w.alloc (.cells #[.slice A n c] 28)).alloc (.cells #[.int .i64 at'] 3)).alloc (.cells #[.int .i64 d.q0, .int .i64 d.q1, .int .i64 d.q2, .int .i64 d.q3, .int .i64 d.an, .int .i64 d.la, .int .i64 d.kn, .slice d.wA d.wn d.wc, .slice d.rA d.rn d.rc, .slice d.mA d.mn d.mc] 35)).alloc (.cells #[.slice none 0 0] 28) = W0 := ⟨_, rfl⟩
  have hBW : Below w.heap.size w W0 := by rw [← hW0]; exact ((((Below.refl _ w).alloc (Nat.le_refl _) _).alloc (by simp) _).alloc (by simp only [World.size_alloc]; omega) _).alloc (by simp only [World.size_alloc]; omega) _
  have hz0 : W0.heap.size = w.heap.size + 1 + 1 + 1 + 1 := by rw [← hW0]; simp only [World.size_alloc]
  have g0 : W0.heap[w.heap.size]? = some (.cells #[.slice A n c] 28 (0, 0)) := by
    rw [← hW0]
    have a1 := World.alloc_heap_new w (.cells #[.slice A n c] 28)
    exact (Below.heap_alloc _ _ _ (by simp only [World.size_alloc]; omega)).trans ((Below.heap_alloc _ _ _ (by simp only [World.size_alloc]; omega)).trans ((Below.heap_alloc _ _ _ (by simp)).trans a1))
  have g1 : W0.heap[w.heap.size + 1]? = some (.cells #[.int .i64 at'] 3 (0, 0)) := by
    rw [← hW0]
    have a2 := World.alloc_heap_new (w.alloc (.cells #[.slice A n c] 28)) (.cells #[.int .i64 at'] 3)
    simp only [World.size_alloc] at a2
    exact (Below.heap_alloc _ _ _ (by simp only [World.size_alloc]; omega)).trans ((Below.heap_alloc _ _ _ (by simp)).trans a2)
  have g2 : W0.heap[w.heap.size + 1 + 1]? = some (.cells #[.int .i64 d.q0, .int .i64 d.q1, .int .i64 d.q2, .int .i64 d.q3, .int .i64 d.an, .int .i64 d.la, .int .i64 d.kn, .slice d.wA d.wn d.wc, .slice d.rA d.rn d.rc, .slice d.mA d.mn d.mc] 35 (0, 0)) := by
    rw [← hW0]
    have a3 := World.alloc_heap_new ((w.alloc (.cells #[.slice A n c] 28)).alloc (.cells #[.int .i64 at'] 3)) (.cells #[.int .i64 d.q0, .int .i64 d.q1, .int .i64 d.q2, .int .i64 d.q3, .int .i64 d.an, .int .i64 d.la, .int .i64 d.kn, .slice d.wA d.wn d.wc, .slice d.rA d.rn d.rc, .slice d.mA d.mn d.mc] 35)
    simp only [World.size_alloc] at a3
    exact (Below.heap_alloc _ _ _ (by simp)).trans a3
  have g3 : W0.heap[w.heap.size + 1 + 1 + 1]? = some (.cells #[.slice none 0 0] 28 (0, 0)) := by
    rw [← hW0]
    have a4 := World.alloc_heap_new (((w.alloc (.cells #[.slice A n c] 28)).alloc (.cells #[.int .i64 at'] 3)).alloc (.cells #[.int .i64 d.q0, .int .i64 d.q1, .int .i64 d.q2, .int .i64 d.q3, .int .i64 d.an, .int .i64 d.la, .int .i64 d.kn, .slice d.wA d.wn d.wc, .slice d.rA d.rn d.rc, .slice d.mA d.mn d.mc] 35)) (.cells #[.slice none 0 0] 28)
    simp only [World.size_alloc] at a4
    exact a4
  have HW0 := hidp hW0
  have HG1 := hidp g1
  have HG2 := hidp g2
  have HG3 := hidp g3
  have HBW := hidp hBW
  have c0 := cell_of_heap (o := 0) g0
  simp only [List.getElem?_toArray, List.getElem?_cons_zero] at c0
  have l0 := lt_of_heap g0
  have hl0 := hl.keep lStable hBW.size hBW.block
  have HRs := hidp hrs
  have hXn : X.length = n := HN.out.symm
  have hrn : rs.length = d.rn := hrs.1.symm
  clear hW0 g0 g1 g2 g3 hBW hrs
  go_enter Try.func18, Try.ntmps18
  go_wp2_with fail
  rw [HW0.out]
  go_wp2_with fail
  refine (lClone_any A n c X W0 hl0 (by omega)).mono ?_
  rintro e w1 ⟨v, rfl, ho1, -, -, hb1⟩
  obtain ⟨A1, c1', rfl, _⟩ := own_rows lEnc_len (by decide) ho1
  have HO1 := hidp ho1
  have HB1 := hidp hb1
  have HK1 := hidp ((hb1.block _ (by omega)).trans HG1.out)
  clear ho1 hb1 hl0 c0 l0
  go_wp2_with fail
  refine (lRest_any W0.heap.size n (w.heap.size + 1) at' _ X w1 HO1.out HB1.out.size (by omega) HK1.out).mono ?_
  rintro e w2 ⟨A2, k2, c2', rfl, ho2, hb2⟩
  have hB2 := HB1.out.trans hb2
  have e1 := (hB2.block _ (by omega)).trans HG1.out
  have e2 := (hB2.block _ (by omega)).trans HG2.out
  have a0 := cell_of_heap (o := 0) e1
  have x0 := cell_of_heap (o := 0) e2
  have x1 := cell_of_heap (o := 1) e2
  have x2 := cell_of_heap (o := 2) e2
  have x3 := cell_of_heap (o := 3) e2
  have x4 := cell_of_heap (o := 4) e2
  have x5 := cell_of_heap (o := 5) e2
  have x6 := cell_of_heap (o := 6) e2
  have x7 := cell_of_heap (o := 7) e2
  have x8 := cell_of_heap (o := 8) e2
  have x9 := cell_of_heap (o := 9) e2
  simp only [List.getElem?_toArray, List.getElem?_cons_zero, List.getElem?_cons_succ] at a0 x0 x1 x2 x3 x4 x5 x6 x7 x8 x9
  have l1 := lt_of_heap e1
  have l2 := lt_of_heap e2
  have HO2 := hidp ho2
  have HB2 := hidp hB2
  have hk2 : k2 = (X.filter (fun k => decide (k.2 ≠ at'))).length := own_len lEnc_len (by decide) ho2
  have hkl : (X.filter (fun k => decide (k.2 ≠ at'))).length ≤ n := by rw [← hXn]; exact List.length_filter_le _ _
  have HK2 := hidp hk2
  have HKl := hidp hkl
  clear ho2 hb2 hB2 e1 e2 hk2 hkl
  go_wp2_with fail
  refine (links_any at' d w2).mono ?_
  rintro e w3 ⟨rfl, hw3⟩
  have hm1 : w3.heap[w2.heap.size]? = some (.cells #[.int .i64 at'] 3 (0, 0)) := by rw [← hw3]; exact (Below.heap_alloc _ _ _ (by simp)).trans (World.alloc_heap_new _ _)
  have hm2 : w3.heap[w2.heap.size + 1]? = some (.cells d.enc.toArray 35 (0, 0)) := by rw [← hw3]; have := World.alloc_heap_new (w2.alloc (.cells #[.int .i64 at'] 3)) (.cells d.enc.toArray 35); rwa [World.size_alloc] at this
  have hb3 : Below w2.heap.size w2 w3 := by rw [← hw3]; exact ((Below.refl _ w2).alloc (Nat.le_refl _) _).alloc (by simp) _
  have hz2 := HB2.out.size
  have hrd1 : RdSl w3 w.heap.size d.rA d.rn d.rc rs := HRs.out.keep rdStable (Nat.le_refl _) fun b hb => (hb3.block b (by omega)).trans ((HB2.out.block b (by omega)).trans (HBW.out.block b hb))
  have hseq := (links1_seq (w2.heap.size + 1) w2.heap.size w.heap.size d.rA d.rn d.rc rs at' w3 (by rw [cell_of_heap hm2]; rfl) (by rw [cell_of_heap hm1]; rfl) hrd1).toG
  have HSq := hidp hseq
  have HO3 := hidp (own_stable _ _ _ _ _ _ _ _ hb3 HO2.out)
  have hw3z := lt_of_heap hm2
  have HB3 := hidp hb3
  clear hw3 hm1 hm2 hseq a0 x0 x1 x2 x3 x4 x5 x6 x7 x8 x9 hb3 hrd1 l1 l2
  go_wp2_with fail
  refine (appSeqL_any 48 _ (enters_of Try.func48 (by kernel_rfl) rfl) _ _ W0.heap.size k2 A2 c2' _ w3 HSq.out (fun q hq => ?_) (fun xs hx => ?_) HO3.out (by omega)).mono ?_
  · have hlo := HO3.out.lt
    rcases hq with h | h | h
    · exact ⟨by omega, fun e => by have := (hlo q e).1; omega⟩
    · exact ⟨by omega, fun e => by have := (HO2.out.lt q e).2; omega⟩
    · exact ⟨by omega, fun e => by have := (HO2.out.lt q e).2; omega⟩
  · subst hx
    rw [linksOf, List.length_map]
    have := HKl.out
    omega
  · rintro e w4 ⟨v4, xs, rfl, rfl, ho4, hk4, -⟩
    obtain ⟨m4, hme⟩ : ∃ m4, (X.filter (fun k => decide (k.2 ≠ at')) ++ linksOf at' rs).length = m4 := ⟨_, rfl⟩
    have hm4 : m4 ≤ 1000000 := by
      rw [← hme, List.length_append, linksOf, List.length_map]
      have := HKl.out
      omega
    rw [hme] at ho4
    obtain ⟨A6, c6, rfl, _⟩ := own_rows lEnc_len (by decide) ho4
    have hlo := fun g hg => (HO3.out.lt g hg).1
    have hB4 : Below W0.heap.size W0 w4 := (HB2.out.trans (HB3.out.mono hz2)).trans (hk4.toBelow (by have := HB3.out.size; omega) (fun b hb h => by have := hlo b h; omega))
    have HO4 := hidp ho4
    have HB4 := hidp hB4
    clear ho4 hk4 hB4 hlo hme
    go_wp2_with fail
    refine (xordered_any W0.heap.size m4 _ _ w4 HO4.out HB4.out.size (by omega)).mono ?_
    rintro e w5 ⟨v', k', rfl, ho5, hb5⟩
    obtain ⟨A7, c7, rfl, r7⟩ := own_rows lEnc_len (by decide) ho5
    have hB5 := HB4.out.trans hb5
    have e3 := (hB5.block _ (by omega)).trans HG3.out
    have s2 := frozen_of_heap (o := 0) e3
    have l2 := lt_of_heap e3
    have c2 := cell_of_heap (o := 0) e3
    simp only [List.getElem?_toArray, List.getElem?_cons_zero] at c2
    have HE2 := hidp e3
    have HR6 := hidp r7
    have HB5 := hidp (HBW.out.trans (hB5.mono (by omega)))
    have d2 : (w5.setCell ⟨w.heap.size + 1 + 1 + 1, 0, none⟩ (.slice A7 k' c7)).cell? ⟨w.heap.size + 1 + 1 + 1, 0, none⟩ = some (.slice A7 k' c7) := by rw [cell_of_heap (heap_set1 e3 _)]; rfl
    clear ho5 hb5 hB5 e3 r7
    go_wp2_with fail
    refine bodyPost_ret (v := .agg #[.slice A7 k' c7]) ?_ rfl ?_
    · simp [results, Try.f18, go_sem, d2]
    · refine ⟨A7, k', c7, rfl, ?_, belowSet HB5.out (Nat.le_add_right _ 3) _⟩
      have := lSl.set (v := .slice A7 k' c7) HR6.out HE2.out
      have e9 : (w5.setCell ⟨w.heap.size + 1 + 1 + 1, 0, none⟩ (.slice A7 k' c7)).heap.size = w5.heap.size := by simp [World.setCell]
      rw [e9]
      exact this
end Go.Proofs.Ytologegkbcedhaa
