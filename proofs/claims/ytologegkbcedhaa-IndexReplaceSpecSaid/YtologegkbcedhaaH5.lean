/- The reference's Replace walked. Regions printed by tools/gen52.py. -/
import Derived.Test.YtologegkbcedhaaH4
namespace Go.Proofs.Ytologegkbcedhaa
open Go.RowKit Go.Shelf

/-- Replace's boxes. -/
structure QB (B : Nat) (A : Option Addr) (n c : Nat) (d : DeV) (W : World) : Prop where
  bx : W.heap[B]? = some (.cells #[.slice A n c] 28 (0, 0))
  bd : W.heap[B + 1]? = some (.cells #[.int .i64 d.q0, .int .i64 d.q1, .int .i64 d.q2, .int .i64 d.q3, .int .i64 d.an, .int .i64 d.la, .int .i64 d.kn, .slice d.wA d.wn d.wc, .slice d.rA d.rn d.rc, .slice d.mA d.mn d.mc] 35 (0, 0))
  br : W.heap[B + 1 + 1]? = some (.cells #[.slice none 0 0] 28 (0, 0))
theorem QB.below {B n c : Nat} {A : Option Addr} {d : DeV} {W W' : World} (h : QB B A n c d W) (hb : Below W.heap.size W W') : QB B A n c d W' :=
  ⟨(hb.block _ (lt_of_heap h.bx)).trans h.bx, (hb.block _ (lt_of_heap h.bd)).trans h.bd, (hb.block _ (lt_of_heap h.br)).trans h.br⟩
theorem QB.set {B n c : Nat} {A : Option Addr} {d : DeV} {W : World} (h : QB B A n c d W) (v : Value) : QB B A n c d (W.setCell ⟨B + 1 + 1 + 1, 0, none⟩ v) :=
  ⟨heap_set_ne h.bx (by omega) _ _, heap_set_ne h.bd (by omega) _ _, heap_set_ne h.br (by omega) _ _⟩
abbrev keepL (X : List Lk) (at' : Int) : List Lk := X.filter (fun k => decide (k.2 ≠ at'))
theorem keepL_yes {X : List Lk} {at' : Int} {k : Nat} {x : Lk} (h : X[k]? = some x) (hx : x.2 ≠ at') : keepL (X.take (k + 1)) at' = keepL (X.take k) at' ++ [x] := by
  rw [keepL, keepL, take_snoc h, List.filter_append]; simp [hx]
theorem keepL_no {X : List Lk} {at' : Int} {k : Nat} {x : Lk} (h : X[k]? = some x) (hx : x.2 = at') : keepL (X.take (k + 1)) at' = keepL (X.take k) at' := by
  rw [keepL, keepL, take_snoc h, List.filter_append]; simp [hx]
theorem keepL_len (X : List Lk) (at' : Int) (k : Nat) : (keepL (X.take k) at').length ≤ X.length :=
  Nat.le_trans (List.length_filter_le _ _) (by rw [List.length_take]; exact Nat.min_le_right _ _)

set_option maxRecDepth 100000 in
set_option maxHeartbeats 4000000 in
theorem qReplace_any (A : Option Addr) (n c : Nat) (X : List Lk) (at' : Int) (d : DeV) (rs : List Rd) (w : World) (hl : lSl w w.heap.size A n c X) (hrs : RdSl w w.heap.size d.rA d.rn d.rc rs) (hn : n ≤ 400000) (hn2 : d.rn ≤ 400000) :
    Calls Try.prog 19 #[.agg #[.slice A n c], .int .i64 at', .agg #[.int .i64 d.q0, .int .i64 d.q1, .int .i64 d.q2, .int .i64 d.q3, .int .i64 d.an, .int .i64 d.la, .int .i64 d.kn, .slice d.wA d.wn d.wc, .slice d.rA d.rn d.rc, .slice d.mA d.mn d.mc]] w (IxPost (replL X at' rs) w) := by
  have HN := hidp hl.1
  have hcap := hl.2.2.1
  have hlen := hl.2.1
  obtain ⟨W0, hW0⟩ : ∃ W0, (((w.alloc (.cells #[.slice A n c] 28)).alloc (.cells #[.int .i64 d.q0, .int .i64 d.q1, .int .i64 d.q2, .int .i64 d.q3, .int .i64 d.an, .int .i64 d.la, .int .i64 d.kn, .slice d.wA d.wn d.wc, .slice d.rA d.rn d.rc, .slice d.mA d.mn d.mc] 35)).alloc (.cells #[.slice none 0 0] 28)).alloc (.cells #[.slice none 0 0] 28) = W0 := ⟨_, rfl⟩
  have hBW : Below w.heap.size w W0 := by rw [← hW0]; exact ((((Below.refl _ w).alloc (Nat.le_refl _) _).alloc (by simp) _).alloc (by simp only [World.size_alloc]; omega) _).alloc (by simp only [World.size_alloc]; omega) _
  have hqb : QB w.heap.size A n c d W0 := by
    rw [← hW0]
    have a1 := World.alloc_heap_new w (.cells #[.slice A n c] 28)
    have a2 := World.alloc_heap_new (w.alloc (.cells #[.slice A n c] 28)) (.cells #[.int .i64 d.q0, .int .i64 d.q1, .int .i64 d.q2, .int .i64 d.q3, .int .i64 d.an, .int .i64 d.la, .int .i64 d.kn, .slice d.wA d.wn d.wc, .slice d.rA d.rn d.rc, .slice d.mA d.mn d.mc] 35)
    have a3 := World.alloc_heap_new ((w.alloc (.cells #[.slice A n c] 28)).alloc (.cells #[.int .i64 d.q0, .int .i64 d.q1, .int .i64 d.q2, .int .i64 d.q3, .int .i64 d.an, .int .i64 d.la, .int .i64 d.kn, .slice d.wA d.wn d.wc, .slice d.rA d.rn d.rc, .slice d.mA d.mn d.mc] 35)) (.cells #[.slice none 0 0] 28)
    simp only [World.size_alloc] at a2 a3
    refine ⟨?_, ?_, ?_⟩
    · exact (Below.heap_alloc _ _ _ (by simp only [World.size_alloc]; omega)).trans ((Below.heap_alloc _ _ _ (by simp only [World.size_alloc]; omega)).trans ((Below.heap_alloc _ _ _ (by simp)).trans a1))
    · exact (Below.heap_alloc _ _ _ (by simp only [World.size_alloc]; omega)).trans ((Below.heap_alloc _ _ _ (by simp)).trans a2)
    · exact (Below.heap_alloc _ _ _ (by simp)).trans a3
  have hy : W0.heap[w.heap.size + 1 + 1 + 1]? = some (.cells #[.slice none 0 0] 28 (0, 0)) := by
    rw [← hW0]
    have := World.alloc_heap_new (((w.alloc (.cells #[.slice A n c] 28)).alloc (.cells #[.int .i64 d.q0, .int .i64 d.q1, .int .i64 d.q2, .int .i64 d.q3, .int .i64 d.an, .int .i64 d.la, .int .i64 d.kn, .slice d.wA d.wn d.wc, .slice d.rA d.rn d.rc, .slice d.mA d.mn d.mc] 35)).alloc (.cells #[.slice none 0 0] 28)) (.cells #[.slice none 0 0] 28)
    simp only [World.size_alloc] at this
    exact this
  have HW0 := hidp hW0
  have HQ0 := hidp hqb
  have HY0 := hidp hy
  have HBW := hidp hBW
  clear hW0 hqb hy hBW
  go_enter Try.func19, Try.ntmps19
  go_wp2_with fail
  rw [HW0.out]
  go_wp2_with fail
  go_loopw [8] (fun i wr => ∃ (k m c' : Nat) (A' : Option Addr), k ≤ n ∧ i = .int .i64 k ∧ QB w.heap.size A n c d wr ∧ wr.heap[w.heap.size + 1 + 1 + 1]? = some (.cells #[.slice A' m c'] 28 (0, 0)) ∧ lSl wr wr.heap.size A' m c' (ordL (keepL (X.take k) at')) ∧ Below w.heap.size w wr) (fun i _ => n - (intOf i).toNat)
  case atStart => exact ⟨0, 0, 0, none, by omega, rfl, HQ0.out, HY0.out, Rows.nil (by decide), HBW.out⟩
  case round =>
    obtain ⟨k, m, c', A', hk, rfl, hq, hy, hr, hbe⟩ := hrel
    have HQ := hidp hq
    have HY := hidp hy
    have l3 := lt_of_heap hq.bx
    have l7 := lt_of_heap hy
    have cx := cell_of_heap (o := 0) hq.bx
    have cy := cell_of_heap (o := 0) hy
    simp only [List.getElem?_toArray, List.getElem?_cons_zero] at cx cy
    clear hq hy
    by_cases hlt : k < n
    · obtain ⟨b, off, x, rfl, hb, hzx, c0, c1, c2, c3, c4, c5⟩ := lSl.get (hl.below lStable hbe) hlt
      have hkn : (k : Int) < n := by omega
      have HX := hidp hzx
      have hbl := lt_of_cell c0
      obtain ⟨z, hz⟩ : ∃ z, (x.2 != at') = z := ⟨_, rfl⟩
      have HZ := hidp hz
      clear hzx
      cases z
      · have HK : Hid (keepL (X.take (k + 1)) at' = keepL (X.take k) at') := keepL_no HX.out (by have := HZ.out; simpa using this)
        go_wp2_with fail
        go_roundw
        case rel => exact ⟨k + 1, m, c', A', by omega, by go_num, HQ.out, HY.out, by rw [HK.out]; exact hr, hbe⟩
        case measure => simp [intOf]; omega
      · have HK : Hid (keepL (X.take (k + 1)) at' = keepL (X.take k) at' ++ [x]) := keepL_yes HX.out (by have := HZ.out; simpa using this)
        have hml : m ≤ 1000000 := by
          have h1 := hr.1
          have h2 := ordL_len (keepL (X.take k) at')
          have h3 := keepL_len X at' k
          have := HN.out
          omega
        have hM : ∀ W, Below wr.heap.size wr W → W.cell? ⟨w.heap.size + 1 + 1 + 1, 0, none⟩ = some (.slice A' m c') ∧ w.heap.size + 1 + 1 + 1 < W.heap.size ∧ W.cell? ⟨w.heap.size, 0, none⟩ = some (.slice (some ⟨b, off, none⟩) n c) ∧ w.heap.size < W.heap.size ∧ b < W.heap.size ∧ W.cell? ⟨b, off + k * 6, none⟩ = some (.int .i64 x.1.1.kind) ∧ W.cell? ⟨b, off + k * 6 + 1, none⟩ = some (.int .i64 x.1.1.subj) ∧ W.cell? ⟨b, off + k * 6 + 2, none⟩ = some (.int .i64 x.1.1.obj) ∧ W.cell? ⟨b, off + k * 6 + 3, none⟩ = some (.int .i64 x.1.2.1) ∧ W.cell? ⟨b, off + k * 6 + 4, none⟩ = some (.int .i64 x.1.2.2) ∧ W.cell? ⟨b, off + k * 6 + 5, none⟩ = some (.int .i64 x.2) ∧ lSl W W.heap.size A' m c' (ordL (keepL (X.take k) at')) := fun W hW => by
          have hc := (bcell hW).1
          exact ⟨by rw [hc _ _ l7]; exact cy, Nat.lt_of_lt_of_le l7 hW.size, by rw [hc _ _ l3]; exact cx, Nat.lt_of_lt_of_le l3 hW.size, Nat.lt_of_lt_of_le hbl hW.size, by rw [hc _ _ hbl]; exact c0, by rw [hc _ _ hbl]; exact c1, by rw [hc _ _ hbl]; exact c2, by rw [hc _ _ hbl]; exact c3, by rw [hc _ _ hbl]; exact c4, by rw [hc _ _ hbl]; exact c5, hr.keep lStable hW.size hW.block⟩
        have HM := hidp hM
        clear hM hr
        go_wp2_with fail
        refine wp_region_S wr.heap.size 9 (fun _ => false) (Nat.le_refl _) (by kernel_rfl) (by kernel_rfl) (by kernel_rfl) ?_
        dsimp only [List.take, List.drop]
        apply relS_det (mask := [])
        · rfl
        · kernel_rfl
        · kernel_rfl
        · dsimp only [oblS]
          rintro w9 h9
          go_simp
          exact ⟨Below.refl _ _, rfl⟩
        dsimp only [List.nil_append, List.cons_append]
        apply relS_det (mask := [true])
        · rfl
        · kernel_rfl
        · kernel_rfl
        · dsimp only [oblS]
          rintro w9 h9
          obtain ⟨m0, m1, m2, m3, m4, m5, m6, m7, m8, m9, m10, m11⟩ := HM.out w9 h9
          go_simp
          exact ⟨Below.refl _ _, rfl⟩
        dsimp only [List.nil_append, List.cons_append]
        apply relS_det (mask := [false, false])
        · rfl
        · kernel_rfl
        · kernel_rfl
        · dsimp only [oblS]
          rintro w9 h9
          go_simp
          exact ⟨Below.refl _ _, rfl⟩
        dsimp only [List.nil_append, List.cons_append]
        apply relS_det (mask := [false, false, true])
        · rfl
        · kernel_rfl
        · kernel_rfl
        · dsimp only [oblS]
          rintro w9 h9
          obtain ⟨m0, m1, m2, m3, m4, m5, m6, m7, m8, m9, m10, m11⟩ := HM.out w9 h9
          go_simp
          exact ⟨Below.refl _ _, rfl⟩
        dsimp only [List.nil_append, List.cons_append]
        apply relS_det (mask := [false, false, false, false])
        · rfl
        · kernel_rfl
        · kernel_rfl
        · dsimp only [oblS]
          rintro w9 h9
          go_simp
          exact ⟨Below.refl _ _, rfl⟩
        dsimp only [List.nil_append, List.cons_append]
        apply relS_det (mask := [false, false, false, true, true]) (x := .pointer (some ⟨b, off + k * 6, none⟩))
        · rfl
        · kernel_rfl
        · kernel_rfl
        · dsimp only [oblS]
          rintro w9 h9
          obtain ⟨m0, m1, m2, m3, m4, m5, m6, m7, m8, m9, m10, m11⟩ := HM.out w9 h9
          go_simp
          exact ⟨Below.refl _ _, rfl⟩
        dsimp only [List.nil_append, List.cons_append]
        apply relS_det (mask := [false, false, false, false, false, true]) (x := .agg #[.int .i64 x.1.1.kind, .int .i64 x.1.1.subj, .int .i64 x.1.1.obj, .int .i64 x.1.2.1, .int .i64 x.1.2.2, .int .i64 x.2])
        · rfl
        · kernel_rfl
        · kernel_rfl
        · dsimp only [oblS]
          rintro w9 h9
          obtain ⟨m0, m1, m2, m3, m4, m5, m6, m7, m8, m9, m10, m11⟩ := HM.out w9 h9
          go_simp
          exact ⟨Below.refl _ _, rfl⟩
        dsimp only [List.nil_append, List.cons_append]
        apply relS_any (mask := [false, true, false, false, false, false, true]) (T := LT (insL x (ordL (keepL (X.take k) at')))) (hT := LT_stable _)
        · rfl
        · kernel_rfl
        · kernel_rfl
        · dsimp only [oblS]
          rintro w9 h9 T' hT'
          obtain ⟨m0, m1, m2, m3, m4, m5, m6, m7, m8, m9, m10, m11⟩ := HM.out w9 h9
          go_simp
          refine (qwith_any A' m c' _ x w9 m11 hml).mono ?_
          rintro e w3 ⟨A5, n5, c5, rfl, h1, h2⟩
          exact ⟨_, rfl, h2, hT' _ _ ⟨A5, n5, c5, rfl, h1⟩⟩
        dsimp only [List.nil_append, List.cons_append]
        apply relS_det (mask := [false, false, false, false, false, false, false, false])
        · rfl
        · kernel_rfl
        · kernel_rfl
        · dsimp only [oblS]
          rintro w9 h9
          go_simp
          exact ⟨Below.refl _ _, rfl⟩
        dsimp only [List.nil_append, List.cons_append]
        refine relS_end (by rfl) ?_
        dsimp only [finS]
        -- rintro v33 w8 ⟨hb, t33⟩
        rintro v33 w8 ⟨hb8, A5, n5, c5, rfl, r5⟩
        go_frame
        obtain ⟨m0, m1, -, -, -, -, -, -, -, -, -, -⟩ := HM.out w8 hb8
        have e8 := (hb8.block _ (lt_of_heap HY.out)).trans HY.out
        have s3 := frozen_of_heap (o := 0) e8
        have R5 := hidp r5
        have hb9 := hbe.trans (hb8.mono hbe.size)
        have HQ8 := hidp (HQ.out.below hb8)
        have E8 := hidp e8
        clear r5 HM e8 hb8 cx cy l3 l7
        go_wp2_with fail
        go_roundw
        case rel =>
          refine ⟨k + 1, n5, c5, A5, by omega, by go_num, HQ8.out.set _, heap_set1 E8.out _, ?_, belowSet hb9 (Nat.le_add_right _ 3) _⟩
          rw [HK.out, ordL_snoc]
          have := R5.out.set (v := .slice A5 n5 c5) E8.out
          simpa [World.setCell] using this
        case measure => simp [intOf]; omega
    · obtain rfl : k = n := by omega
      have HA : Hid (X.take k = X) := List.take_of_length_le (by rw [HN.out]; exact Nat.le_refl _)
      have hr' := hr
      rw [HA.out] at hr'
      have hrn := hrs.1
      have hrl := hrs.2.1
      have hrc := hrs.2.2.1
      have hkl : (keepL X at').length ≤ k := by rw [HN.out]; exact List.length_filter_le _ _
      clear hr
      go_wp2_with fail
      clear cx cy l3 l7
      go_loopw [9] (fun j wr => ∃ (q m c' : Nat) (A' : Option Addr), q ≤ d.rn ∧ j = .int .i64 q ∧ QB w.heap.size A k c d wr ∧ wr.heap[w.heap.size + 1 + 1 + 1]? = some (.cells #[.slice A' m c'] 28 (0, 0)) ∧ lSl wr wr.heap.size A' m c' (ordL (keepL X at' ++ linksOf at' (rs.take q))) ∧ Below w.heap.size w wr) (fun j _ => d.rn - (intOf j).toNat)
      case atStart => exact ⟨0, m, c', A', by omega, rfl, HQ.out, HY.out, by simpa [linksOf] using hr', hbe⟩
      case round =>
        clear hr' hbe HQ HY
        obtain ⟨q, m, c', A', hq, rfl, hqb, hy, hr, hbe⟩ := hrel
        have HQ := hidp hqb
        have HY := hidp hy
        have l3 := lt_of_heap hqb.bd
        have l7 := lt_of_heap hy
        have cx := cell_of_heap (o := 8) hqb.bd
        have cy := cell_of_heap (o := 0) hy
        simp only [List.getElem?_toArray, List.getElem?_cons_zero, List.getElem?_cons_succ] at cx cy
        by_cases hqm : q < d.rn
        · obtain ⟨br, offr, r, hre, hbr, hzr, r0, r1, r2, r3, r4⟩ := RdSl.get (hrs.keep rdStable (Nat.le_refl _) hbe.block) hqm
          have hqn : (q : Int) < d.rn := by omega
          have HK : Hid (linksOf at' (rs.take (q + 1)) = linksOf at' (rs.take q) ++ [(r, at')]) := linksOf_take0 hzr
          have hbl := lt_of_cell r0
          have hml : m ≤ 1000000 := by
            have h1 := hr.1
            have h2 := ordL_len (keepL X at' ++ linksOf at' (rs.take q))
            rw [List.length_append, linksOf_len, List.length_take] at h2
            omega
          have hM : ∀ W, Below wr.heap.size wr W → W.cell? ⟨w.heap.size + 1 + 1 + 1, 0, none⟩ = some (.slice A' m c') ∧ w.heap.size + 1 + 1 + 1 < W.heap.size ∧ W.cell? ⟨w.heap.size + 1, 8, none⟩ = some (.slice d.rA d.rn d.rc) ∧ w.heap.size + 1 < W.heap.size ∧ br < W.heap.size ∧ W.cell? ⟨br, offr + q * 5, none⟩ = some (.int .i64 r.1.kind) ∧ W.cell? ⟨br, offr + q * 5 + 1, none⟩ = some (.int .i64 r.1.subj) ∧ W.cell? ⟨br, offr + q * 5 + 2, none⟩ = some (.int .i64 r.1.obj) ∧ W.cell? ⟨br, offr + q * 5 + 3, none⟩ = some (.int .i64 r.2.1) ∧ W.cell? ⟨br, offr + q * 5 + 4, none⟩ = some (.int .i64 r.2.2) ∧ lSl W W.heap.size A' m c' (ordL (keepL X at' ++ linksOf at' (rs.take q))) := fun W hW => by
            have hc := (bcell hW).1
            exact ⟨by rw [hc _ _ l7]; exact cy, Nat.lt_of_lt_of_le l7 hW.size, by rw [hc _ _ l3]; exact cx, Nat.lt_of_lt_of_le l3 hW.size, Nat.lt_of_lt_of_le hbl hW.size, by rw [hc _ _ hbl]; exact r0, by rw [hc _ _ hbl]; exact r1, by rw [hc _ _ hbl]; exact r2, by rw [hc _ _ hbl]; exact r3, by rw [hc _ _ hbl]; exact r4, hr.keep lStable hW.size hW.block⟩
          have HM := hidp hM
          clear hM hr r0 r1 r2 r3 r4 hzr hqb hy
          rw [hre] at cx HM
          go_wp2_with fail
          refine wp_region_S wr.heap.size 11 (fun _ => false) (Nat.le_refl _) (by kernel_rfl) (by kernel_rfl) (by kernel_rfl) ?_
          dsimp only [List.take, List.drop]
          apply relS_det (mask := [])
          · rfl
          · kernel_rfl
          · kernel_rfl
          · dsimp only [oblS]
            rintro w9 h9
            go_simp
            exact ⟨Below.refl _ _, rfl⟩
          dsimp only [List.nil_append, List.cons_append]
          apply relS_det (mask := [true])
          · rfl
          · kernel_rfl
          · kernel_rfl
          · dsimp only [oblS]
            rintro w9 h9
            obtain ⟨m0, m1, m2, m3, m4, m5, m6, m7, m8, m9, m10⟩ := HM.out w9 h9
            go_simp
            exact ⟨Below.refl _ _, rfl⟩
          dsimp only [List.nil_append, List.cons_append]
          apply relS_det (mask := [false, false])
          · rfl
          · kernel_rfl
          · kernel_rfl
          · dsimp only [oblS]
            rintro w9 h9
            go_simp
            exact ⟨Below.refl _ _, rfl⟩
          dsimp only [List.nil_append, List.cons_append]
          apply relS_det (mask := [false, false, true])
          · rfl
          · kernel_rfl
          · kernel_rfl
          · dsimp only [oblS]
            rintro w9 h9
            obtain ⟨m0, m1, m2, m3, m4, m5, m6, m7, m8, m9, m10⟩ := HM.out w9 h9
            go_simp
            exact ⟨Below.refl _ _, rfl⟩
          dsimp only [List.nil_append, List.cons_append]
          apply relS_det (mask := [false, false, false, false])
          · rfl
          · kernel_rfl
          · kernel_rfl
          · dsimp only [oblS]
            rintro w9 h9
            go_simp
            exact ⟨Below.refl _ _, rfl⟩
          dsimp only [List.nil_append, List.cons_append]
          apply relS_det (mask := [false, false, false, true, true]) (x := .pointer (some ⟨br, offr + q * 5, none⟩))
          · rfl
          · kernel_rfl
          · kernel_rfl
          · dsimp only [oblS]
            rintro w9 h9
            obtain ⟨m0, m1, m2, m3, m4, m5, m6, m7, m8, m9, m10⟩ := HM.out w9 h9
            go_simp
            exact ⟨Below.refl _ _, rfl⟩
          dsimp only [List.nil_append, List.cons_append]
          apply relS_det (mask := [false, false, false, false, false, true])
          · rfl
          · kernel_rfl
          · kernel_rfl
          · dsimp only [oblS]
            rintro w9 h9
            obtain ⟨m0, m1, m2, m3, m4, m5, m6, m7, m8, m9, m10⟩ := HM.out w9 h9
            go_simp
            exact ⟨Below.refl _ _, rfl⟩
          dsimp only [List.nil_append, List.cons_append]
          apply relS_det (mask := [false, false, false, false, false, false, false])
          · rfl
          · kernel_rfl
          · kernel_rfl
          · dsimp only [oblS]
            rintro w9 h9
            go_simp
            exact ⟨Below.refl _ _, rfl⟩
          dsimp only [List.nil_append, List.cons_append]
          apply relS_det (mask := [false, false, false, false, false, false, true, true]) (x := .agg #[.int .i64 r.1.kind, .int .i64 r.1.subj, .int .i64 r.1.obj, .int .i64 r.2.1, .int .i64 r.2.2, .int .i64 at'])
          · rfl
          · kernel_rfl
          · kernel_rfl
          · dsimp only [oblS]
            rintro w9 h9
            obtain ⟨m0, m1, m2, m3, m4, m5, m6, m7, m8, m9, m10⟩ := HM.out w9 h9
            go_simp
            exact ⟨Below.refl _ _, rfl⟩
          dsimp only [List.nil_append, List.cons_append]
          apply relS_any (mask := [false, true, false, false, false, false, false, false, true]) (T := LT (insL (r, at') (ordL (keepL X at' ++ linksOf at' (rs.take q))))) (hT := LT_stable _)
          · rfl
          · kernel_rfl
          · kernel_rfl
          · dsimp only [oblS]
            rintro w9 h9 T' hT'
            obtain ⟨m0, m1, m2, m3, m4, m5, m6, m7, m8, m9, m10⟩ := HM.out w9 h9
            go_simp
            refine (qwith_any A' m c' _ (r, at') w9 m10 hml).mono ?_
            rintro e w3 ⟨A5, n5, c5, rfl, h1, h2⟩
            exact ⟨_, rfl, h2, hT' _ _ ⟨A5, n5, c5, rfl, h1⟩⟩
          dsimp only [List.nil_append, List.cons_append]
          apply relS_det (mask := [false, false, false, false, false, false, false, false, false, false])
          · rfl
          · kernel_rfl
          · kernel_rfl
          · dsimp only [oblS]
            rintro w9 h9
            go_simp
            exact ⟨Below.refl _ _, rfl⟩
          dsimp only [List.nil_append, List.cons_append]
          refine relS_end (by rfl) ?_
          dsimp only [finS]
          -- rintro v51 w8 ⟨hb, t51⟩
          rintro v51 w8 ⟨hb8, A5, n5, c5, rfl, r5⟩
          go_frame
          obtain ⟨m0, m1, -, -, -, -, -, -, -, -, -⟩ := HM.out w8 hb8
          have e8 := (hb8.block _ (lt_of_heap HY.out)).trans HY.out
          have s3 := frozen_of_heap (o := 0) e8
          have R5 := hidp r5
          have hb9 := hbe.trans (hb8.mono hbe.size)
          have HQ8 := hidp (HQ.out.below hb8)
          have E8 := hidp e8
          clear r5 HM e8 hb8 cx cy l3 l7
          go_wp2_with fail
          go_roundw
          case rel =>
            refine ⟨q + 1, n5, c5, A5, by omega, by go_num, HQ8.out.set _, heap_set1 E8.out _, ?_, belowSet hb9 (Nat.le_add_right _ 3) _⟩
            rw [HK.out, ← List.append_assoc, ordL_snoc]
            have := R5.out.set (v := .slice A5 n5 c5) E8.out
            simpa [World.setCell] using this
          case measure => simp [intOf]; omega
        · obtain rfl : q = d.rn := by omega
          have HB : Hid (rs.take d.rn = rs) := List.take_of_length_le (by omega)
          rw [HB.out] at hr
          have c6 := cell_of_heap (o := 0) hqb.br
          have s6 := frozen_of_heap (o := 0) hqb.br
          have l6 := lt_of_heap hqb.br
          simp only [List.getElem?_toArray, List.getElem?_cons_zero] at c6
          have d6 : (wr.setCell ⟨w.heap.size + 1 + 1, 0, none⟩ (.slice A' m c')).cell? ⟨w.heap.size + 1 + 1, 0, none⟩ = some (.slice A' m c') := by rw [cell_of_heap (heap_set1 hqb.br _)]; rfl
          have HR := hidp hr
          clear hr hqb hy
          go_wp2_with fail
          refine bodyPost_ret (v := .agg #[.slice A' m c']) ?_ rfl ?_
          · simp [results, Try.f19, go_sem, d6]
          · refine ⟨A', m, c', rfl, ?_, belowSet hbe (Nat.le_add_right _ 2) _⟩
            rw [replL]
            have := HR.out.set (v := .slice A' m c') HQ.out.br
            have e9 : (wr.setCell ⟨w.heap.size + 1 + 1, 0, none⟩ (.slice A' m c')).heap.size = wr.heap.size := by simp [World.setCell]
            rw [e9]
            exact this
end Go.Proofs.Ytologegkbcedhaa
