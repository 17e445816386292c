/- The reference's Fits (printed by tools/gen92.py). -/
import Derived.Test.YtbmbpannhncpjaaDoorV2
import Derived.Test.YtbmbpannhncpjaaDoorU6
import Derived.Test.YtbmbpannhncpjaaDoorRelI
namespace Go.Proofs.YtbmbpannhncpjaaDoor
open Go.RowKit Go.Sort

set_option maxRecDepth 100000 in
set_option maxHeartbeats 8000000 in
theorem vFits_any (s : Si) (w : World) (hs : SiIn w w.heap.size s) : Calls Tryd.prog 31 #[.agg #[.slice s.sA s.sn s.sc, .int .i64 s.earned, .int .i64 s.num, .int .i64 s.den]] w fun e w' => e = .returned (.int .i64 (okOr (fitsB s) 120)) ∧ Below w.heap.size w w' := by
  have HN := hidp hs.1
  have hcap := hs.2.2.1
  have hlen := hs.2.1
  have HSa : Hid (∀ W, Below w.heap.size w W → SiIn W W.heap.size s) := fun W h => hs.keep h.size h.block
  clear hs
  obtain ⟨W0, hW0⟩ : ∃ W0, (w.alloc (.cells #[.slice s.sA s.sn s.sc, .int .i64 s.earned, .int .i64 s.num, .int .i64 s.den] 29)) = W0 := ⟨_, rfl⟩
  have hBW : Below w.heap.size w W0 := by rw [← hW0]; exact ((Below.refl _ w).alloc (by first | exact Nat.le_refl _ | (simp <;> omega)) _)
  have g0 : W0.heap[w.heap.size]? = some (.cells #[.slice s.sA s.sn s.sc, .int .i64 s.earned, .int .i64 s.num, .int .i64 s.den] 29 (0, 0)) := by
    rw [← hW0]
    have := World.alloc_heap_new w (.cells #[.slice s.sA s.sn s.sc, .int .i64 s.earned, .int .i64 s.num, .int .i64 s.den] 29)
    exact this
  have HW0 := hidp hW0
  have G0 := hidp g0
  have l0 := lt_of_heap g0
  have HBW := hidp hBW
  have z0 := cell_of_heap (o := 0) g0
  have z1 := cell_of_heap (o := 1) g0
  have z2 := cell_of_heap (o := 2) g0
  have z3 := cell_of_heap (o := 3) g0
  simp only [List.getElem?_toArray, List.getElem?_cons_zero, List.getElem?_cons_succ] at z0 z1 z2 z3
  clear hW0 g0
  go_enter Tryd.func31, Tryd.ntmps31
  go_wp2_with fail
  rw [HW0.out]
  go_wp2_with fail
  go_loopw [3] (fun i wr => ∃ (k : Nat) (last : Int), k ≤ s.sn ∧ i = .int .i64 k ∧ -1 ≤ last ∧ last ≤ 4095 ∧ (k = 0 → last = -1) ∧ (∀ k', k = k' + 1 → ∃ z, s.seen[k']? = some z ∧ z.course = last) ∧ fitsL (-1) s.seen = fitsL last (s.seen.drop k) ∧ Below W0.heap.size W0 wr) (fun i _ => s.sn - (intOf i).toNat)
  case atStart => exact ⟨0, -1, by omega, rfl, by omega, by omega, fun _ => rfl, fun k' h => by omega, rfl, Below.refl _ _⟩
  case round =>
    obtain ⟨k, last, hk, rfl, hl1, hl2, hk0, hkz, hno, hbe⟩ := hrel
    have HA := hidp hno
    have HK0 := hidp hk0
    have HKZ := hidp hkz
    have bw := HBW.out.trans (hbe.mono HBW.out.size)
    clear hno hk0 hkz
    clear z0 z1 z2 z3
    have e0 := (hbe.block _ l0).trans G0.out
    have z0 := cell_of_heap (o := 0) e0
    have z1 := cell_of_heap (o := 1) e0
    have z2 := cell_of_heap (o := 2) e0
    have z3 := cell_of_heap (o := 3) e0
    simp only [List.getElem?_toArray, List.getElem?_cons_zero, List.getElem?_cons_succ] at z0 z1 z2 z3
    have m0 := lt_of_heap e0
    clear e0
    by_cases hlt : k < s.sn
    · skip
      obtain ⟨b, off, y, he, hb, hzk, c0, c1, c2, c3⟩ := snSl.get (HSa.out wr bw) hlt
      have HY := hidp (fits_step (last := last) hzk)
      have HZ := hidp hzk
      have HE := hidp he
      have lb := lt_of_cell c0
      rw [he] at z0
      have hkn : (k : Int) < s.sn := by omega
      clear hzk he
      obtain ⟨B6, hB6⟩ : ∃ b, wr.heap.size = b := ⟨_, rfl⟩
      obtain ⟨W6, hW6⟩ : ∃ W6, wr.alloc (.cells #[.int .i64 y.course, .int .i64 y.tries, .int .i64 y.best, .bool y.now] 49) = W6 := ⟨_, rfl⟩
      have k1 : W6.heap[B6]? = some (.cells #[.int .i64 y.course, .int .i64 y.tries, .int .i64 y.best, .bool y.now] 49 (0, 0)) := by rw [← hW6, ← hB6]; exact World.alloc_heap_new _ _
      have hb6 : Below W0.heap.size W0 W6 := by rw [← hW6]; exact hbe.alloc hbe.size _
      have hbe6 : Below wr.heap.size wr W6 := by rw [← hW6]; exact (Below.refl _ _).alloc (Nat.le_refl _) _
      have K1 := hidp k1
      go_wp2_with fail
      try rw [hW6]
      try rw [hB6]
      clear hW6 hB6
      have bw6 := bw.trans (hbe6.mono bw.size)
      have q0 := cell_of_heap (o := 0) k1
      have q1 := cell_of_heap (o := 1) k1
      have q2 := cell_of_heap (o := 2) k1
      have q3 := cell_of_heap (o := 3) k1
      simp only [List.getElem?_toArray, List.getElem?_cons_zero, List.getElem?_cons_succ] at q0 q1 q2 q3
      have lq := lt_of_heap k1
      clear k1 c0 c1 c2 c3
      clear z0 z1 z2 z3 m0
      have e0 := (hb6.block _ l0).trans G0.out
      have z0 := cell_of_heap (o := 0) e0
      have z1 := cell_of_heap (o := 1) e0
      have z2 := cell_of_heap (o := 2) e0
      have z3 := cell_of_heap (o := 3) e0
      simp only [List.getElem?_toArray, List.getElem?_cons_zero, List.getElem?_cons_succ] at z0 z1 z2 z3
      have m0 := lt_of_heap e0
      clear e0
      rw [HE.out] at z0
      obtain ⟨qc, hqc⟩ : ∃ q, courseB y.course = q := ⟨_, rfl⟩
      have HQC := hidp hqc
      clear hqc
      obtain ⟨n3, hn3⟩ : ∃ q, decide (y.tries < 0) = q := ⟨_, rfl⟩
      obtain ⟨n4, hn4⟩ : ∃ q, decide (100 < y.tries) = q := ⟨_, rfl⟩
      obtain ⟨n5, hn5⟩ : ∃ q, decide (y.best < -1) = q := ⟨_, rfl⟩
      obtain ⟨n6, hn6⟩ : ∃ q, decide (12 < y.best) = q := ⟨_, rfl⟩
      obtain ⟨m1, hm1⟩ : ∃ q, decide (0 ≤ y.best) = q := ⟨_, rfl⟩
      obtain ⟨m2, hm2⟩ : ∃ q, decide (1 ≤ y.tries) = q := ⟨_, rfl⟩
      obtain ⟨n7, hn7⟩ : ∃ q, (m1 != m2) = q := ⟨_, rfl⟩
      have HN3 := hidp hn3
      have HN4 := hidp hn4
      have HN5 := hidp hn5
      have HN6 := hidp hn6
      have HM1 := hidp hm1
      have HM2 := hidp hm2
      have HN7 := hidp hn7
      rcases Nat.eq_zero_or_pos k with hkz0 | hkp
      · skip
        have hl0 : last = -1 := HK0.out hkz0
        subst hl0
        have hk00 : ¬ ((0 : Int) < k) := by omega
        have dk : decide ((0 : Int) < k) = false := decide_eq_false hk00
        have dk2 : decide (0 < k) = false := decide_eq_false (by omega)
        clear hkz0
        refine wp_region_S W6.heap.size 49 (fun _ => false) (Nat.le_refl _) (by kernel_rfl) (by kernel_rfl) (by kernel_rfl) ?_
        dsimp only [List.take, List.drop]
        apply relS_det (mask := [])
        · rfl
        · kernel_rfl
        · kernel_rfl
        · dsimp only [oblS]
          rintro w9 h9
          go_simp
          exact ⟨Below.refl _ _, rfl⟩
        dsimp only [List.nil_append, List.cons_append]
        apply relS_det (mask := [true])
        · rfl
        · kernel_rfl
        · kernel_rfl
        · dsimp only [oblS]
          rintro w9 h9
          have hc9 := (bcell h9).1
          go_simp
          exact ⟨Below.refl _ _, rfl⟩
        dsimp only [List.nil_append, List.cons_append]
        apply relS_det (mask := [false, true]) (x := .bool qc)
        · rfl
        · kernel_rfl
        · kernel_rfl
        · dsimp only [oblS]
          rintro w9 h9
          have hc9 := (bcell h9).1
          go_simp
          refine (vcourse_any _ w9).mono ?_
          rintro e w1 ⟨rfl, rfl⟩
          exact ⟨_, rfl, Below.refl _ _, by rw [HQC.out]; rfl⟩
        dsimp only [List.nil_append, List.cons_append]
        apply relS_det (mask := [false, false, true]) (x := .bool (!qc))
        · rfl
        · kernel_rfl
        · kernel_rfl
        · dsimp only [oblS]
          rintro w9 h9
          go_simp
          exact ⟨Below.refl _ _, rfl⟩
        dsimp only [List.nil_append, List.cons_append]
        apply relS_det (mask := [false, false, false, true]) (x := .bool (!qc))
        · rfl
        · kernel_rfl
        · kernel_rfl
        · dsimp only [oblS]
          rintro w9 h9
          go_simp
          exact ⟨Below.refl _ _, rfl⟩
        dsimp only [List.nil_append, List.cons_append]
        apply relS_if (mask := [false, false, false, false, true]) (t := 21) (want := false) (g := qc)
        · rfl
        · kernel_rfl
        · kernel_rfl
        · dsimp only [oblS]
          refine ⟨⟨.bool (!qc), by rfl, (guard_free (by simp)).1, (guard_free (by simp)).2⟩, ?_⟩
          intro hg
          rintro w9 h9
          go_simp
          exact ⟨Below.refl _ _, rfl⟩
        dsimp only [List.nil_append, List.cons_append]
        apply relS_if (mask := [false, false, false, false, true, true]) (t := 21) (want := false) (g := qc) (x := .bool false)
        · rfl
        · kernel_rfl
        · kernel_rfl
        · dsimp only [oblS]
          refine ⟨⟨.bool (!qc), by rfl, (guard_free (by simp)).1, (guard_free (by simp)).2⟩, ?_⟩
          intro hg
          rintro w9 h9
          go_simp
          exact ⟨Below.refl _ _, rfl⟩
        dsimp only [List.nil_append, List.cons_append]
        apply relS_if (mask := [false, false, false, false, true, false, true]) (t := 21) (want := false) (g := qc) (x := .bool false)
        · rfl
        · kernel_rfl
        · kernel_rfl
        · dsimp only [oblS]
          refine ⟨⟨.bool (!qc), by rfl, (guard_free (by simp)).1, (guard_free (by simp)).2⟩, ?_⟩
          intro hg
          rintro w9 h9
          go_simp
          exact ⟨Below.refl _ _, rfl⟩
        dsimp only [List.nil_append, List.cons_append]
        apply relS_if (mask := [false, false, false, false, false, false, false, true]) (t := 24) (want := true) (g := false) (x := undef)
        · rfl
        · kernel_rfl
        · kernel_rfl
        · dsimp only [oblS]
          refine ⟨⟨if qc = true then .bool false else undef, by rfl, (guard_in (by simp)).1, (guard_in (by simp)).2⟩, ?_⟩
          intro hg
          rintro w9 h9
          exact absurd hg (by simp)
        dsimp only [List.nil_append, List.cons_append]
        apply relS_if (mask := [false, false, false, false, false, false, false, true, true]) (t := 24) (want := true) (g := false) (x := undef)
        · rfl
        · kernel_rfl
        · kernel_rfl
        · dsimp only [oblS]
          refine ⟨⟨if qc = true then .bool false else undef, by rfl, (guard_in (by simp)).1, (guard_in (by simp)).2⟩, ?_⟩
          intro hg
          rintro w9 h9
          exact absurd hg (by simp)
        dsimp only [List.nil_append, List.cons_append]
        apply relS_if (mask := [false, false, false, false, false, false, false, true, false, false]) (t := 24) (want := true) (g := false) (x := undef)
        · rfl
        · kernel_rfl
        · kernel_rfl
        · dsimp only [oblS]
          refine ⟨⟨if qc = true then .bool false else undef, by rfl, (guard_in (by simp)).1, (guard_in (by simp)).2⟩, ?_⟩
          intro hg
          rintro w9 h9
          exact absurd hg (by simp)
        dsimp only [List.nil_append, List.cons_append]
        apply relS_if (mask := [false, false, false, false, false, false, false, true, false, false, true]) (t := 24) (want := true) (g := false) (x := undef)
        · rfl
        · kernel_rfl
        · kernel_rfl
        · dsimp only [oblS]
          refine ⟨⟨if qc = true then .bool false else undef, by rfl, (guard_in (by simp)).1, (guard_in (by simp)).2⟩, ?_⟩
          intro hg
          rintro w9 h9
          exact absurd hg (by simp)
        dsimp only [List.nil_append, List.cons_append]
        apply relS_if (mask := [false, false, false, false, false, false, false, true, false, false, false, false]) (t := 24) (want := true) (g := false) (x := undef)
        · rfl
        · kernel_rfl
        · kernel_rfl
        · dsimp only [oblS]
          refine ⟨⟨if qc = true then .bool false else undef, by rfl, (guard_in (by simp)).1, (guard_in (by simp)).2⟩, ?_⟩
          intro hg
          rintro w9 h9
          exact absurd hg (by simp)
        dsimp only [List.nil_append, List.cons_append]
        apply relS_if (mask := [false, false, false, false, false, false, false, true, false, false, false, false, true]) (t := 24) (want := true) (g := false) (x := undef)
        · rfl
        · kernel_rfl
        · kernel_rfl
        · dsimp only [oblS]
          refine ⟨⟨if qc = true then .bool false else undef, by rfl, (guard_in (by simp)).1, (guard_in (by simp)).2⟩, ?_⟩
          intro hg
          rintro w9 h9
          exact absurd hg (by simp)
        dsimp only [List.nil_append, List.cons_append]
        apply relS_if (mask := [false, false, false, false, false, false, false, true, false, false, false, true, false, true]) (t := 24) (want := true) (g := false) (x := undef)
        · rfl
        · kernel_rfl
        · kernel_rfl
        · dsimp only [oblS]
          refine ⟨⟨if qc = true then .bool false else undef, by rfl, (guard_in (by simp)).1, (guard_in (by simp)).2⟩, ?_⟩
          intro hg
          rintro w9 h9
          exact absurd hg (by simp)
        dsimp only [List.nil_append, List.cons_append]
        apply relS_if (mask := [false, false, false, false, false, false, false, true, false, false, false, false, false, false, true]) (t := 24) (want := true) (g := false) (x := undef)
        · rfl
        · kernel_rfl
        · kernel_rfl
        · dsimp only [oblS]
          refine ⟨⟨if qc = true then .bool false else undef, by rfl, (guard_in (by simp)).1, (guard_in (by simp)).2⟩, ?_⟩
          intro hg
          rintro w9 h9
          exact absurd hg (by simp)
        dsimp only [List.nil_append, List.cons_append]
        apply relS_if (mask := [false, false, false, false, false, false, false, true, false, false, false, false, false, false, false, true]) (t := 24) (want := true) (g := false) (x := undef)
        · rfl
        · kernel_rfl
        · kernel_rfl
        · dsimp only [oblS]
          refine ⟨⟨if qc = true then .bool false else undef, by rfl, (guard_in (by simp)).1, (guard_in (by simp)).2⟩, ?_⟩
          intro hg
          rintro w9 h9
          exact absurd hg (by simp)
        dsimp only [List.nil_append, List.cons_append]
        apply relS_if (mask := [false, false, false, false, false, false, false, true, false, true, false, false, false, false, false, false, true]) (t := 24) (want := true) (g := false) (x := undef)
        · rfl
        · kernel_rfl
        · kernel_rfl
        · dsimp only [oblS]
          refine ⟨⟨if qc = true then .bool false else undef, by rfl, (guard_in (by simp)).1, (guard_in (by simp)).2⟩, ?_⟩
          intro hg
          rintro w9 h9
          exact absurd hg (by simp)
        dsimp only [List.nil_append, List.cons_append]
        apply relS_if (mask := [false, false, false, false, true, false, false, true, false, false, false, false, false, false, false, false, false, true]) (t := 21) (want := false) (g := qc) (x := .bool false)
        · rfl
        · kernel_rfl
        · kernel_rfl
        · dsimp only [oblS]
          refine ⟨⟨.bool (!qc), by rfl, (guard_free (by simp)).1, (guard_free (by simp)).2⟩, ?_⟩
          intro hg
          rintro w9 h9
          go_simp
          exact ⟨Below.refl _ _, rfl⟩
        dsimp only [List.nil_append, List.cons_append]
        apply relS_det (mask := [false, false, false, false, true, false, false, false, false, false, false, false, false, false, false, false, false, false, true]) (x := .bool (!qc))
        · rfl
        · kernel_rfl
        · kernel_rfl
        · dsimp only [oblS]
          rintro w9 h9
          obtain ⟨cc, hcc⟩ : ∃ cc, qc = cc := ⟨_, rfl⟩
          rw [hcc]
          clear hcc
          cases cc
          · go_simp
            exact ⟨Below.refl _ _, by simp [IsV]⟩
          · go_simp
            exact ⟨Below.refl _ _, by simp [IsV]⟩
        dsimp only [List.nil_append, List.cons_append]
        apply relS_det (mask := [false, false, false, false, false, false, false, false, false, false, false, false, false, false, false, false, false, false, false, true]) (x := .bool (!qc))
        · rfl
        · kernel_rfl
        · kernel_rfl
        · dsimp only [oblS]
          rintro w9 h9
          go_simp
          exact ⟨Below.refl _ _, rfl⟩
        dsimp only [List.nil_append, List.cons_append]
        apply relS_if (mask := [false, false, false, false, false, false, false, false, false, false, false, false, false, false, false, false, false, false, false, false, true]) (t := 37) (want := false) (g := qc)
        · rfl
        · kernel_rfl
        · kernel_rfl
        · dsimp only [oblS]
          refine ⟨⟨.bool (!qc), by rfl, (guard_free (by simp)).1, (guard_free (by simp)).2⟩, ?_⟩
          intro hg
          rintro w9 h9
          go_simp
          exact ⟨Below.refl _ _, rfl⟩
        dsimp only [List.nil_append, List.cons_append]
        apply relS_if (mask := [false, false, false, false, false, false, false, false, false, false, false, false, false, false, false, false, false, false, false, false, true, true]) (t := 37) (want := false) (g := qc) (x := .int .i64 y.tries)
        · rfl
        · kernel_rfl
        · kernel_rfl
        · dsimp only [oblS]
          refine ⟨⟨.bool (!qc), by rfl, (guard_free (by simp)).1, (guard_free (by simp)).2⟩, ?_⟩
          intro hg
          rintro w9 h9
          have hc9 := (bcell h9).1
          go_simp
          exact ⟨Below.refl _ _, rfl⟩
        dsimp only [List.nil_append, List.cons_append]
        apply relS_if (mask := [false, false, false, false, false, false, false, false, false, false, false, false, false, false, false, false, false, false, false, false, true, false, true]) (t := 37) (want := false) (g := qc) (x := .bool n3)
        · rfl
        · kernel_rfl
        · kernel_rfl
        · dsimp only [oblS]
          refine ⟨⟨.bool (!qc), by rfl, (guard_free (by simp)).1, (guard_free (by simp)).2⟩, ?_⟩
          intro hg
          rintro w9 h9
          go_simp
          exact ⟨Below.refl _ _, rfl⟩
        dsimp only [List.nil_append, List.cons_append]
        apply relS_det (mask := [false, false, false, false, false, false, false, false, false, false, false, false, false, false, false, false, false, false, false, false, true, false, false, true]) (x := .bool (!(qc && !n3)))
        · rfl
        · kernel_rfl
        · kernel_rfl
        · dsimp only [oblS]
          rintro w9 h9
          obtain ⟨cc, hcc⟩ : ∃ cc, qc = cc := ⟨_, rfl⟩
          rw [hcc]
          clear hcc
          cases cc
          · go_simp
            exact ⟨Below.refl _ _, by simp [IsV]⟩
          · go_simp
            exact ⟨Below.refl _ _, by simp [IsV]⟩
        dsimp only [List.nil_append, List.cons_append]
        apply relS_det (mask := [false, false, false, false, false, false, false, false, false, false, false, false, false, false, false, false, false, false, false, false, false, false, false, false, true]) (x := .bool (!(qc && !n3)))
        · rfl
        · kernel_rfl
        · kernel_rfl
        · dsimp only [oblS]
          rintro w9 h9
          go_simp
          exact ⟨Below.refl _ _, rfl⟩
        dsimp only [List.nil_append, List.cons_append]
        apply relS_if (mask := [false, false, false, false, false, false, false, false, false, false, false, false, false, false, false, false, false, false, false, false, false, false, false, false, false, true]) (t := 42) (want := false) (g := (qc && !n3))
        · rfl
        · kernel_rfl
        · kernel_rfl
        · dsimp only [oblS]
          refine ⟨⟨.bool (!(qc && !n3)), by rfl, (guard_free (by simp)).1, (guard_free (by simp)).2⟩, ?_⟩
          intro hg
          rintro w9 h9
          go_simp
          exact ⟨Below.refl _ _, rfl⟩
        dsimp only [List.nil_append, List.cons_append]
        apply relS_if (mask := [false, false, false, false, false, false, false, false, false, false, false, false, false, false, false, false, false, false, false, false, false, false, false, false, false, true, true]) (t := 42) (want := false) (g := (qc && !n3)) (x := .int .i64 y.tries)
        · rfl
        · kernel_rfl
        · kernel_rfl
        · dsimp only [oblS]
          refine ⟨⟨.bool (!(qc && !n3)), by rfl, (guard_free (by simp)).1, (guard_free (by simp)).2⟩, ?_⟩
          intro hg
          rintro w9 h9
          have hc9 := (bcell h9).1
          go_simp
          exact ⟨Below.refl _ _, rfl⟩
        dsimp only [List.nil_append, List.cons_append]
        apply relS_if (mask := [false, false, false, false, false, false, false, false, false, false, false, false, false, false, false, false, false, false, false, false, false, false, false, false, false, true, false, true]) (t := 42) (want := false) (g := (qc && !n3)) (x := .bool n4)
        · rfl
        · kernel_rfl
        · kernel_rfl
        · dsimp only [oblS]
          refine ⟨⟨.bool (!(qc && !n3)), by rfl, (guard_free (by simp)).1, (guard_free (by simp)).2⟩, ?_⟩
          intro hg
          rintro w9 h9
          go_simp
          exact ⟨Below.refl _ _, rfl⟩
        dsimp only [List.nil_append, List.cons_append]
        apply relS_det (mask := [false, false, false, false, false, false, false, false, false, false, false, false, false, false, false, false, false, false, false, false, false, false, false, false, false, true, false, false, true]) (x := .bool (!((qc && !n3) && !n4)))
        · rfl
        · kernel_rfl
        · kernel_rfl
        · dsimp only [oblS]
          rintro w9 h9
          obtain ⟨cc, hcc⟩ : ∃ cc, (qc && !n3) = cc := ⟨_, rfl⟩
          rw [hcc]
          clear hcc
          cases cc
          · go_simp
            exact ⟨Below.refl _ _, by simp [IsV]⟩
          · go_simp
            exact ⟨Below.refl _ _, by simp [IsV]⟩
        dsimp only [List.nil_append, List.cons_append]
        apply relS_det (mask := [false, false, false, false, false, false, false, false, false, false, false, false, false, false, false, false, false, false, false, false, false, false, false, false, false, false, false, false, false, true]) (x := .bool (!((qc && !n3) && !n4)))
        · rfl
        · kernel_rfl
        · kernel_rfl
        · dsimp only [oblS]
          rintro w9 h9
          go_simp
          exact ⟨Below.refl _ _, rfl⟩
        dsimp only [List.nil_append, List.cons_append]
        apply relS_if (mask := [false, false, false, false, false, false, false, false, false, false, false, false, false, false, false, false, false, false, false, false, false, false, false, false, false, false, false, false, false, false, true]) (t := 47) (want := false) (g := ((qc && !n3) && !n4))
        · rfl
        · kernel_rfl
        · kernel_rfl
        · dsimp only [oblS]
          refine ⟨⟨.bool (!((qc && !n3) && !n4)), by rfl, (guard_free (by simp)).1, (guard_free (by simp)).2⟩, ?_⟩
          intro hg
          rintro w9 h9
          go_simp
          exact ⟨Below.refl _ _, rfl⟩
        dsimp only [List.nil_append, List.cons_append]
        apply relS_if (mask := [false, false, false, false, false, false, false, false, false, false, false, false, false, false, false, false, false, false, false, false, false, false, false, false, false, false, false, false, false, false, true, true]) (t := 47) (want := false) (g := ((qc && !n3) && !n4)) (x := .int .i64 y.best)
        · rfl
        · kernel_rfl
        · kernel_rfl
        · dsimp only [oblS]
          refine ⟨⟨.bool (!((qc && !n3) && !n4)), by rfl, (guard_free (by simp)).1, (guard_free (by simp)).2⟩, ?_⟩
          intro hg
          rintro w9 h9
          have hc9 := (bcell h9).1
          go_simp
          exact ⟨Below.refl _ _, rfl⟩
        dsimp only [List.nil_append, List.cons_append]
        apply relS_if (mask := [false, false, false, false, false, false, false, false, false, false, false, false, false, false, false, false, false, false, false, false, false, false, false, false, false, false, false, false, false, false, true, false, true]) (t := 47) (want := false) (g := ((qc && !n3) && !n4)) (x := .bool n5)
        · rfl
        · kernel_rfl
        · kernel_rfl
        · dsimp only [oblS]
          refine ⟨⟨.bool (!((qc && !n3) && !n4)), by rfl, (guard_free (by simp)).1, (guard_free (by simp)).2⟩, ?_⟩
          intro hg
          rintro w9 h9
          go_simp
          exact ⟨Below.refl _ _, rfl⟩
        dsimp only [List.nil_append, List.cons_append]
        apply relS_det (mask := [false, false, false, false, false, false, false, false, false, false, false, false, false, false, false, false, false, false, false, false, false, false, false, false, false, false, false, false, false, false, true, false, false, true]) (x := .bool (!(((qc && !n3) && !n4) && !n5)))
        · rfl
        · kernel_rfl
        · kernel_rfl
        · dsimp only [oblS]
          rintro w9 h9
          obtain ⟨cc, hcc⟩ : ∃ cc, ((qc && !n3) && !n4) = cc := ⟨_, rfl⟩
          rw [hcc]
          clear hcc
          cases cc
          · go_simp
            exact ⟨Below.refl _ _, by simp [IsV]⟩
          · go_simp
            exact ⟨Below.refl _ _, by simp [IsV]⟩
        dsimp only [List.nil_append, List.cons_append]
        apply relS_det (mask := [false, false, false, false, false, false, false, false, false, false, false, false, false, false, false, false, false, false, false, false, false, false, false, false, false, false, false, false, false, false, false, false, false, false, true]) (x := .bool (!(((qc && !n3) && !n4) && !n5)))
        · rfl
        · kernel_rfl
        · kernel_rfl
        · dsimp only [oblS]
          rintro w9 h9
          go_simp
          exact ⟨Below.refl _ _, rfl⟩
        dsimp only [List.nil_append, List.cons_append]
        apply relS_if (mask := [false, false, false, false, false, false, false, false, false, false, false, false, false, false, false, false, false, false, false, false, false, false, false, false, false, false, false, false, false, false, false, false, false, false, false, true]) (t := 52) (want := false) (g := (((qc && !n3) && !n4) && !n5))
        · rfl
        · kernel_rfl
        · kernel_rfl
        · dsimp only [oblS]
          refine ⟨⟨.bool (!(((qc && !n3) && !n4) && !n5)), by rfl, (guard_free (by simp)).1, (guard_free (by simp)).2⟩, ?_⟩
          intro hg
          rintro w9 h9
          go_simp
          exact ⟨Below.refl _ _, rfl⟩
        dsimp only [List.nil_append, List.cons_append]
        apply relS_if (mask := [false, false, false, false, false, false, false, false, false, false, false, false, false, false, false, false, false, false, false, false, false, false, false, false, false, false, false, false, false, false, false, false, false, false, false, true, true]) (t := 52) (want := false) (g := (((qc && !n3) && !n4) && !n5)) (x := .int .i64 y.best)
        · rfl
        · kernel_rfl
        · kernel_rfl
        · dsimp only [oblS]
          refine ⟨⟨.bool (!(((qc && !n3) && !n4) && !n5)), by rfl, (guard_free (by simp)).1, (guard_free (by simp)).2⟩, ?_⟩
          intro hg
          rintro w9 h9
          have hc9 := (bcell h9).1
          go_simp
          exact ⟨Below.refl _ _, rfl⟩
        dsimp only [List.nil_append, List.cons_append]
        apply relS_if (mask := [false, false, false, false, false, false, false, false, false, false, false, false, false, false, false, false, false, false, false, false, false, false, false, false, false, false, false, false, false, false, false, false, false, false, false, true, false, true]) (t := 52) (want := false) (g := (((qc && !n3) && !n4) && !n5)) (x := .bool n6)
        · rfl
        · kernel_rfl
        · kernel_rfl
        · dsimp only [oblS]
          refine ⟨⟨.bool (!(((qc && !n3) && !n4) && !n5)), by rfl, (guard_free (by simp)).1, (guard_free (by simp)).2⟩, ?_⟩
          intro hg
          rintro w9 h9
          go_simp
          exact ⟨Below.refl _ _, rfl⟩
        dsimp only [List.nil_append, List.cons_append]
        apply relS_det (mask := [false, false, false, false, false, false, false, false, false, false, false, false, false, false, false, false, false, false, false, false, false, false, false, false, false, false, false, false, false, false, false, false, false, false, false, true, false, false, true]) (x := .bool (!((((qc && !n3) && !n4) && !n5) && !n6)))
        · rfl
        · kernel_rfl
        · kernel_rfl
        · dsimp only [oblS]
          rintro w9 h9
          obtain ⟨cc, hcc⟩ : ∃ cc, (((qc && !n3) && !n4) && !n5) = cc := ⟨_, rfl⟩
          rw [hcc]
          clear hcc
          cases cc
          · go_simp
            exact ⟨Below.refl _ _, by simp [IsV]⟩
          · go_simp
            exact ⟨Below.refl _ _, by simp [IsV]⟩
        dsimp only [List.nil_append, List.cons_append]
        apply relS_det (mask := [false, false, false, false, false, false, false, false, false, false, false, false, false, false, false, false, false, false, false, false, false, false, false, false, false, false, false, false, false, false, false, false, false, false, false, false, false, false, false, true]) (x := .bool (!((((qc && !n3) && !n4) && !n5) && !n6)))
        · rfl
        · kernel_rfl
        · kernel_rfl
        · dsimp only [oblS]
          rintro w9 h9
          go_simp
          exact ⟨Below.refl _ _, rfl⟩
        dsimp only [List.nil_append, List.cons_append]
        apply relS_if (mask := [false, false, false, false, false, false, false, false, false, false, false, false, false, false, false, false, false, false, false, false, false, false, false, false, false, false, false, false, false, false, false, false, false, false, false, false, false, false, false, false, true]) (t := 57) (want := false) (g := ((((qc && !n3) && !n4) && !n5) && !n6))
        · rfl
        · kernel_rfl
        · kernel_rfl
        · dsimp only [oblS]
          refine ⟨⟨.bool (!((((qc && !n3) && !n4) && !n5) && !n6)), by rfl, (guard_free (by simp)).1, (guard_free (by simp)).2⟩, ?_⟩
          intro hg
          rintro w9 h9
          go_simp
          exact ⟨Below.refl _ _, rfl⟩
        dsimp only [List.nil_append, List.cons_append]
        apply relS_if (mask := [false, false, false, false, false, false, false, false, false, false, false, false, false, false, false, false, false, false, false, false, false, false, false, false, false, false, false, false, false, false, false, false, false, false, false, false, false, false, false, false, true, true]) (t := 57) (want := false) (g := ((((qc && !n3) && !n4) && !n5) && !n6)) (x := .int .i64 y.best)
        · rfl
        · kernel_rfl
        · kernel_rfl
        · dsimp only [oblS]
          refine ⟨⟨.bool (!((((qc && !n3) && !n4) && !n5) && !n6)), by rfl, (guard_free (by simp)).1, (guard_free (by simp)).2⟩, ?_⟩
          intro hg
          rintro w9 h9
          have hc9 := (bcell h9).1
          go_simp
          exact ⟨Below.refl _ _, rfl⟩
        dsimp only [List.nil_append, List.cons_append]
        apply relS_if (mask := [false, false, false, false, false, false, false, false, false, false, false, false, false, false, false, false, false, false, false, false, false, false, false, false, false, false, false, false, false, false, false, false, false, false, false, false, false, false, false, false, true, false, true]) (t := 57) (want := false) (g := ((((qc && !n3) && !n4) && !n5) && !n6)) (x := .bool m1)
        · rfl
        · kernel_rfl
        · kernel_rfl
        · dsimp only [oblS]
          refine ⟨⟨.bool (!((((qc && !n3) && !n4) && !n5) && !n6)), by rfl, (guard_free (by simp)).1, (guard_free (by simp)).2⟩, ?_⟩
          intro hg
          rintro w9 h9
          go_simp
          exact ⟨Below.refl _ _, rfl⟩
        dsimp only [List.nil_append, List.cons_append]
        apply relS_if (mask := [false, false, false, false, false, false, false, false, false, false, false, false, false, false, false, false, false, false, false, false, false, false, false, false, false, false, false, false, false, false, false, false, false, false, false, false, false, false, false, false, true, false, false, false]) (t := 57) (want := false) (g := ((((qc && !n3) && !n4) && !n5) && !n6))
        · rfl
        · kernel_rfl
        · kernel_rfl
        · dsimp only [oblS]
          refine ⟨⟨.bool (!((((qc && !n3) && !n4) && !n5) && !n6)), by rfl, (guard_free (by simp)).1, (guard_free (by simp)).2⟩, ?_⟩
          intro hg
          rintro w9 h9
          go_simp
          exact ⟨Below.refl _ _, rfl⟩
        dsimp only [List.nil_append, List.cons_append]
        apply relS_if (mask := [false, false, false, false, false, false, false, false, false, false, false, false, false, false, false, false, false, false, false, false, false, false, false, false, false, false, false, false, false, false, false, false, false, false, false, false, false, false, false, false, true, false, false, false, true]) (t := 57) (want := false) (g := ((((qc && !n3) && !n4) && !n5) && !n6)) (x := .int .i64 y.tries)
        · rfl
        · kernel_rfl
        · kernel_rfl
        · dsimp only [oblS]
          refine ⟨⟨.bool (!((((qc && !n3) && !n4) && !n5) && !n6)), by rfl, (guard_free (by simp)).1, (guard_free (by simp)).2⟩, ?_⟩
          intro hg
          rintro w9 h9
          have hc9 := (bcell h9).1
          go_simp
          exact ⟨Below.refl _ _, rfl⟩
        dsimp only [List.nil_append, List.cons_append]
        apply relS_if (mask := [false, false, false, false, false, false, false, false, false, false, false, false, false, false, false, false, false, false, false, false, false, false, false, false, false, false, false, false, false, false, false, false, false, false, false, false, false, false, false, false, true, false, false, false, false, true]) (t := 57) (want := false) (g := ((((qc && !n3) && !n4) && !n5) && !n6)) (x := .bool m2)
        · rfl
        · kernel_rfl
        · kernel_rfl
        · dsimp only [oblS]
          refine ⟨⟨.bool (!((((qc && !n3) && !n4) && !n5) && !n6)), by rfl, (guard_free (by simp)).1, (guard_free (by simp)).2⟩, ?_⟩
          intro hg
          rintro w9 h9
          go_simp
          exact ⟨Below.refl _ _, rfl⟩
        dsimp only [List.nil_append, List.cons_append]
        apply relS_if (mask := [false, false, false, false, false, false, false, false, false, false, false, false, false, false, false, false, false, false, false, false, false, false, false, false, false, false, false, false, false, false, false, false, false, false, false, false, false, false, false, false, true, false, false, true, false, false, true]) (t := 57) (want := false) (g := ((((qc && !n3) && !n4) && !n5) && !n6)) (x := .bool n7)
        · rfl
        · kernel_rfl
        · kernel_rfl
        · dsimp only [oblS]
          refine ⟨⟨.bool (!((((qc && !n3) && !n4) && !n5) && !n6)), by rfl, (guard_free (by simp)).1, (guard_free (by simp)).2⟩, ?_⟩
          intro hg
          rintro w9 h9
          go_simp
          exact ⟨Below.refl _ _, by show _ = _; rw [← HN7.out]; cases m1 <;> cases m2 <;> rfl⟩
        dsimp only [List.nil_append, List.cons_append]
        apply relS_det (mask := [false, false, false, false, false, false, false, false, false, false, false, false, false, false, false, false, false, false, false, false, false, false, false, false, false, false, false, false, false, false, false, false, false, false, false, false, false, false, false, false, true, false, false, false, false, false, false, true]) (x := .bool (!(((((qc && !n3) && !n4) && !n5) && !n6) && !n7)))
        · rfl
        · kernel_rfl
        · kernel_rfl
        · dsimp only [oblS]
          rintro w9 h9
          obtain ⟨cc, hcc⟩ : ∃ cc, ((((qc && !n3) && !n4) && !n5) && !n6) = cc := ⟨_, rfl⟩
          rw [hcc]
          clear hcc
          cases cc
          · go_simp
            exact ⟨Below.refl _ _, by simp [IsV]⟩
          · go_simp
            exact ⟨Below.refl _ _, by simp [IsV]⟩
        dsimp only [List.nil_append, List.cons_append]
        refine relS_endK [false, false, false, false, false, false, false, false, false, false, false, false, false, false, false, false, false, false, false, false, false, false, false, false, false, false, false, false, false, false, false, false, false, false, false, false, false, false, false, false, false, false, false, false, false, false, false, false, true] (by rfl) (by rfl) ?_
        dsimp only [finK]
        intro q0 q1 q2 q3 q4 q5 q6 q7 q8 q9 q10 q11 q12 q13 q14 q15 q16 q17 q18 q19 q20 q21 q22 q23 q24 q25 q26 q27 q28 q29 q30 q31 q32 q33 q34 q35 q36 q37 q38 q39 q40 q41 q42 q43 q44 q45 q46 q47
        -- rintro  w8 hb
        intro w8 h8
        have hb8 := hb6.trans (h8.mono hb6.size)
        have bw8 := bw6.trans (h8.mono bw6.size)
        obtain ⟨bad, hbad⟩ : ∃ q, (!(((((qc && !n3) && !n4) && !n5) && !n6) && !n7)) = q := ⟨_, rfl⟩
        have HS : Hid (fitsL (-1) s.seen = (!bad && fitsL y.course (s.seen.drop (k + 1)))) := by
          show _ = _
          have ha : withinB y.course (-1 + 1) 4095 = qc := by
            rw [← HQC.out, Bool.eq_iff_iff]
            simp [courseB, withinB] <;> omega
          have hb : withinB y.tries 0 100 = (!n3 && !n4) := by
            rw [← HN3.out, ← HN4.out, Bool.eq_iff_iff]
            simp [withinB]
          have hc : withinB y.best (-1) 12 = (!n5 && !n6) := by
            rw [← HN5.out, ← HN6.out, Bool.eq_iff_iff]
            simp [withinB]
          have hd : (decide (0 ≤ y.best) == decide (1 ≤ y.tries)) = !n7 := by
            rw [← HN7.out, HM1.out, HM2.out]
            cases m1 <;> cases m2 <;> rfl
          rw [HA.out, HY.out, ← hbad, ha, hb, hc, hd]
          simp [Bool.and_assoc]
        have HC : Hid (bad = false → -1 ≤ y.course ∧ y.course ≤ 4095) := fun h => by
          have hq : qc = true := by
            rw [h] at hbad
            cases qc
            · simp at hbad
            · rfl
          rw [← HQC.out] at hq
          simp [courseB, withinB] at hq
          omega
        rw [hbad]
        clear hbad hn3 hn4 hn5 hn6 hn7 hm1 hm2
        cases bad
        · have HT : Hid (fitsL (-1) s.seen = fitsL y.course (s.seen.drop (k + 1))) := by show _ = _; rw [HS.out]; rfl
          obtain ⟨hy1, hy2⟩ := HC.out rfl
          go_simp
          go_wp2_with fail
          go_roundw
          case rel => exact ⟨k + 1, y.course, by omega, by go_num, hy1, hy2, fun h => by omega, fun k' h => ⟨y, by rw [show k' = k by omega]; exact HZ.out, rfl⟩, HT.out, hb8⟩
          case measure => simp [intOf]; omega
        · have HT : Hid (fitsB s = false) := by show _ = _; simp [fitsB, HS.out]
          go_simp
          go_wp2_with fail
          go_ret
          exact ⟨ret_int (by rw [HT.out]; rfl), bw8⟩
      · skip
        obtain ⟨k', hk'⟩ : ∃ k', k = k' + 1 := ⟨k - 1, by omega⟩
        obtain ⟨z, hz, hzl⟩ := HKZ.out k' hk'
        subst hzl
        have hks : k' < s.sn := by omega
        obtain ⟨b3, off3, y3, e23, hb', hz3, c0, c1, c2, c3⟩ := snSl.get (HSa.out W6 bw6) hks
        obtain ⟨rfl, rfl⟩ : b = b3 ∧ off = off3 := by rw [HE.out] at e23; simpa using e23
        obtain rfl : z = y3 := by rw [hz] at hz3; exact Option.some.inj hz3
        have lb6 := lt_of_cell c0
        obtain ⟨n2, hn2⟩ : ∃ q, decide (y.course ≤ z.course) = q := ⟨_, rfl⟩
        have HN2 := hidp hn2
        have hki : (k' : Int) < s.sn := by omega
        have dk : decide ((0 : Int) < (k : Int)) = true := decide_eq_true (by omega)
        have dk2 : decide (0 < k) = true := decide_eq_true (by omega)
        have hk1 : (k : Int) - 1 = k' := by omega
        have hwk : IntKind.i64.wrap (k' : Int) = k' := by simp [IntKind.wrap, IntKind.bits, IntKind.signed]; omega
        clear hz hz3 e23 hkp
        refine wp_region_S W6.heap.size 49 (fun _ => false) (Nat.le_refl _) (by kernel_rfl) (by kernel_rfl) (by kernel_rfl) ?_
        dsimp only [List.take, List.drop]
        apply relS_det (mask := [])
        · rfl
        · kernel_rfl
        · kernel_rfl
        · dsimp only [oblS]
          rintro w9 h9
          go_simp
          exact ⟨Below.refl _ _, rfl⟩
        dsimp only [List.nil_append, List.cons_append]
        apply relS_det (mask := [true])
        · rfl
        · kernel_rfl
        · kernel_rfl
        · dsimp only [oblS]
          rintro w9 h9
          have hc9 := (bcell h9).1
          go_simp
          exact ⟨Below.refl _ _, rfl⟩
        dsimp only [List.nil_append, List.cons_append]
        apply relS_det (mask := [false, true]) (x := .bool qc)
        · rfl
        · kernel_rfl
        · kernel_rfl
        · dsimp only [oblS]
          rintro w9 h9
          have hc9 := (bcell h9).1
          go_simp
          refine (vcourse_any _ w9).mono ?_
          rintro e w1 ⟨rfl, rfl⟩
          exact ⟨_, rfl, Below.refl _ _, by rw [HQC.out]; rfl⟩
        dsimp only [List.nil_append, List.cons_append]
        apply relS_det (mask := [false, false, true]) (x := .bool (!qc))
        · rfl
        · kernel_rfl
        · kernel_rfl
        · dsimp only [oblS]
          rintro w9 h9
          go_simp
          exact ⟨Below.refl _ _, rfl⟩
        dsimp only [List.nil_append, List.cons_append]
        apply relS_det (mask := [false, false, false, true]) (x := .bool (!qc))
        · rfl
        · kernel_rfl
        · kernel_rfl
        · dsimp only [oblS]
          rintro w9 h9
          go_simp
          exact ⟨Below.refl _ _, rfl⟩
        dsimp only [List.nil_append, List.cons_append]
        apply relS_if (mask := [false, false, false, false, true]) (t := 21) (want := false) (g := qc)
        · rfl
        · kernel_rfl
        · kernel_rfl
        · dsimp only [oblS]
          refine ⟨⟨.bool (!qc), by rfl, (guard_free (by simp)).1, (guard_free (by simp)).2⟩, ?_⟩
          intro hg
          rintro w9 h9
          go_simp
          exact ⟨Below.refl _ _, rfl⟩
        dsimp only [List.nil_append, List.cons_append]
        apply relS_if (mask := [false, false, false, false, true, true]) (t := 21) (want := false) (g := qc) (x := .bool true)
        · rfl
        · kernel_rfl
        · kernel_rfl
        · dsimp only [oblS]
          refine ⟨⟨.bool (!qc), by rfl, (guard_free (by simp)).1, (guard_free (by simp)).2⟩, ?_⟩
          intro hg
          rintro w9 h9
          go_simp
          exact ⟨Below.refl _ _, rfl⟩
        dsimp only [List.nil_append, List.cons_append]
        apply relS_if (mask := [false, false, false, false, true, false, true]) (t := 21) (want := false) (g := qc) (x := .bool true)
        · rfl
        · kernel_rfl
        · kernel_rfl
        · dsimp only [oblS]
          refine ⟨⟨.bool (!qc), by rfl, (guard_free (by simp)).1, (guard_free (by simp)).2⟩, ?_⟩
          intro hg
          rintro w9 h9
          go_simp
          exact ⟨Below.refl _ _, rfl⟩
        dsimp only [List.nil_append, List.cons_append]
        apply relS_if (mask := [false, false, false, false, false, false, false, true]) (t := 24) (want := true) (g := qc)
        · rfl
        · kernel_rfl
        · kernel_rfl
        · dsimp only [oblS]
          refine ⟨⟨if qc = true then .bool true else undef, by rfl, (guard_in (by simp)).1, (guard_in (by simp)).2⟩, ?_⟩
          intro hg
          rintro w9 h9
          go_simp
          exact ⟨Below.refl _ _, rfl⟩
        dsimp only [List.nil_append, List.cons_append]
        apply relS_if (mask := [false, false, false, false, false, false, false, true, true]) (t := 24) (want := true) (g := qc) (x := .int .i64 y.course)
        · rfl
        · kernel_rfl
        · kernel_rfl
        · dsimp only [oblS]
          refine ⟨⟨if qc = true then .bool true else undef, by rfl, (guard_in (by simp)).1, (guard_in (by simp)).2⟩, ?_⟩
          intro hg
          rintro w9 h9
          have hc9 := (bcell h9).1
          go_simp
          exact ⟨Below.refl _ _, rfl⟩
        dsimp only [List.nil_append, List.cons_append]
        apply relS_if (mask := [false, false, false, false, false, false, false, true, false, false]) (t := 24) (want := true) (g := qc)
        · rfl
        · kernel_rfl
        · kernel_rfl
        · dsimp only [oblS]
          refine ⟨⟨if qc = true then .bool true else undef, by rfl, (guard_in (by simp)).1, (guard_in (by simp)).2⟩, ?_⟩
          intro hg
          rintro w9 h9
          go_simp
          exact ⟨Below.refl _ _, rfl⟩
        dsimp only [List.nil_append, List.cons_append]
        apply relS_if (mask := [false, false, false, false, false, false, false, true, false, false, true]) (t := 24) (want := true) (g := qc)
        · rfl
        · kernel_rfl
        · kernel_rfl
        · dsimp only [oblS]
          refine ⟨⟨if qc = true then .bool true else undef, by rfl, (guard_in (by simp)).1, (guard_in (by simp)).2⟩, ?_⟩
          intro hg
          rintro w9 h9
          have hc9 := (bcell h9).1
          go_simp
          exact ⟨Below.refl _ _, rfl⟩
        dsimp only [List.nil_append, List.cons_append]
        apply relS_if (mask := [false, false, false, false, false, false, false, true, false, false, false, false]) (t := 24) (want := true) (g := qc)
        · rfl
        · kernel_rfl
        · kernel_rfl
        · dsimp only [oblS]
          refine ⟨⟨if qc = true then .bool true else undef, by rfl, (guard_in (by simp)).1, (guard_in (by simp)).2⟩, ?_⟩
          intro hg
          rintro w9 h9
          go_simp
          exact ⟨Below.refl _ _, rfl⟩
        dsimp only [List.nil_append, List.cons_append]
        apply relS_if (mask := [false, false, false, false, false, false, false, true, false, false, false, false, true]) (t := 24) (want := true) (g := qc) (x := .int .i64 (k' : Nat))
        · rfl
        · kernel_rfl
        · kernel_rfl
        · dsimp only [oblS]
          refine ⟨⟨if qc = true then .bool true else undef, by rfl, (guard_in (by simp)).1, (guard_in (by simp)).2⟩, ?_⟩
          intro hg
          rintro w9 h9
          go_simp
          exact ⟨Below.refl _ _, by show _ = _; first | rfl | (congr 1; omega) | (simp; omega)⟩
        dsimp only [List.nil_append, List.cons_append]
        apply relS_if (mask := [false, false, false, false, false, false, false, true, false, false, false, true, false, true]) (t := 24) (want := true) (g := qc) (x := (.pointer (some ⟨b, off + k' * 4, none⟩)))
        · rfl
        · kernel_rfl
        · kernel_rfl
        · dsimp only [oblS]
          refine ⟨⟨if qc = true then .bool true else undef, by rfl, (guard_in (by simp)).1, (guard_in (by simp)).2⟩, ?_⟩
          intro hg
          rintro w9 h9
          go_simp
          exact ⟨Below.refl _ _, rfl⟩
        dsimp only [List.nil_append, List.cons_append]
        apply relS_if (mask := [false, false, false, false, false, false, false, true, false, false, false, false, false, false, true]) (t := 24) (want := true) (g := qc)
        · rfl
        · kernel_rfl
        · kernel_rfl
        · dsimp only [oblS]
          refine ⟨⟨if qc = true then .bool true else undef, by rfl, (guard_in (by simp)).1, (guard_in (by simp)).2⟩, ?_⟩
          intro hg
          rintro w9 h9
          go_simp
          exact ⟨Below.refl _ _, rfl⟩
        dsimp only [List.nil_append, List.cons_append]
        apply relS_if (mask := [false, false, false, false, false, false, false, true, false, false, false, false, false, false, false, true]) (t := 24) (want := true) (g := qc) (x := .int .i64 z.course)
        · rfl
        · kernel_rfl
        · kernel_rfl
        · dsimp only [oblS]
          refine ⟨⟨if qc = true then .bool true else undef, by rfl, (guard_in (by simp)).1, (guard_in (by simp)).2⟩, ?_⟩
          intro hg
          rintro w9 h9
          have hc9 := (bcell h9).1
          go_simp
          exact ⟨Below.refl _ _, rfl⟩
        dsimp only [List.nil_append, List.cons_append]
        apply relS_if (mask := [false, false, false, false, false, false, false, true, false, true, false, false, false, false, false, false, true]) (t := 24) (want := true) (g := qc) (x := .bool n2)
        · rfl
        · kernel_rfl
        · kernel_rfl
        · dsimp only [oblS]
          refine ⟨⟨if qc = true then .bool true else undef, by rfl, (guard_in (by simp)).1, (guard_in (by simp)).2⟩, ?_⟩
          intro hg
          rintro w9 h9
          go_simp
          exact ⟨Below.refl _ _, rfl⟩
        dsimp only [List.nil_append, List.cons_append]
        apply relS_if (mask := [false, false, false, false, true, false, false, true, false, false, false, false, false, false, false, false, false, true]) (t := 21) (want := false) (g := qc) (x := .bool n2)
        · rfl
        · kernel_rfl
        · kernel_rfl
        · dsimp only [oblS]
          refine ⟨⟨.bool (!qc), by rfl, (guard_free (by simp)).1, (guard_free (by simp)).2⟩, ?_⟩
          intro hg
          rintro w9 h9
          go_simp
          exact ⟨Below.refl _ _, rfl⟩
        dsimp only [List.nil_append, List.cons_append]
        apply relS_det (mask := [false, false, false, false, true, false, false, false, false, false, false, false, false, false, false, false, false, false, true]) (x := .bool (!(qc && !n2)))
        · rfl
        · kernel_rfl
        · kernel_rfl
        · dsimp only [oblS]
          rintro w9 h9
          obtain ⟨cc, hcc⟩ : ∃ cc, qc = cc := ⟨_, rfl⟩
          rw [hcc]
          clear hcc
          cases cc
          · go_simp
            exact ⟨Below.refl _ _, by simp [IsV]⟩
          · go_simp
            exact ⟨Below.refl _ _, by simp [IsV]⟩
        dsimp only [List.nil_append, List.cons_append]
        apply relS_det (mask := [false, false, false, false, false, false, false, false, false, false, false, false, false, false, false, false, false, false, false, true]) (x := .bool (!(qc && !n2)))
        · rfl
        · kernel_rfl
        · kernel_rfl
        · dsimp only [oblS]
          rintro w9 h9
          go_simp
          exact ⟨Below.refl _ _, rfl⟩
        dsimp only [List.nil_append, List.cons_append]
        apply relS_if (mask := [false, false, false, false, false, false, false, false, false, false, false, false, false, false, false, false, false, false, false, false, true]) (t := 37) (want := false) (g := (qc && !n2))
        · rfl
        · kernel_rfl
        · kernel_rfl
        · dsimp only [oblS]
          refine ⟨⟨.bool (!(qc && !n2)), by rfl, (guard_free (by simp)).1, (guard_free (by simp)).2⟩, ?_⟩
          intro hg
          rintro w9 h9
          go_simp
          exact ⟨Below.refl _ _, rfl⟩
        dsimp only [List.nil_append, List.cons_append]
        apply relS_if (mask := [false, false, false, false, false, false, false, false, false, false, false, false, false, false, false, false, false, false, false, false, true, true]) (t := 37) (want := false) (g := (qc && !n2)) (x := .int .i64 y.tries)
        · rfl
        · kernel_rfl
        · kernel_rfl
        · dsimp only [oblS]
          refine ⟨⟨.bool (!(qc && !n2)), by rfl, (guard_free (by simp)).1, (guard_free (by simp)).2⟩, ?_⟩
          intro hg
          rintro w9 h9
          have hc9 := (bcell h9).1
          go_simp
          exact ⟨Below.refl _ _, rfl⟩
        dsimp only [List.nil_append, List.cons_append]
        apply relS_if (mask := [false, false, false, false, false, false, false, false, false, false, false, false, false, false, false, false, false, false, false, false, true, false, true]) (t := 37) (want := false) (g := (qc && !n2)) (x := .bool n3)
        · rfl
        · kernel_rfl
        · kernel_rfl
        · dsimp only [oblS]
          refine ⟨⟨.bool (!(qc && !n2)), by rfl, (guard_free (by simp)).1, (guard_free (by simp)).2⟩, ?_⟩
          intro hg
          rintro w9 h9
          go_simp
          exact ⟨Below.refl _ _, rfl⟩
        dsimp only [List.nil_append, List.cons_append]
        apply relS_det (mask := [false, false, false, false, false, false, false, false, false, false, false, false, false, false, false, false, false, false, false, false, true, false, false, true]) (x := .bool (!((qc && !n2) && !n3)))
        · rfl
        · kernel_rfl
        · kernel_rfl
        · dsimp only [oblS]
          rintro w9 h9
          obtain ⟨cc, hcc⟩ : ∃ cc, (qc && !n2) = cc := ⟨_, rfl⟩
          rw [hcc]
          clear hcc
          cases cc
          · go_simp
            exact ⟨Below.refl _ _, by simp [IsV]⟩
          · go_simp
            exact ⟨Below.refl _ _, by simp [IsV]⟩
        dsimp only [List.nil_append, List.cons_append]
        apply relS_det (mask := [false, false, false, false, false, false, false, false, false, false, false, false, false, false, false, false, false, false, false, false, false, false, false, false, true]) (x := .bool (!((qc && !n2) && !n3)))
        · rfl
        · kernel_rfl
        · kernel_rfl
        · dsimp only [oblS]
          rintro w9 h9
          go_simp
          exact ⟨Below.refl _ _, rfl⟩
        dsimp only [List.nil_append, List.cons_append]
        apply relS_if (mask := [false, false, false, false, false, false, false, false, false, false, false, false, false, false, false, false, false, false, false, false, false, false, false, false, false, true]) (t := 42) (want := false) (g := ((qc && !n2) && !n3))
        · rfl
        · kernel_rfl
        · kernel_rfl
        · dsimp only [oblS]
          refine ⟨⟨.bool (!((qc && !n2) && !n3)), by rfl, (guard_free (by simp)).1, (guard_free (by simp)).2⟩, ?_⟩
          intro hg
          rintro w9 h9
          go_simp
          exact ⟨Below.refl _ _, rfl⟩
        dsimp only [List.nil_append, List.cons_append]
        apply relS_if (mask := [false, false, false, false, false, false, false, false, false, false, false, false, false, false, false, false, false, false, false, false, false, false, false, false, false, true, true]) (t := 42) (want := false) (g := ((qc && !n2) && !n3)) (x := .int .i64 y.tries)
        · rfl
        · kernel_rfl
        · kernel_rfl
        · dsimp only [oblS]
          refine ⟨⟨.bool (!((qc && !n2) && !n3)), by rfl, (guard_free (by simp)).1, (guard_free (by simp)).2⟩, ?_⟩
          intro hg
          rintro w9 h9
          have hc9 := (bcell h9).1
          go_simp
          exact ⟨Below.refl _ _, rfl⟩
        dsimp only [List.nil_append, List.cons_append]
        apply relS_if (mask := [false, false, false, false, false, false, false, false, false, false, false, false, false, false, false, false, false, false, false, false, false, false, false, false, false, true, false, true]) (t := 42) (want := false) (g := ((qc && !n2) && !n3)) (x := .bool n4)
        · rfl
        · kernel_rfl
        · kernel_rfl
        · dsimp only [oblS]
          refine ⟨⟨.bool (!((qc && !n2) && !n3)), by rfl, (guard_free (by simp)).1, (guard_free (by simp)).2⟩, ?_⟩
          intro hg
          rintro w9 h9
          go_simp
          exact ⟨Below.refl _ _, rfl⟩
        dsimp only [List.nil_append, List.cons_append]
        apply relS_det (mask := [false, false, false, false, false, false, false, false, false, false, false, false, false, false, false, false, false, false, false, false, false, false, false, false, false, true, false, false, true]) (x := .bool (!(((qc && !n2) && !n3) && !n4)))
        · rfl
        · kernel_rfl
        · kernel_rfl
        · dsimp only [oblS]
          rintro w9 h9
          obtain ⟨cc, hcc⟩ : ∃ cc, ((qc && !n2) && !n3) = cc := ⟨_, rfl⟩
          rw [hcc]
          clear hcc
          cases cc
          · go_simp
            exact ⟨Below.refl _ _, by simp [IsV]⟩
          · go_simp
            exact ⟨Below.refl _ _, by simp [IsV]⟩
        dsimp only [List.nil_append, List.cons_append]
        apply relS_det (mask := [false, false, false, false, false, false, false, false, false, false, false, false, false, false, false, false, false, false, false, false, false, false, false, false, false, false, false, false, false, true]) (x := .bool (!(((qc && !n2) && !n3) && !n4)))
        · rfl
        · kernel_rfl
        · kernel_rfl
        · dsimp only [oblS]
          rintro w9 h9
          go_simp
          exact ⟨Below.refl _ _, rfl⟩
        dsimp only [List.nil_append, List.cons_append]
        apply relS_if (mask := [false, false, false, false, false, false, false, false, false, false, false, false, false, false, false, false, false, false, false, false, false, false, false, false, false, false, false, false, false, false, true]) (t := 47) (want := false) (g := (((qc && !n2) && !n3) && !n4))
        · rfl
        · kernel_rfl
        · kernel_rfl
        · dsimp only [oblS]
          refine ⟨⟨.bool (!(((qc && !n2) && !n3) && !n4)), by rfl, (guard_free (by simp)).1, (guard_free (by simp)).2⟩, ?_⟩
          intro hg
          rintro w9 h9
          go_simp
          exact ⟨Below.refl _ _, rfl⟩
        dsimp only [List.nil_append, List.cons_append]
        apply relS_if (mask := [false, false, false, false, false, false, false, false, false, false, false, false, false, false, false, false, false, false, false, false, false, false, false, false, false, false, false, false, false, false, true, true]) (t := 47) (want := false) (g := (((qc && !n2) && !n3) && !n4)) (x := .int .i64 y.best)
        · rfl
        · kernel_rfl
        · kernel_rfl
        · dsimp only [oblS]
          refine ⟨⟨.bool (!(((qc && !n2) && !n3) && !n4)), by rfl, (guard_free (by simp)).1, (guard_free (by simp)).2⟩, ?_⟩
          intro hg
          rintro w9 h9
          have hc9 := (bcell h9).1
          go_simp
          exact ⟨Below.refl _ _, rfl⟩
        dsimp only [List.nil_append, List.cons_append]
        apply relS_if (mask := [false, false, false, false, false, false, false, false, false, false, false, false, false, false, false, false, false, false, false, false, false, false, false, false, false, false, false, false, false, false, true, false, true]) (t := 47) (want := false) (g := (((qc && !n2) && !n3) && !n4)) (x := .bool n5)
        · rfl
        · kernel_rfl
        · kernel_rfl
        · dsimp only [oblS]
          refine ⟨⟨.bool (!(((qc && !n2) && !n3) && !n4)), by rfl, (guard_free (by simp)).1, (guard_free (by simp)).2⟩, ?_⟩
          intro hg
          rintro w9 h9
          go_simp
          exact ⟨Below.refl _ _, rfl⟩
        dsimp only [List.nil_append, List.cons_append]
        apply relS_det (mask := [false, false, false, false, false, false, false, false, false, false, false, false, false, false, false, false, false, false, false, false, false, false, false, false, false, false, false, false, false, false, true, false, false, true]) (x := .bool (!((((qc && !n2) && !n3) && !n4) && !n5)))
        · rfl
        · kernel_rfl
        · kernel_rfl
        · dsimp only [oblS]
          rintro w9 h9
          obtain ⟨cc, hcc⟩ : ∃ cc, (((qc && !n2) && !n3) && !n4) = cc := ⟨_, rfl⟩
          rw [hcc]
          clear hcc
          cases cc
          · go_simp
            exact ⟨Below.refl _ _, by simp [IsV]⟩
          · go_simp
            exact ⟨Below.refl _ _, by simp [IsV]⟩
        dsimp only [List.nil_append, List.cons_append]
        apply relS_det (mask := [false, false, false, false, false, false, false, false, false, false, false, false, false, false, false, false, false, false, false, false, false, false, false, false, false, false, false, false, false, false, false, false, false, false, true]) (x := .bool (!((((qc && !n2) && !n3) && !n4) && !n5)))
        · rfl
        · kernel_rfl
        · kernel_rfl
        · dsimp only [oblS]
          rintro w9 h9
          go_simp
          exact ⟨Below.refl _ _, rfl⟩
        dsimp only [List.nil_append, List.cons_append]
        apply relS_if (mask := [false, false, false, false, false, false, false, false, false, false, false, false, false, false, false, false, false, false, false, false, false, false, false, false, false, false, false, false, false, false, false, false, false, false, false, true]) (t := 52) (want := false) (g := ((((qc && !n2) && !n3) && !n4) && !n5))
        · rfl
        · kernel_rfl
        · kernel_rfl
        · dsimp only [oblS]
          refine ⟨⟨.bool (!((((qc && !n2) && !n3) && !n4) && !n5)), by rfl, (guard_free (by simp)).1, (guard_free (by simp)).2⟩, ?_⟩
          intro hg
          rintro w9 h9
          go_simp
          exact ⟨Below.refl _ _, rfl⟩
        dsimp only [List.nil_append, List.cons_append]
        apply relS_if (mask := [false, false, false, false, false, false, false, false, false, false, false, false, false, false, false, false, false, false, false, false, false, false, false, false, false, false, false, false, false, false, false, false, false, false, false, true, true]) (t := 52) (want := false) (g := ((((qc && !n2) && !n3) && !n4) && !n5)) (x := .int .i64 y.best)
        · rfl
        · kernel_rfl
        · kernel_rfl
        · dsimp only [oblS]
          refine ⟨⟨.bool (!((((qc && !n2) && !n3) && !n4) && !n5)), by rfl, (guard_free (by simp)).1, (guard_free (by simp)).2⟩, ?_⟩
          intro hg
          rintro w9 h9
          have hc9 := (bcell h9).1
          go_simp
          exact ⟨Below.refl _ _, rfl⟩
        dsimp only [List.nil_append, List.cons_append]
        apply relS_if (mask := [false, false, false, false, false, false, false, false, false, false, false, false, false, false, false, false, false, false, false, false, false, false, false, false, false, false, false, false, false, false, false, false, false, false, false, true, false, true]) (t := 52) (want := false) (g := ((((qc && !n2) && !n3) && !n4) && !n5)) (x := .bool n6)
        · rfl
        · kernel_rfl
        · kernel_rfl
        · dsimp only [oblS]
          refine ⟨⟨.bool (!((((qc && !n2) && !n3) && !n4) && !n5)), by rfl, (guard_free (by simp)).1, (guard_free (by simp)).2⟩, ?_⟩
          intro hg
          rintro w9 h9
          go_simp
          exact ⟨Below.refl _ _, rfl⟩
        dsimp only [List.nil_append, List.cons_append]
        apply relS_det (mask := [false, false, false, false, false, false, false, false, false, false, false, false, false, false, false, false, false, false, false, false, false, false, false, false, false, false, false, false, false, false, false, false, false, false, false, true, false, false, true]) (x := .bool (!(((((qc && !n2) && !n3) && !n4) && !n5) && !n6)))
        · rfl
        · kernel_rfl
        · kernel_rfl
        · dsimp only [oblS]
          rintro w9 h9
          obtain ⟨cc, hcc⟩ : ∃ cc, ((((qc && !n2) && !n3) && !n4) && !n5) = cc := ⟨_, rfl⟩
          rw [hcc]
          clear hcc
          cases cc
          · go_simp
            exact ⟨Below.refl _ _, by simp [IsV]⟩
          · go_simp
            exact ⟨Below.refl _ _, by simp [IsV]⟩
        dsimp only [List.nil_append, List.cons_append]
        apply relS_det (mask := [false, false, false, false, false, false, false, false, false, false, false, false, false, false, false, false, false, false, false, false, false, false, false, false, false, false, false, false, false, false, false, false, false, false, false, false, false, false, false, true]) (x := .bool (!(((((qc && !n2) && !n3) && !n4) && !n5) && !n6)))
        · rfl
        · kernel_rfl
        · kernel_rfl
        · dsimp only [oblS]
          rintro w9 h9
          go_simp
          exact ⟨Below.refl _ _, rfl⟩
        dsimp only [List.nil_append, List.cons_append]
        apply relS_if (mask := [false, false, false, false, false, false, false, false, false, false, false, false, false, false, false, false, false, false, false, false, false, false, false, false, false, false, false, false, false, false, false, false, false, false, false, false, false, false, false, false, true]) (t := 57) (want := false) (g := (((((qc && !n2) && !n3) && !n4) && !n5) && !n6))
        · rfl
        · kernel_rfl
        · kernel_rfl
        · dsimp only [oblS]
          refine ⟨⟨.bool (!(((((qc && !n2) && !n3) && !n4) && !n5) && !n6)), by rfl, (guard_free (by simp)).1, (guard_free (by simp)).2⟩, ?_⟩
          intro hg
          rintro w9 h9
          go_simp
          exact ⟨Below.refl _ _, rfl⟩
        dsimp only [List.nil_append, List.cons_append]
        apply relS_if (mask := [false, false, false, false, false, false, false, false, false, false, false, false, false, false, false, false, false, false, false, false, false, false, false, false, false, false, false, false, false, false, false, false, false, false, false, false, false, false, false, false, true, true]) (t := 57) (want := false) (g := (((((qc && !n2) && !n3) && !n4) && !n5) && !n6)) (x := .int .i64 y.best)
        · rfl
        · kernel_rfl
        · kernel_rfl
        · dsimp only [oblS]
          refine ⟨⟨.bool (!(((((qc && !n2) && !n3) && !n4) && !n5) && !n6)), by rfl, (guard_free (by simp)).1, (guard_free (by simp)).2⟩, ?_⟩
          intro hg
          rintro w9 h9
          have hc9 := (bcell h9).1
          go_simp
          exact ⟨Below.refl _ _, rfl⟩
        dsimp only [List.nil_append, List.cons_append]
        apply relS_if (mask := [false, false, false, false, false, false, false, false, false, false, false, false, false, false, false, false, false, false, false, false, false, false, false, false, false, false, false, false, false, false, false, false, false, false, false, false, false, false, false, false, true, false, true]) (t := 57) (want := false) (g := (((((qc && !n2) && !n3) && !n4) && !n5) && !n6)) (x := .bool m1)
        · rfl
        · kernel_rfl
        · kernel_rfl
        · dsimp only [oblS]
          refine ⟨⟨.bool (!(((((qc && !n2) && !n3) && !n4) && !n5) && !n6)), by rfl, (guard_free (by simp)).1, (guard_free (by simp)).2⟩, ?_⟩
          intro hg
          rintro w9 h9
          go_simp
          exact ⟨Below.refl _ _, rfl⟩
        dsimp only [List.nil_append, List.cons_append]
        apply relS_if (mask := [false, false, false, false, false, false, false, false, false, false, false, false, false, false, false, false, false, false, false, false, false, false, false, false, false, false, false, false, false, false, false, false, false, false, false, false, false, false, false, false, true, false, false, false]) (t := 57) (want := false) (g := (((((qc && !n2) && !n3) && !n4) && !n5) && !n6))
        · rfl
        · kernel_rfl
        · kernel_rfl
        · dsimp only [oblS]
          refine ⟨⟨.bool (!(((((qc && !n2) && !n3) && !n4) && !n5) && !n6)), by rfl, (guard_free (by simp)).1, (guard_free (by simp)).2⟩, ?_⟩
          intro hg
          rintro w9 h9
          go_simp
          exact ⟨Below.refl _ _, rfl⟩
        dsimp only [List.nil_append, List.cons_append]
        apply relS_if (mask := [false, false, false, false, false, false, false, false, false, false, false, false, false, false, false, false, false, false, false, false, false, false, false, false, false, false, false, false, false, false, false, false, false, false, false, false, false, false, false, false, true, false, false, false, true]) (t := 57) (want := false) (g := (((((qc && !n2) && !n3) && !n4) && !n5) && !n6)) (x := .int .i64 y.tries)
        · rfl
        · kernel_rfl
        · kernel_rfl
        · dsimp only [oblS]
          refine ⟨⟨.bool (!(((((qc && !n2) && !n3) && !n4) && !n5) && !n6)), by rfl, (guard_free (by simp)).1, (guard_free (by simp)).2⟩, ?_⟩
          intro hg
          rintro w9 h9
          have hc9 := (bcell h9).1
          go_simp
          exact ⟨Below.refl _ _, rfl⟩
        dsimp only [List.nil_append, List.cons_append]
        apply relS_if (mask := [false, false, false, false, false, false, false, false, false, false, false, false, false, false, false, false, false, false, false, false, false, false, false, false, false, false, false, false, false, false, false, false, false, false, false, false, false, false, false, false, true, false, false, false, false, true]) (t := 57) (want := false) (g := (((((qc && !n2) && !n3) && !n4) && !n5) && !n6)) (x := .bool m2)
        · rfl
        · kernel_rfl
        · kernel_rfl
        · dsimp only [oblS]
          refine ⟨⟨.bool (!(((((qc && !n2) && !n3) && !n4) && !n5) && !n6)), by rfl, (guard_free (by simp)).1, (guard_free (by simp)).2⟩, ?_⟩
          intro hg
          rintro w9 h9
          go_simp
          exact ⟨Below.refl _ _, rfl⟩
        dsimp only [List.nil_append, List.cons_append]
        apply relS_if (mask := [false, false, false, false, false, false, false, false, false, false, false, false, false, false, false, false, false, false, false, false, false, false, false, false, false, false, false, false, false, false, false, false, false, false, false, false, false, false, false, false, true, false, false, true, false, false, true]) (t := 57) (want := false) (g := (((((qc && !n2) && !n3) && !n4) && !n5) && !n6)) (x := .bool n7)
        · rfl
        · kernel_rfl
        · kernel_rfl
        · dsimp only [oblS]
          refine ⟨⟨.bool (!(((((qc && !n2) && !n3) && !n4) && !n5) && !n6)), by rfl, (guard_free (by simp)).1, (guard_free (by simp)).2⟩, ?_⟩
          intro hg
          rintro w9 h9
          go_simp
          exact ⟨Below.refl _ _, by show _ = _; rw [← HN7.out]; cases m1 <;> cases m2 <;> rfl⟩
        dsimp only [List.nil_append, List.cons_append]
        apply relS_det (mask := [false, false, false, false, false, false, false, false, false, false, false, false, false, false, false, false, false, false, false, false, false, false, false, false, false, false, false, false, false, false, false, false, false, false, false, false, false, false, false, false, true, false, false, false, false, false, false, true]) (x := .bool (!((((((qc && !n2) && !n3) && !n4) && !n5) && !n6) && !n7)))
        · rfl
        · kernel_rfl
        · kernel_rfl
        · dsimp only [oblS]
          rintro w9 h9
          obtain ⟨cc, hcc⟩ : ∃ cc, (((((qc && !n2) && !n3) && !n4) && !n5) && !n6) = cc := ⟨_, rfl⟩
          rw [hcc]
          clear hcc
          cases cc
          · go_simp
            exact ⟨Below.refl _ _, by simp [IsV]⟩
          · go_simp
            exact ⟨Below.refl _ _, by simp [IsV]⟩
        dsimp only [List.nil_append, List.cons_append]
        refine relS_endK [false, false, false, false, false, false, false, false, false, false, false, false, false, false, false, false, false, false, false, false, false, false, false, false, false, false, false, false, false, false, false, false, false, false, false, false, false, false, false, false, false, false, false, false, false, false, false, false, true] (by rfl) (by rfl) ?_
        dsimp only [finK]
        intro q0 q1 q2 q3 q4 q5 q6 q7 q8 q9 q10 q11 q12 q13 q14 q15 q16 q17 q18 q19 q20 q21 q22 q23 q24 q25 q26 q27 q28 q29 q30 q31 q32 q33 q34 q35 q36 q37 q38 q39 q40 q41 q42 q43 q44 q45 q46 q47
        -- rintro  w8 hb
        intro w8 h8
        have hb8 := hb6.trans (h8.mono hb6.size)
        have bw8 := bw6.trans (h8.mono bw6.size)
        obtain ⟨bad, hbad⟩ : ∃ q, (!((((((qc && !n2) && !n3) && !n4) && !n5) && !n6) && !n7)) = q := ⟨_, rfl⟩
        have HS : Hid (fitsL (-1) s.seen = (!bad && fitsL y.course (s.seen.drop (k + 1)))) := by
          show _ = _
          have ha : withinB y.course (z.course + 1) 4095 = (qc && !n2) := by
            rw [← HQC.out, ← HN2.out, Bool.eq_iff_iff]
            simp [courseB, withinB] <;> omega
          have hb : withinB y.tries 0 100 = (!n3 && !n4) := by
            rw [← HN3.out, ← HN4.out, Bool.eq_iff_iff]
            simp [withinB]
          have hc : withinB y.best (-1) 12 = (!n5 && !n6) := by
            rw [← HN5.out, ← HN6.out, Bool.eq_iff_iff]
            simp [withinB]
          have hd : (decide (0 ≤ y.best) == decide (1 ≤ y.tries)) = !n7 := by
            rw [← HN7.out, HM1.out, HM2.out]
            cases m1 <;> cases m2 <;> rfl
          rw [HA.out, HY.out, ← hbad, ha, hb, hc, hd]
          simp [Bool.and_assoc]
        have HC : Hid (bad = false → -1 ≤ y.course ∧ y.course ≤ 4095) := fun h => by
          have hq : qc = true := by
            rw [h] at hbad
            cases qc
            · simp at hbad
            · rfl
          rw [← HQC.out] at hq
          simp [courseB, withinB] at hq
          omega
        rw [hbad]
        clear hbad hn3 hn4 hn5 hn6 hn7 hm1 hm2
        cases bad
        · have HT : Hid (fitsL (-1) s.seen = fitsL y.course (s.seen.drop (k + 1))) := by show _ = _; rw [HS.out]; rfl
          obtain ⟨hy1, hy2⟩ := HC.out rfl
          go_simp
          go_wp2_with fail
          go_roundw
          case rel => exact ⟨k + 1, y.course, by omega, by go_num, hy1, hy2, fun h => by omega, fun k' h => ⟨y, by rw [show k' = k by omega]; exact HZ.out, rfl⟩, HT.out, hb8⟩
          case measure => simp [intOf]; omega
        · have HT : Hid (fitsB s = false) := by show _ = _; simp [fitsB, HS.out]
          go_simp
          go_wp2_with fail
          go_ret
          exact ⟨ret_int (by rw [HT.out]; rfl), bw8⟩
    · obtain rfl : k = s.sn := by omega
      have hkk : ¬ ((s.sn : Int) < s.sn) := by omega
      have HT : Hid (fitsL (-1) s.seen = true) := by show _ = _; rw [HA.out, List.drop_of_length_le (by rw [← HN.out]; omega)]; rfl
      obtain ⟨qm, hqm⟩ : ∃ q, meanB s.num s.den = q := ⟨_, rfl⟩
      have HQM := hidp hqm
      clear hqm
      by_cases h1 : s.earned < 0
      · have HR : Hid (fitsB s = false) := by show _ = _; simp [fitsB, withinB]; intro _ h; omega
        go_wp2_with fail
        go_ret
        exact ⟨ret_int (by rw [HR.out]; rfl), bw⟩
      by_cases h2 : 10000 < s.earned
      · have HR : Hid (fitsB s = false) := by show _ = _; simp [fitsB, withinB]; intro _ _ h; omega
        go_wp2_with fail
        go_ret
        exact ⟨ret_int (by rw [HR.out]; rfl), bw⟩
      have HR : Hid (fitsB s = qm) := by show _ = _; simp [fitsB, withinB, HT.out, HQM.out]; intros; omega
      cases qm
      all_goals
        go_wp2_with (go_at_call 50; refine (vmean_any _ _ _).mono ?_; rintro e w1 ⟨rfl, hb1⟩; rw [HQM.out])
        go_ret
        exact ⟨ret_int (by rw [HR.out]; rfl), bw.trans (hb1.mono bw.size)⟩
end Go.Proofs.YtbmbpannhncpjaaDoor
