/- RulesBoolean walked (printed by tools/gen87.py). -/
import Derived.Test.YtbmbpannhncpjaaDoorU20
import Derived.Test.YtbmbpannhncpjaaDoorU21
import Derived.Test.YtbmbpannhncpjaaDoorU12
import Derived.Test.YtbmbpannhncpjaaDoorU11
import Derived.Test.YtbmbpannhncpjaaDoorUR
import Derived.Test.YtbmbpannhncpjaaDoorInApp
import Derived.Test.YtbmbpannhncpjaaDoorRelT
namespace Go.Proofs.YtbmbpannhncpjaaDoor
open Go.RowKit Go.Sort

set_option maxRecDepth 100000 in
set_option maxHeartbeats 8000000 in
theorem boolean_calls (hh : Nat) (A : Option Addr) (n c : Nat) (l : List Ru) (s : Si) (z : Int) (w : World) (hz0 : 0 ≤ z) (hz1 : z ≤ 255) (hl : ruSl hh w w.heap.size A n c l) (hs : SiIn w w.heap.size s) (hkk : KindsAt w) :
    Calls Tryd.prog 5 #[.slice A n c, .agg #[.slice s.sA s.sn s.sc, .int .i64 s.earned, .int .i64 s.num, .int .i64 s.den], .int .u8 z] w fun e w' => e = .returned (.bool true) ∧ Below w.heap.size w w' := by
  have lk := hkk.lt
  have HKK := hidp hkk
  have hcs := hs.2.2.1
  have hls := hs.2.1
  have hcl := hl.2.2.1
  have hll := hl.2.1
  have hn := hl.1
  have HN := hidp hn
  have HL : Hid (∀ W, Below w.heap.size w W → ruSl hh W W.heap.size A n c l) := fun W h => Rows.keep (ruStable hh) hl h.size h.block
  have HSa : Hid (∀ W, Below w.heap.size w W → SiIn W W.heap.size s) := fun W h => hs.keep h.size h.block
  clear hl hs hkk hn

  obtain ⟨W0, hW0⟩ : ∃ W0, (w.alloc (.cells #[.slice s.sA s.sn s.sc, .int .i64 s.earned, .int .i64 s.num, .int .i64 s.den] 29)) = W0 := ⟨_, rfl⟩
  have hBW : Below w.heap.size w W0 := by rw [← hW0]; exact ((Below.refl _ w).alloc (by first | exact Nat.le_refl _ | (simp <;> omega)) _)
  have g0 : W0.heap[w.heap.size]? = some (.cells #[.slice s.sA s.sn s.sc, .int .i64 s.earned, .int .i64 s.num, .int .i64 s.den] 29 (0, 0)) := by
    rw [← hW0]
    have := World.alloc_heap_new w (.cells #[.slice s.sA s.sn s.sc, .int .i64 s.earned, .int .i64 s.num, .int .i64 s.den] 29)
    exact this
  have HW0 := hidp hW0
  have G0 := hidp g0
  have l0 := lt_of_heap g0
  have HBW := hidp hBW
  have z0 := cell_of_heap (o := 0) g0
  have z1 := cell_of_heap (o := 1) g0
  have z2 := cell_of_heap (o := 2) g0
  have z3 := cell_of_heap (o := 3) g0
  simp only [List.getElem?_toArray, List.getElem?_cons_zero, List.getElem?_cons_succ] at z0 z1 z2 z3
  clear hW0 g0
  go_enter Tryd.func5, Tryd.ntmps5
  go_wp2_with fail
  rw [HW0.out]
  refine (sane_any W0 (HKK.out.below HBW.out lk)).mono ?_
  rintro e w1 ⟨rfl, h1⟩
  have b1 := HBW.out.trans (h1.mono HBW.out.size)
  clear z0 z1 z2 z3
  have e0 := (h1.block _ l0).trans G0.out
  have z0 := cell_of_heap (o := 0) e0
  have z1 := cell_of_heap (o := 1) e0
  have z2 := cell_of_heap (o := 2) e0
  have z3 := cell_of_heap (o := 3) e0
  simp only [List.getElem?_toArray, List.getElem?_cons_zero, List.getElem?_cons_succ] at z0 z1 z2 z3
  have m0 := lt_of_heap e0
  clear e0
  go_wp2_with fail
  go_loopw [7, 8] (fun ct i wr => ∃ (q : Nat), q ≤ n ∧ i = .int .i64 q ∧ ct = .int .i64 (cntR s (l.take q) : Nat) ∧ Below w1.heap.size w1 wr) (fun _ i _ => n - (intOf i).toNat)
  case atStart => exact ⟨0, by omega, rfl, rfl, Below.refl _ _⟩
  case round =>
    obtain ⟨q, hq, rfl, rfl, hbe⟩ := hrel
    have hw := h1.trans (hbe.mono h1.size)
    have bw := HBW.out.trans (hw.mono HBW.out.size)
    obtain ⟨cnt, hcnt⟩ : ∃ m, cntR s (l.take q) = m := ⟨_, rfl⟩
    have hcn : cnt ≤ n := by
      have h := cntR_le s (l.take q)
      have h2 : (l.take q).length ≤ q := by simp; omega
      omega
    have HCN := hidp hcnt
    rw [hcnt]
    clear hcnt
    clear z0 z1 z2 z3 m0
    have e0 := (hw.block _ l0).trans G0.out
    have z0 := cell_of_heap (o := 0) e0
    have z1 := cell_of_heap (o := 1) e0
    have z2 := cell_of_heap (o := 2) e0
    have z3 := cell_of_heap (o := 3) e0
    simp only [List.getElem?_toArray, List.getElem?_cons_zero, List.getElem?_cons_succ] at z0 z1 z2 z3
    have m0 := lt_of_heap e0
    clear e0
    by_cases hlt : q < n
    · skip
      obtain ⟨h', b, off, y, e1, e2, hb', hzk, hyr, c0, c1, c2, c3, c4, c5⟩ := ruSl.get (HL.out wr bw) hlt
      have HZ := hidp hzk
      subst e2
      have hqn : (q : Int) < n := by omega
      have hbl := lt_of_cell c0
      have hR0 : ∀ W, Below wr.heap.size wr W → RuIn h' W W.heap.size y := fun W h => hyr.keep h.size h.block
      have HR0 := hidp hR0
      have HE1 := hidp e1
      obtain ⟨q0, hq0⟩ : ∃ q, fewB y = q := ⟨_, rfl⟩
      have hc := vFew_any h' y wr (hR0 wr (Below.refl _ _))
      rw [hq0] at hc
      have HC := hidp hc
      clear hc hq0 hR0 hyr hzk e1
      cases q0
      · go_wp2_with fail
        refine HC.out.mono ?_
        rintro e w2 ⟨rfl, h2⟩
        go_wp2_with fail
        go_ret
        exact ⟨rfl, bw.trans (h2.mono bw.size)⟩
      by_cases hl8 : 8 < n
      · go_wp2_with fail
        refine HC.out.mono ?_
        rintro e w2 ⟨rfl, h2⟩
        go_wp2_with fail
        go_ret
        exact ⟨rfl, bw.trans (h2.mono bw.size)⟩
      by_cases hl50 : 50 < s.sn
      · go_wp2_with fail
        refine HC.out.mono ?_
        rintro e w2 ⟨rfl, h2'⟩
        have h2 := hw.trans (h2'.mono hw.size)
        clear z0 z1 z2 z3 m0
        have e0 := (h2.block _ l0).trans G0.out
        have z0 := cell_of_heap (o := 0) e0
        have z1 := cell_of_heap (o := 1) e0
        have z2 := cell_of_heap (o := 2) e0
        have z3 := cell_of_heap (o := 3) e0
        simp only [List.getElem?_toArray, List.getElem?_cons_zero, List.getElem?_cons_succ] at z0 z1 z2 z3
        have m0 := lt_of_heap e0
        clear e0
        go_wp2_with fail
        go_ret
        exact ⟨rfl, bw.trans (h2'.mono bw.size)⟩
      obtain ⟨qc, hqc⟩ : ∃ q, checkB y = q := ⟨_, rfl⟩
      obtain ⟨qf, hqf⟩ : ∃ q, fitsB s = q := ⟨_, rfl⟩
      have HK : Hid (∀ W, Below wr.heap.size wr W → Calls Tryd.prog 20 #[.agg #[.int .i64 y.op, .int .i64 y.course, .string y.name, .int .i64 y.n, .int .i64 y.d, .slice y.kA y.kn y.kc]] W fun e w' => e = .returned (.int .i64 (okOr qc 120)) ∧ Below W.heap.size W w') := fun W h => by
        have hc := uCheck_any h' y W (HR0.out W h) (HKK.out.below (bw.trans (h.mono bw.size)) lk)
        rw [hqc] at hc; exact hc
      have HF : Hid (∀ W, Below wr.heap.size wr W → Calls Tryd.prog 21 #[.agg #[.slice s.sA s.sn s.sc, .int .i64 s.earned, .int .i64 s.num, .int .i64 s.den]] W fun e w' => e = .returned (.int .i64 (okOr qf 120)) ∧ Below W.heap.size W w') := fun W h => by
        have hc := uFits_any s W (HSa.out W (bw.trans (h.mono bw.size)))
        rw [hqf] at hc; exact hc
      have HQC := hidp hqc
      have HQF := hidp hqf
      clear hqc hqf
      go_wp2_with fail
      refine HC.out.mono ?_
      rintro e w2 ⟨rfl, h2'⟩
      have bw2 := bw.trans (h2'.mono bw.size)
      have hbe2 := hbe.trans (h2'.mono hbe.size)
      have hwB := hw.trans (h2'.mono hw.size)
      have bwB := bw.trans (h2'.mono bw.size)
      have cz := HL.out w2 bwB
      clear c0 c1 c2 c3 c4 c5 hb' hbl
      obtain ⟨h3, b3, off3, y3, e13, e23, hb', hz3, hyr3, c0, c1, c2, c3, c4, c5⟩ := ruSl.get cz hlt
      obtain ⟨rfl, rfl⟩ : b = b3 ∧ off = off3 := by simpa using e23
      obtain rfl : y = y3 := by rw [HZ.out] at hz3; exact Option.some.inj hz3
      have hbl := lt_of_cell c0
      clear hz3 hyr3 cz e13 e23
      clear z0 z1 z2 z3 m0
      have e0 := (hwB.block _ l0).trans G0.out
      have z0 := cell_of_heap (o := 0) e0
      have z1 := cell_of_heap (o := 1) e0
      have z2 := cell_of_heap (o := 2) e0
      have z3 := cell_of_heap (o := 3) e0
      simp only [List.getElem?_toArray, List.getElem?_cons_zero, List.getElem?_cons_succ] at z0 z1 z2 z3
      have m0 := lt_of_heap e0
      clear e0
      clear hwB
      cases qc
      · dsimp only [okOr] at HK
        go_wp2_with fail
        refine (HK.out w2 h2').mono ?_
        rintro e w3 ⟨rfl, h3⟩
        go_wp2_with fail
        go_ret
        exact ⟨rfl, bw2.trans (h3.mono bw2.size)⟩
      dsimp only [okOr] at HK
      go_wp2_with fail
      refine (HK.out w2 h2').mono ?_
      rintro e w3 ⟨rfl, h3''⟩
      have h3' := h2'.trans (h3''.mono h2'.size)
      have bw3 := bw.trans (h3'.mono bw.size)
      have hbe3 := hbe.trans (h3'.mono hbe.size)
      have hwB := hw.trans (h3'.mono hw.size)
      have bwB := bw.trans (h3'.mono bw.size)
      have cz := HL.out w3 bwB
      clear c0 c1 c2 c3 c4 c5 hb' hbl
      obtain ⟨h3, b3, off3, y3, e13, e23, hb', hz3, hyr3, c0, c1, c2, c3, c4, c5⟩ := ruSl.get cz hlt
      obtain ⟨rfl, rfl⟩ : b = b3 ∧ off = off3 := by simpa using e23
      obtain rfl : y = y3 := by rw [HZ.out] at hz3; exact Option.some.inj hz3
      have hbl := lt_of_cell c0
      clear hz3 hyr3 cz e13 e23
      clear z0 z1 z2 z3 m0
      have e0 := (hwB.block _ l0).trans G0.out
      have z0 := cell_of_heap (o := 0) e0
      have z1 := cell_of_heap (o := 1) e0
      have z2 := cell_of_heap (o := 2) e0
      have z3 := cell_of_heap (o := 3) e0
      simp only [List.getElem?_toArray, List.getElem?_cons_zero, List.getElem?_cons_succ] at z0 z1 z2 z3
      have m0 := lt_of_heap e0
      clear e0
      clear hwB
      cases qf
      · dsimp only [okOr] at HF
        go_wp2_with fail
        refine (HF.out w3 h3').mono ?_
        rintro e w4 ⟨rfl, h4⟩
        go_wp2_with fail
        go_ret
        exact ⟨rfl, bw3.trans (h4.mono bw3.size)⟩
      dsimp only [okOr] at HF
      go_wp2_with fail
      refine (HF.out w3 h3').mono ?_
      rintro e w4 ⟨rfl, h4''⟩
      have h4' := h3'.trans (h4''.mono h3'.size)
      have bw4 := bw.trans (h4'.mono bw.size)
      have hbe4 := hbe.trans (h4'.mono hbe.size)
      have hwB := hw.trans (h4'.mono hw.size)
      have bwB := bw.trans (h4'.mono bw.size)
      have cz := HL.out w4 bwB
      clear c0 c1 c2 c3 c4 c5 hb' hbl
      obtain ⟨h3, b3, off3, y3, e13, e23, hb', hz3, hyr3, c0, c1, c2, c3, c4, c5⟩ := ruSl.get cz hlt
      obtain ⟨rfl, rfl⟩ : b = b3 ∧ off = off3 := by simpa using e23
      obtain rfl : y = y3 := by rw [HZ.out] at hz3; exact Option.some.inj hz3
      have hbl := lt_of_cell c0
      clear hz3 hyr3 cz e13 e23
      clear z0 z1 z2 z3 m0
      have e0 := (hwB.block _ l0).trans G0.out
      have z0 := cell_of_heap (o := 0) e0
      have z1 := cell_of_heap (o := 1) e0
      have z2 := cell_of_heap (o := 2) e0
      have z3 := cell_of_heap (o := 3) e0
      simp only [List.getElem?_toArray, List.getElem?_cons_zero, List.getElem?_cons_succ] at z0 z1 z2 z3
      have m0 := lt_of_heap e0
      clear e0
      clear hwB
      obtain ⟨W5, hW5⟩ : ∃ W5, (w4.alloc (.cells #[.int .i64 y.op, .int .i64 y.course, .string y.name, .int .i64 y.n, .int .i64 y.d, .slice y.kA y.kn y.kc] 24)).alloc (.cells #[.int .i64 4, .int .i64 0, .string ⟨#[]⟩, .int .i64 0, .int .i64 0, .slice (some ⟨w4.heap.size, 0, none⟩) 1 1] 24) = W5 := ⟨_, rfl⟩
      have hB5 : Below w4.heap.size w4 W5 := by rw [← hW5]; exact ((Below.refl _ w4).alloc (Nat.le_refl _) _).alloc (by simp) _
      have k0 : W5.heap[w4.heap.size]? = some (.cells #[.int .i64 y.op, .int .i64 y.course, .string y.name, .int .i64 y.n, .int .i64 y.d, .slice y.kA y.kn y.kc] 24 (0, 0)) := by
        rw [← hW5, Below.heap_alloc _ _ _ (by simp)]
        exact World.alloc_heap_new _ _
      have k1 : W5.heap[w4.heap.size + 1]? = some (.cells #[.int .i64 4, .int .i64 0, .string ⟨#[]⟩, .int .i64 0, .int .i64 0, .slice (some ⟨w4.heap.size, 0, none⟩) 1 1] 24 (0, 0)) := by
        rw [← hW5]
        have := World.alloc_heap_new (w4.alloc (.cells #[.int .i64 y.op, .int .i64 y.course, .string y.name, .int .i64 y.n, .int .i64 y.d, .slice y.kA y.kn y.kc] 24)) (.cells #[.int .i64 4, .int .i64 0, .string ⟨#[]⟩, .int .i64 0, .int .i64 0, .slice (some ⟨w4.heap.size, 0, none⟩) 1 1] 24)
        rwa [World.size_alloc] at this
      have h5' := h4'.trans (hB5.mono h4'.size)
      have bw5 := bw.trans (h5'.mono bw.size)
      have hbe5 := hbe.trans (h5'.mono hbe.size)
      have HRn : Hid (∀ W, Below W5.heap.size W5 W → RuIn (h' + 1) W W.heap.size (notR w4.heap.size y)) := fun W h => (notR_in (h := h') (x := y) k0 (lt_of_heap k0) (HR0.out W5 h5')).keep h.size h.block
      have HW5 := hidp hW5
      have HK1 := hidp k1
      clear hW5 k0 k1 hB5
      go_wp2_with fail
      rw [HW5.out]
      obtain ⟨B9, hB9⟩ : ∃ b, w4.heap.size + 1 = b := ⟨_, rfl⟩
      rw [hB9]
      have k1 := HK1.out
      rw [hB9] at k1
      clear hB9
      have hwB := hw.trans (h5'.mono hw.size)
      have bwB := bw.trans (h5'.mono bw.size)
      have cz := HL.out W5 bwB
      clear c0 c1 c2 c3 c4 c5 hb' hbl
      obtain ⟨h3, b3, off3, y3, e13, e23, hb', hz3, hyr3, c0, c1, c2, c3, c4, c5⟩ := ruSl.get cz hlt
      obtain ⟨rfl, rfl⟩ : b = b3 ∧ off = off3 := by simpa using e23
      obtain rfl : y = y3 := by rw [HZ.out] at hz3; exact Option.some.inj hz3
      have hbl := lt_of_cell c0
      clear hz3 hyr3 cz e13 e23
      clear z0 z1 z2 z3 m0
      have e0 := (hwB.block _ l0).trans G0.out
      have z0 := cell_of_heap (o := 0) e0
      have z1 := cell_of_heap (o := 1) e0
      have z2 := cell_of_heap (o := 2) e0
      have z3 := cell_of_heap (o := 3) e0
      simp only [List.getElem?_toArray, List.getElem?_cons_zero, List.getElem?_cons_succ] at z0 z1 z2 z3
      have m0 := lt_of_heap e0
      clear e0
      clear hwB
      have n0 := cell_of_heap (o := 0) k1
      have n1 := cell_of_heap (o := 1) k1
      have n2 := cell_of_heap (o := 2) k1
      have n3 := cell_of_heap (o := 3) k1
      have n4 := cell_of_heap (o := 4) k1
      have n5 := cell_of_heap (o := 5) k1
      simp only [List.getElem?_toArray, List.getElem?_cons_zero, List.getElem?_cons_succ] at n0 n1 n2 n3 n4 n5
      have ln := lt_of_heap k1
      clear k1
      obtain ⟨qn, hqn'⟩ : ∃ q, checkB (notR w4.heap.size y) = q := ⟨_, rfl⟩
      obtain ⟨v, hv⟩ : ∃ v, valR s y = v := ⟨_, rfl⟩
      have HKn : Hid (∀ W, Below W5.heap.size W5 W → Calls Tryd.prog 20 #[.agg #[.int .i64 4, .int .i64 0, .string ⟨#[]⟩, .int .i64 0, .int .i64 0, .slice (some ⟨w4.heap.size, 0, none⟩) 1 1]] W fun e w' => e = .returned (.int .i64 (okOr qn 120)) ∧ Below W.heap.size W w') := fun W h => by
        have hc := uCheck_any (h' + 1) (notR w4.heap.size y) W (HRn.out W h) (HKK.out.below (bw5.trans (h.mono bw5.size)) lk)
        rw [hqn'] at hc; exact hc
      have HHn : Hid (qn = true → ∀ W, Below W5.heap.size W5 W → Calls Tryd.prog 22 #[.agg #[.int .i64 4, .int .i64 0, .string ⟨#[]⟩, .int .i64 0, .int .i64 0, .slice (some ⟨w4.heap.size, 0, none⟩) 1 1], .agg #[.slice s.sA s.sn s.sc, .int .i64 s.earned, .int .i64 s.num, .int .i64 s.den]] W fun e w' => e = .returned (.bool (!v)) ∧ Below W.heap.size W w') := fun hq W h => by
        have hc := holds12_any (h' + 1) (notR w4.heap.size y) s W (HRn.out W h) (HSa.out W (bw5.trans (h.mono bw5.size))) (HKK.out.below (bw5.trans (h.mono bw5.size)) lk)
        rw [holdsB_eq (hqn'.trans hq) HQF.out, valR_notR, hv] at hc; exact hc
      have HHy : Hid (∀ W, Below wr.heap.size wr W → Calls Tryd.prog 22 #[.agg #[.int .i64 y.op, .int .i64 y.course, .string y.name, .int .i64 y.n, .int .i64 y.d, .slice y.kA y.kn y.kc], .agg #[.slice s.sA s.sn s.sc, .int .i64 s.earned, .int .i64 s.num, .int .i64 s.den]] W fun e w' => e = .returned (.bool v) ∧ Below W.heap.size W w') := fun W h => by
        have hc := holds12_any h' y s W (HR0.out W h) (HSa.out W (bw.trans (h.mono bw.size))) (HKK.out.below (bw.trans (h.mono bw.size)) lk)
        rw [holdsB_eq HQC.out HQF.out, hv] at hc; exact hc
      have HS : Hid (cntR s (l.take (q + 1)) = cnt + if v = true then 1 else 0) := by show _ = _; rw [cntR_step HZ.out, HCN.out, hv]
      clear hqn' hv
      have HH5 := hidp h5'
      cases qn
      · skip
        dsimp only [okOr] at HKn
        refine wp_region_S W5.heap.size 15 (fun _ => false) (Nat.le_refl _) (by kernel_rfl) (by kernel_rfl) (by kernel_rfl) ?_
        dsimp only [List.take, List.drop]
        apply relS_det (mask := [])
        · rfl
        · kernel_rfl
        · kernel_rfl
        · dsimp only [oblS]
          rintro w9 h9
          have hc9 := (bcell h9).1
          go_simp
          exact ⟨Below.refl _ _, rfl⟩
        dsimp only [List.nil_append, List.cons_append]
        apply relS_det (mask := [true]) (x := .int .i64 120)
        · rfl
        · kernel_rfl
        · kernel_rfl
        · dsimp only [oblS]
          rintro w9 h9
          have hc9 := (bcell h9).1
          go_simp
          refine (HKn.out w9 h9).mono ?_
          rintro e w1 ⟨rfl, hb⟩
          exact ⟨_, rfl, hb, rfl⟩
        dsimp only [List.nil_append, List.cons_append]
        apply relS_det (mask := [false, true])
        · rfl
        · kernel_rfl
        · kernel_rfl
        · dsimp only [oblS]
          rintro w9 h9
          go_simp
          exact ⟨Below.refl _ _, rfl⟩
        dsimp only [List.nil_append, List.cons_append]
        apply relS_det (mask := [false, false, true])
        · rfl
        · kernel_rfl
        · kernel_rfl
        · dsimp only [oblS]
          rintro w9 h9
          go_simp
          exact ⟨Below.refl _ _, rfl⟩
        dsimp only [List.nil_append, List.cons_append]
        apply relS_not (mask := [false, false, false, true]) (t := 60) (want := true) (hf := by rfl) (hg := by kernel_rfl) (hm := by kernel_rfl)
        · rfl
        dsimp only [List.nil_append, List.cons_append]
        apply relS_not (mask := [false, false, false, true, false]) (t := 60) (want := true) (hf := by rfl) (hg := by kernel_rfl) (hm := by kernel_rfl)
        · rfl
        dsimp only [List.nil_append, List.cons_append]
        apply relS_not (mask := [false, false, false, true, true, true]) (t := 60) (want := true) (hf := by rfl) (hg := by kernel_rfl) (hm := by kernel_rfl)
        · rfl
        dsimp only [List.nil_append, List.cons_append]
        apply relS_not (mask := [false, false, false, true, false, false, false]) (t := 60) (want := true) (hf := by rfl) (hg := by kernel_rfl) (hm := by kernel_rfl)
        · rfl
        dsimp only [List.nil_append, List.cons_append]
        apply relS_not (mask := [false, false, false, true, false, false, false, false]) (t := 60) (want := true) (hf := by rfl) (hg := by kernel_rfl) (hm := by kernel_rfl)
        · rfl
        dsimp only [List.nil_append, List.cons_append]
        apply relS_not (mask := [false, false, false, true, false, false, false, true, true]) (t := 60) (want := true) (hf := by rfl) (hg := by kernel_rfl) (hm := by kernel_rfl)
        · rfl
        dsimp only [List.nil_append, List.cons_append]
        apply relS_not (mask := [false, false, false, true, false, false, false, false, false, true]) (t := 60) (want := true) (hf := by rfl) (hg := by kernel_rfl) (hm := by kernel_rfl)
        · rfl
        dsimp only [List.nil_append, List.cons_append]
        apply relS_not (mask := [false, false, false, true, false, false, false, false, false, false, false]) (t := 60) (want := true) (hf := by rfl) (hg := by kernel_rfl) (hm := by kernel_rfl)
        · rfl
        dsimp only [List.nil_append, List.cons_append]
        apply relS_not (mask := [false, false, false, true, false, false, false, false, false, false, true, true]) (t := 60) (want := true) (hf := by rfl) (hg := by kernel_rfl) (hm := by kernel_rfl)
        · rfl
        dsimp only [List.nil_append, List.cons_append]
        apply relS_not (mask := [false, false, false, true, false, false, true, false, false, false, false, false, true]) (t := 60) (want := true) (hf := by rfl) (hg := by kernel_rfl) (hm := by kernel_rfl)
        · rfl
        dsimp only [List.nil_append, List.cons_append]
        apply relS_det (mask := [false, false, false, true, false, false, false, false, false, false, false, false, false, true])
        · rfl
        · kernel_rfl
        · kernel_rfl
        · dsimp only [oblS]
          rintro w9 h9
          go_simp
          exact ⟨Below.refl _ _, rfl⟩
        dsimp only [List.nil_append, List.cons_append]
        refine relS_end (by rfl) ?_
        dsimp only [finS]
        -- rintro  w8 hb
        rintro w6 h6
        have h6' := h5'.trans (h6.mono h5'.size)
        have bw6 := bw.trans (h6'.mono bw.size)
        have hbe6 := hbe.trans (h6'.mono hbe.size)
        clear n0 n1 n2 n3 n4 n5 ln
        have hwB := hw.trans (h6'.mono hw.size)
        have bwB := bw.trans (h6'.mono bw.size)
        have cz := HL.out w6 bwB
        clear c0 c1 c2 c3 c4 c5 hb' hbl
        obtain ⟨h3, b3, off3, y3, e13, e23, hb', hz3, hyr3, c0, c1, c2, c3, c4, c5⟩ := ruSl.get cz hlt
        obtain ⟨rfl, rfl⟩ : b = b3 ∧ off = off3 := by simpa using e23
        obtain rfl : y = y3 := by rw [HZ.out] at hz3; exact Option.some.inj hz3
        have hbl := lt_of_cell c0
        clear hz3 hyr3 cz e13 e23
        clear z0 z1 z2 z3 m0
        have e0 := (hwB.block _ l0).trans G0.out
        have z0 := cell_of_heap (o := 0) e0
        have z1 := cell_of_heap (o := 1) e0
        have z2 := cell_of_heap (o := 2) e0
        have z3 := cell_of_heap (o := 3) e0
        simp only [List.getElem?_toArray, List.getElem?_cons_zero, List.getElem?_cons_succ] at z0 z1 z2 z3
        have m0 := lt_of_heap e0
        clear e0
        clear hwB
        go_simp
        iterate 6
          go_step
          try go_simp
        refine wp_region_S w6.heap.size 6 (fun _ => false) (Nat.le_refl _) (by kernel_rfl) (by kernel_rfl) (by kernel_rfl) ?_
        dsimp only [List.take, List.drop]
        apply relS_det (mask := [])
        · rfl
        · kernel_rfl
        · kernel_rfl
        · dsimp only [oblS]
          rintro w9 h9
          go_simp
          exact ⟨Below.refl _ _, rfl⟩
        dsimp only [List.nil_append, List.cons_append]
        apply relS_det (mask := [false])
        · rfl
        · kernel_rfl
        · kernel_rfl
        · dsimp only [oblS]
          rintro w9 h9
          go_simp
          exact ⟨Below.refl _ _, rfl⟩
        dsimp only [List.nil_append, List.cons_append]
        apply relS_det (mask := [true, true])
        · rfl
        · kernel_rfl
        · kernel_rfl
        · dsimp only [oblS]
          rintro w9 h9
          go_simp
          exact ⟨Below.refl _ _, rfl⟩
        dsimp only [List.nil_append, List.cons_append]
        apply relS_det (mask := [false, false, true])
        · rfl
        · kernel_rfl
        · kernel_rfl
        · dsimp only [oblS]
          rintro w9 h9
          have hc9 := (bcell h9).1
          go_simp
          exact ⟨Below.refl _ _, rfl⟩
        dsimp only [List.nil_append, List.cons_append]
        apply relS_det (mask := [false, false, false, false])
        · rfl
        · kernel_rfl
        · kernel_rfl
        · dsimp only [oblS]
          rintro w9 h9
          have hc9 := (bcell h9).1
          go_simp
          exact ⟨Below.refl _ _, rfl⟩
        dsimp only [List.nil_append, List.cons_append]
        apply relS_det (mask := [false, false, false, true, true]) (x := .bool v)
        · rfl
        · kernel_rfl
        · kernel_rfl
        · dsimp only [oblS]
          rintro w9 h9
          have hc9 := (bcell h9).1
          go_simp
          refine (HHy.out w9 (h6'.trans (h9.mono h6'.size))).mono ?_
          rintro e w1 ⟨rfl, hb⟩
          exact ⟨_, rfl, hb, rfl⟩
        dsimp only [List.nil_append, List.cons_append]
        refine relS_end (by rfl) ?_
        dsimp only [finS]
        -- rintro  w8 hb
        rintro w7 h7
        have hbe7 := hbe6.trans (h7.mono hbe6.size)
        cases v
        · have HX : Hid (cntR s (l.take (q + 1)) = cnt) := by show _ = _; rw [HS.out]; simp
          go_simp
          go_wp2_with fail
          go_roundw
          case rel => exact ⟨q + 1, by omega, by go_num, by rw [HX.out], hbe7⟩
          case measure => simp [intOf]; omega
        · have HX : Hid (cntR s (l.take (q + 1)) = cnt + 1) := by show _ = _; rw [HS.out]; simp
          go_simp
          go_wp2_with fail
          go_roundw
          case rel => exact ⟨q + 1, by omega, by go_num, by rw [HX.out]; go_num, hbe7⟩
          case measure => simp [intOf]; omega
      · skip
        dsimp only [okOr] at HKn
        refine wp_region_S W5.heap.size 15 (fun _ => false) (Nat.le_refl _) (by kernel_rfl) (by kernel_rfl) (by kernel_rfl) ?_
        dsimp only [List.take, List.drop]
        apply relS_det (mask := [])
        · rfl
        · kernel_rfl
        · kernel_rfl
        · dsimp only [oblS]
          rintro w9 h9
          have hc9 := (bcell h9).1
          go_simp
          exact ⟨Below.refl _ _, rfl⟩
        dsimp only [List.nil_append, List.cons_append]
        apply relS_det (mask := [true]) (x := .int .i64 0)
        · rfl
        · kernel_rfl
        · kernel_rfl
        · dsimp only [oblS]
          rintro w9 h9
          have hc9 := (bcell h9).1
          go_simp
          refine (HKn.out w9 h9).mono ?_
          rintro e w1 ⟨rfl, hb⟩
          exact ⟨_, rfl, hb, rfl⟩
        dsimp only [List.nil_append, List.cons_append]
        apply relS_det (mask := [false, true])
        · rfl
        · kernel_rfl
        · kernel_rfl
        · dsimp only [oblS]
          rintro w9 h9
          go_simp
          exact ⟨Below.refl _ _, rfl⟩
        dsimp only [List.nil_append, List.cons_append]
        apply relS_det (mask := [false, false, true])
        · rfl
        · kernel_rfl
        · kernel_rfl
        · dsimp only [oblS]
          rintro w9 h9
          go_simp
          exact ⟨Below.refl _ _, rfl⟩
        dsimp only [List.nil_append, List.cons_append]
        apply relS_detg (mask := [false, false, false, true]) (t := 60) (want := true)
        · rfl
        · kernel_rfl
        · kernel_rfl
        · dsimp only [oblS]
          refine ⟨by rfl, ?_⟩
          rintro w9 h9
          have hc9 := (bcell h9).1
          go_simp
          exact ⟨Below.refl _ _, rfl⟩
        dsimp only [List.nil_append, List.cons_append]
        apply relS_detg (mask := [false, false, false, true, false]) (t := 60) (want := true)
        · rfl
        · kernel_rfl
        · kernel_rfl
        · dsimp only [oblS]
          refine ⟨by rfl, ?_⟩
          rintro w9 h9
          have hc9 := (bcell h9).1
          go_simp
          exact ⟨Below.refl _ _, rfl⟩
        dsimp only [List.nil_append, List.cons_append]
        apply relS_detg (mask := [false, false, false, true, true, true]) (t := 60) (want := true) (x := .bool (!v))
        · rfl
        · kernel_rfl
        · kernel_rfl
        · dsimp only [oblS]
          refine ⟨by rfl, ?_⟩
          rintro w9 h9
          have hc9 := (bcell h9).1
          go_simp
          refine (HHn.out rfl w9 h9).mono ?_
          rintro e w1 ⟨rfl, hb⟩
          exact ⟨_, rfl, hb, rfl⟩
        dsimp only [List.nil_append, List.cons_append]
        apply relS_detg (mask := [false, false, false, true, false, false, false]) (t := 60) (want := true)
        · rfl
        · kernel_rfl
        · kernel_rfl
        · dsimp only [oblS]
          refine ⟨by rfl, ?_⟩
          rintro w9 h9
          go_simp
          exact ⟨Below.refl _ _, rfl⟩
        dsimp only [List.nil_append, List.cons_append]
        apply relS_detg (mask := [false, false, false, true, false, false, false, false]) (t := 60) (want := true)
        · rfl
        · kernel_rfl
        · kernel_rfl
        · dsimp only [oblS]
          refine ⟨by rfl, ?_⟩
          rintro w9 h9
          go_simp
          exact ⟨Below.refl _ _, rfl⟩
        dsimp only [List.nil_append, List.cons_append]
        apply relS_detg (mask := [false, false, false, true, false, false, false, true, true]) (t := 60) (want := true)
        · rfl
        · kernel_rfl
        · kernel_rfl
        · dsimp only [oblS]
          refine ⟨by rfl, ?_⟩
          rintro w9 h9
          go_simp
          exact ⟨Below.refl _ _, rfl⟩
        dsimp only [List.nil_append, List.cons_append]
        apply relS_detg (mask := [false, false, false, true, false, false, false, false, false, true]) (t := 60) (want := true)
        · rfl
        · kernel_rfl
        · kernel_rfl
        · dsimp only [oblS]
          refine ⟨by rfl, ?_⟩
          rintro w9 h9
          have hc9 := (bcell h9).1
          go_simp
          exact ⟨Below.refl _ _, rfl⟩
        dsimp only [List.nil_append, List.cons_append]
        apply relS_detg (mask := [false, false, false, true, false, false, false, false, false, false, false]) (t := 60) (want := true)
        · rfl
        · kernel_rfl
        · kernel_rfl
        · dsimp only [oblS]
          refine ⟨by rfl, ?_⟩
          rintro w9 h9
          have hc9 := (bcell h9).1
          go_simp
          exact ⟨Below.refl _ _, rfl⟩
        dsimp only [List.nil_append, List.cons_append]
        apply relS_detg (mask := [false, false, false, true, false, false, false, false, false, false, true, true]) (t := 60) (want := true) (x := .bool v)
        · rfl
        · kernel_rfl
        · kernel_rfl
        · dsimp only [oblS]
          refine ⟨by rfl, ?_⟩
          rintro w9 h9
          have hc9 := (bcell h9).1
          go_simp
          refine (HHy.out w9 (h5'.trans (h9.mono h5'.size))).mono ?_
          rintro e w1 ⟨rfl, hb⟩
          exact ⟨_, rfl, hb, rfl⟩
        dsimp only [List.nil_append, List.cons_append]
        apply relS_detg (mask := [false, false, false, true, false, false, true, false, false, false, false, false, true]) (t := 60) (want := true) (x := .bool false)
        · rfl
        · kernel_rfl
        · kernel_rfl
        · dsimp only [oblS]
          refine ⟨by rfl, ?_⟩
          rintro w9 h9
          cases v <;> (go_simp; exact ⟨Below.refl _ _, rfl⟩)
        dsimp only [List.nil_append, List.cons_append]
        apply relS_det (mask := [false, false, false, true, false, false, false, false, false, false, false, false, false, true])
        · rfl
        · kernel_rfl
        · kernel_rfl
        · dsimp only [oblS]
          rintro w9 h9
          go_simp
          exact ⟨Below.refl _ _, rfl⟩
        dsimp only [List.nil_append, List.cons_append]
        refine relS_end (by rfl) ?_
        dsimp only [finS]
        -- rintro  w8 hb
        rintro w6 h6
        have h6' := h5'.trans (h6.mono h5'.size)
        have bw6 := bw.trans (h6'.mono bw.size)
        have hbe6 := hbe.trans (h6'.mono hbe.size)
        clear n0 n1 n2 n3 n4 n5 ln
        have hwB := hw.trans (h6'.mono hw.size)
        have bwB := bw.trans (h6'.mono bw.size)
        have cz := HL.out w6 bwB
        clear c0 c1 c2 c3 c4 c5 hb' hbl
        obtain ⟨h3, b3, off3, y3, e13, e23, hb', hz3, hyr3, c0, c1, c2, c3, c4, c5⟩ := ruSl.get cz hlt
        obtain ⟨rfl, rfl⟩ : b = b3 ∧ off = off3 := by simpa using e23
        obtain rfl : y = y3 := by rw [HZ.out] at hz3; exact Option.some.inj hz3
        have hbl := lt_of_cell c0
        clear hz3 hyr3 cz e13 e23
        clear z0 z1 z2 z3 m0
        have e0 := (hwB.block _ l0).trans G0.out
        have z0 := cell_of_heap (o := 0) e0
        have z1 := cell_of_heap (o := 1) e0
        have z2 := cell_of_heap (o := 2) e0
        have z3 := cell_of_heap (o := 3) e0
        simp only [List.getElem?_toArray, List.getElem?_cons_zero, List.getElem?_cons_succ] at z0 z1 z2 z3
        have m0 := lt_of_heap e0
        clear e0
        clear hwB
        go_simp
        iterate 6
          go_step
          try go_simp
        refine wp_region_S w6.heap.size 6 (fun _ => false) (Nat.le_refl _) (by kernel_rfl) (by kernel_rfl) (by kernel_rfl) ?_
        dsimp only [List.take, List.drop]
        apply relS_det (mask := [])
        · rfl
        · kernel_rfl
        · kernel_rfl
        · dsimp only [oblS]
          rintro w9 h9
          go_simp
          exact ⟨Below.refl _ _, rfl⟩
        dsimp only [List.nil_append, List.cons_append]
        apply relS_det (mask := [false])
        · rfl
        · kernel_rfl
        · kernel_rfl
        · dsimp only [oblS]
          rintro w9 h9
          go_simp
          exact ⟨Below.refl _ _, rfl⟩
        dsimp only [List.nil_append, List.cons_append]
        apply relS_det (mask := [true, true])
        · rfl
        · kernel_rfl
        · kernel_rfl
        · dsimp only [oblS]
          rintro w9 h9
          go_simp
          exact ⟨Below.refl _ _, rfl⟩
        dsimp only [List.nil_append, List.cons_append]
        apply relS_det (mask := [false, false, true])
        · rfl
        · kernel_rfl
        · kernel_rfl
        · dsimp only [oblS]
          rintro w9 h9
          have hc9 := (bcell h9).1
          go_simp
          exact ⟨Below.refl _ _, rfl⟩
        dsimp only [List.nil_append, List.cons_append]
        apply relS_det (mask := [false, false, false, false])
        · rfl
        · kernel_rfl
        · kernel_rfl
        · dsimp only [oblS]
          rintro w9 h9
          have hc9 := (bcell h9).1
          go_simp
          exact ⟨Below.refl _ _, rfl⟩
        dsimp only [List.nil_append, List.cons_append]
        apply relS_det (mask := [false, false, false, true, true]) (x := .bool v)
        · rfl
        · kernel_rfl
        · kernel_rfl
        · dsimp only [oblS]
          rintro w9 h9
          have hc9 := (bcell h9).1
          go_simp
          refine (HHy.out w9 (h6'.trans (h9.mono h6'.size))).mono ?_
          rintro e w1 ⟨rfl, hb⟩
          exact ⟨_, rfl, hb, rfl⟩
        dsimp only [List.nil_append, List.cons_append]
        refine relS_end (by rfl) ?_
        dsimp only [finS]
        -- rintro  w8 hb
        rintro w7 h7
        have hbe7 := hbe6.trans (h7.mono hbe6.size)
        cases v
        · have HX : Hid (cntR s (l.take (q + 1)) = cnt) := by show _ = _; rw [HS.out]; simp
          go_simp
          go_wp2_with fail
          go_roundw
          case rel => exact ⟨q + 1, by omega, by go_num, by rw [HX.out], hbe7⟩
          case measure => simp [intOf]; omega
        · have HX : Hid (cntR s (l.take (q + 1)) = cnt + 1) := by show _ = _; rw [HS.out]; simp
          go_simp
          go_wp2_with fail
          go_roundw
          case rel => exact ⟨q + 1, by omega, by go_num, by rw [HX.out]; go_num, hbe7⟩
          case measure => simp [intOf]; omega
    · skip
      obtain rfl : q = n := by omega
      have hnn : ¬ ((q : Int) < q) := by omega
      have HV : Hid (cntR s l = cnt) := by
        show _ = _
        rw [← HCN.out, List.take_of_length_le (by have := HN.out; omega)]
      obtain ⟨qf, hqf⟩ : ∃ q, fitsB s = q := ⟨_, rfl⟩
      have hc := uFits_any s wr (HSa.out wr bw)
      rw [hqf] at hc
      have HF := hidp hc
      have HQF := hidp hqf
      clear hc hqf
      cases qf
      · dsimp only [okOr] at HF
        go_wp2_with fail
        refine HF.out.mono ?_
        rintro e w4 ⟨rfl, h4⟩
        go_wp2_with fail
        go_ret
        exact ⟨rfl, bw.trans (h4.mono bw.size)⟩
      dsimp only [okOr] at HF
      go_wp2_with fail
      refine HF.out.mono ?_
      rintro e w4 ⟨rfl, h4⟩
      have bw4 := bw.trans (h4.mono bw.size)
      have hw4 := hw.trans (h4.mono hw.size)
      clear z0 z1 z2 z3 m0
      have e0 := (hw4.block _ l0).trans G0.out
      have z0 := cell_of_heap (o := 0) e0
      have z1 := cell_of_heap (o := 1) e0
      have z2 := cell_of_heap (o := 2) e0
      have z3 := cell_of_heap (o := 3) e0
      simp only [List.getElem?_toArray, List.getElem?_cons_zero, List.getElem?_cons_succ] at z0 z1 z2 z3
      have m0 := lt_of_heap e0
      clear e0
      obtain ⟨w0, hw0⟩ : ∃ b, ((cnt : Int) == (q : Int)) = b := ⟨_, rfl⟩
      obtain ⟨w1', hw1⟩ : ∃ b, decide (0 < cnt) = b := ⟨_, rfl⟩
      obtain ⟨w2, hw2⟩ : ∃ b, decide (z % 201 ≤ (cnt : Int)) = b := ⟨_, rfl⟩
      have HE0 : Hid (valR s (allR A q c l) = w0) := by
        show _ = _
        unfold allR
        rw [val_all, HV.out, ← hw0, Bool.eq_iff_iff]
        have := HN.out
        simp
        omega
      have HE1 : Hid (valR s (anyR A q c l) = w1') := by show _ = _; unfold anyR; rw [val_any, HV.out, hw1]
      have HE2 : Hid (valR s (leastR (z % 201) A q c l) = w2) := by show _ = _; unfold leastR; rw [val_least, HV.out, hw2]
      go_wp2_with fail
      try rw [hw0]
      try rw [hw1]
      try rw [hw2]
      obtain ⟨B5, hB5⟩ : ∃ b, w4.heap.size = b := ⟨_, rfl⟩
      rw [hB5]
      obtain ⟨W5, hW5⟩ : ∃ W5, w4.alloc (.cells #[.int .i64 1, .int .i64 0, .string ⟨#[]⟩, .int .i64 0, .int .i64 0, .slice A q c, .bool w0, .int .i64 2, .int .i64 0, .string ⟨#[]⟩, .int .i64 0, .int .i64 0, .slice A q c, .bool w1', .int .i64 3, .int .i64 0, .string ⟨#[]⟩, .int .i64 (z % 201), .int .i64 0, .slice A q c, .bool w2] 43) = W5 := ⟨_, rfl⟩
      rw [hW5]
      have k0 : W5.heap[B5]? = some (.cells #[.int .i64 1, .int .i64 0, .string ⟨#[]⟩, .int .i64 0, .int .i64 0, .slice A q c, .bool w0, .int .i64 2, .int .i64 0, .string ⟨#[]⟩, .int .i64 0, .int .i64 0, .slice A q c, .bool w1', .int .i64 3, .int .i64 0, .string ⟨#[]⟩, .int .i64 (z % 201), .int .i64 0, .slice A q c, .bool w2] 43 (0, 0)) := by
        rw [← hW5, ← hB5]; exact World.alloc_heap_new _ _
      have hw5 := hw4.alloc (by have := hw4.size; omega) (.cells #[.int .i64 1, .int .i64 0, .string ⟨#[]⟩, .int .i64 0, .int .i64 0, .slice A q c, .bool w0, .int .i64 2, .int .i64 0, .string ⟨#[]⟩, .int .i64 0, .int .i64 0, .slice A q c, .bool w1', .int .i64 3, .int .i64 0, .string ⟨#[]⟩, .int .i64 (z % 201), .int .i64 0, .slice A q c, .bool w2] 43)
      rw [hW5] at hw5
      have bw5 := HBW.out.trans (hw5.mono HBW.out.size)
      have hl5 := lt_of_heap k0
      have HK0 := hidp k0
      clear hw0 hw1 hw2 hB5 hW5 k0
      go_loopw [107] (fun i wr => ∃ (j : Nat), j ≤ 3 ∧ i = .int .i64 j ∧ Below W5.heap.size W5 wr) (fun i _ => 3 - (intOf i).toNat)
      case atStart => exact ⟨0, by omega, rfl, Below.refl _ _⟩
      case round =>
        obtain ⟨j, hj, rfl, hbe⟩ := hrel
        have hwr := hw5.trans (hbe.mono hw5.size)
        have bwr := HBW.out.trans (hwr.mono HBW.out.size)
        have e8 := (hbe.block _ hl5).trans HK0.out
        have hlr := lt_of_heap e8
        have E8 := hidp e8
        clear e8
        obtain rfl | rfl | rfl | rfl : j = 0 ∨ j = 1 ∨ j = 2 ∨ j = 3 := by omega
        · skip
          have c0 := cell_of_heap (o := 0) E8.out
          have c1 := cell_of_heap (o := 1) E8.out
          have c2 := cell_of_heap (o := 2) E8.out
          have c3 := cell_of_heap (o := 3) E8.out
          have c4 := cell_of_heap (o := 4) E8.out
          have c5 := cell_of_heap (o := 5) E8.out
          have c6 := cell_of_heap (o := 6) E8.out
          simp only [List.getElem?_toArray, List.getElem?_cons_zero, List.getElem?_cons_succ] at c0 c1 c2 c3 c4 c5 c6
          go_wp2_with fail
          obtain ⟨B6, hB6⟩ : ∃ b, wr.heap.size = b := ⟨_, rfl⟩
          rw [hB6]
          obtain ⟨W6, hW6⟩ : ∃ W6, wr.alloc (.cells #[.int .i64 1, .int .i64 0, .string ⟨#[]⟩, .int .i64 0, .int .i64 0, .slice A q c, .bool w0] 43) = W6 := ⟨_, rfl⟩
          rw [hW6]
          have k1 : W6.heap[B6]? = some (.cells #[.int .i64 1, .int .i64 0, .string ⟨#[]⟩, .int .i64 0, .int .i64 0, .slice A q c, .bool w0] 43 (0, 0)) := by rw [← hW6, ← hB6]; exact World.alloc_heap_new _ _
          have hb6 : Below W5.heap.size W5 W6 := by rw [← hW6]; exact hbe.alloc hbe.size _
          have hw6 := hw5.trans (hb6.mono hw5.size)
          have bw6 := HBW.out.trans (hw6.mono HBW.out.size)
          clear c0 c1 c2 c3 c4 c5 c6 hW6 hB6
          have c0 := cell_of_heap (o := 0) k1
          have c1 := cell_of_heap (o := 1) k1
          have c2 := cell_of_heap (o := 2) k1
          have c3 := cell_of_heap (o := 3) k1
          have c4 := cell_of_heap (o := 4) k1
          have c5 := cell_of_heap (o := 5) k1
          have c6 := cell_of_heap (o := 6) k1
          have e9 := (hw6.block _ l0).trans G0.out
          have y0 := cell_of_heap (o := 0) e9
          have y1 := cell_of_heap (o := 1) e9
          have y2 := cell_of_heap (o := 2) e9
          have y3 := cell_of_heap (o := 3) e9
          simp only [List.getElem?_toArray, List.getElem?_cons_zero, List.getElem?_cons_succ] at c0 c1 c2 c3 c4 c5 c6 y0 y1 y2 y3
          have ln := lt_of_heap k1
          have ly := lt_of_heap e9
          clear e9 k1
          obtain ⟨qk, hqk⟩ : ∃ b, checkB (allR A q c l) = b := ⟨_, rfl⟩
          have HKn : Hid (∀ W, Below W6.heap.size W6 W → Calls Tryd.prog 20 #[.agg #[.int .i64 1, .int .i64 0, .string ⟨#[]⟩, .int .i64 0, .int .i64 0, .slice A q c]] W fun e w' => e = .returned (.int .i64 (okOr qk 120)) ∧ Below W.heap.size W w') := fun W h => by
            have hc := uCheck_any hh (allR A q c l) W (HL.out W (bw6.trans (h.mono bw6.size))) (HKK.out.below (bw6.trans (h.mono bw6.size)) lk)
            rw [hqk] at hc; exact hc
          have HHn : Hid (qk = true → ∀ W, Below W6.heap.size W6 W → Calls Tryd.prog 22 #[.agg #[.int .i64 1, .int .i64 0, .string ⟨#[]⟩, .int .i64 0, .int .i64 0, .slice A q c], .agg #[.slice s.sA s.sn s.sc, .int .i64 s.earned, .int .i64 s.num, .int .i64 s.den]] W fun e w' => e = .returned (.bool w0) ∧ Below W.heap.size W w') := fun hq W h => by
            have hc := holds12_any hh (allR A q c l) s W (HL.out W (bw6.trans (h.mono bw6.size))) (HSa.out W (bw6.trans (h.mono bw6.size))) (HKK.out.below (bw6.trans (h.mono bw6.size)) lk)
            rw [holdsB_eq (hqk.trans hq) HQF.out, HE0.out] at hc; exact hc
          clear hqk
          cases qk
          · skip
            dsimp only [okOr] at HKn
            refine wp_region_S W6.heap.size 13 (fun _ => false) (Nat.le_refl _) (by kernel_rfl) (by kernel_rfl) (by kernel_rfl) ?_
            dsimp only [List.take, List.drop]
            apply relS_det (mask := [])
            · rfl
            · kernel_rfl
            · kernel_rfl
            · dsimp only [oblS]
              rintro w9 h9
              go_simp
              exact ⟨Below.refl _ _, rfl⟩
            dsimp only [List.nil_append, List.cons_append]
            apply relS_det (mask := [true])
            · rfl
            · kernel_rfl
            · kernel_rfl
            · dsimp only [oblS]
              rintro w9 h9
              have hc9 := (bcell h9).1
              go_simp
              exact ⟨Below.refl _ _, rfl⟩
            dsimp only [List.nil_append, List.cons_append]
            apply relS_det (mask := [false, true]) (x := .int .i64 120)
            · rfl
            · kernel_rfl
            · kernel_rfl
            · dsimp only [oblS]
              rintro w9 h9
              have hc9 := (bcell h9).1
              go_simp
              refine (HKn.out w9 h9).mono ?_
              rintro e w1 ⟨rfl, hb⟩
              exact ⟨_, rfl, hb, rfl⟩
            dsimp only [List.nil_append, List.cons_append]
            apply relS_det (mask := [false, false, true])
            · rfl
            · kernel_rfl
            · kernel_rfl
            · dsimp only [oblS]
              rintro w9 h9
              go_simp
              exact ⟨Below.refl _ _, rfl⟩
            dsimp only [List.nil_append, List.cons_append]
            apply relS_det (mask := [false, false, false, true])
            · rfl
            · kernel_rfl
            · kernel_rfl
            · dsimp only [oblS]
              rintro w9 h9
              go_simp
              exact ⟨Below.refl _ _, rfl⟩
            dsimp only [List.nil_append, List.cons_append]
            apply relS_not (mask := [false, false, false, false, true]) (t := 115) (want := true) (hf := by rfl) (hg := by kernel_rfl) (hm := by kernel_rfl)
            · rfl
            dsimp only [List.nil_append, List.cons_append]
            apply relS_not (mask := [false, false, false, false, true, true]) (t := 115) (want := true) (hf := by rfl) (hg := by kernel_rfl) (hm := by kernel_rfl)
            · rfl
            dsimp only [List.nil_append, List.cons_append]
            apply relS_not (mask := [false, false, false, false, true, false, false]) (t := 115) (want := true) (hf := by rfl) (hg := by kernel_rfl) (hm := by kernel_rfl)
            · rfl
            dsimp only [List.nil_append, List.cons_append]
            apply relS_not (mask := [false, false, false, false, true, false, true, true]) (t := 115) (want := true) (hf := by rfl) (hg := by kernel_rfl) (hm := by kernel_rfl)
            · rfl
            dsimp only [List.nil_append, List.cons_append]
            apply relS_not (mask := [false, false, false, false, true, false, false, false, false]) (t := 115) (want := true) (hf := by rfl) (hg := by kernel_rfl) (hm := by kernel_rfl)
            · rfl
            dsimp only [List.nil_append, List.cons_append]
            apply relS_not (mask := [false, false, false, false, true, false, false, false, false, true]) (t := 115) (want := true) (hf := by rfl) (hg := by kernel_rfl) (hm := by kernel_rfl)
            · rfl
            dsimp only [List.nil_append, List.cons_append]
            apply relS_not (mask := [false, false, false, false, true, false, false, false, true, false, true]) (t := 115) (want := true) (hf := by rfl) (hg := by kernel_rfl) (hm := by kernel_rfl)
            · rfl
            dsimp only [List.nil_append, List.cons_append]
            apply relS_det (mask := [false, false, false, false, true, false, false, false, false, false, false, true])
            · rfl
            · kernel_rfl
            · kernel_rfl
            · dsimp only [oblS]
              rintro w9 h9
              go_simp
              exact ⟨Below.refl _ _, rfl⟩
            dsimp only [List.nil_append, List.cons_append]
            refine relS_end (by rfl) ?_
            dsimp only [finS]
            -- rintro  w8 hb
            rintro w7 h7
            have hb7 := hb6.trans (h7.mono hb6.size)
            go_simp
            go_wp2_with fail
            go_roundw
            case rel => exact ⟨1, by omega, by go_num, hb7⟩
            case measure => simp [intOf]
          · skip
            dsimp only [okOr] at HKn
            refine wp_region_S W6.heap.size 13 (fun _ => false) (Nat.le_refl _) (by kernel_rfl) (by kernel_rfl) (by kernel_rfl) ?_
            dsimp only [List.take, List.drop]
            apply relS_det (mask := [])
            · rfl
            · kernel_rfl
            · kernel_rfl
            · dsimp only [oblS]
              rintro w9 h9
              go_simp
              exact ⟨Below.refl _ _, rfl⟩
            dsimp only [List.nil_append, List.cons_append]
            apply relS_det (mask := [true])
            · rfl
            · kernel_rfl
            · kernel_rfl
            · dsimp only [oblS]
              rintro w9 h9
              have hc9 := (bcell h9).1
              go_simp
              exact ⟨Below.refl _ _, rfl⟩
            dsimp only [List.nil_append, List.cons_append]
            apply relS_det (mask := [false, true]) (x := .int .i64 0)
            · rfl
            · kernel_rfl
            · kernel_rfl
            · dsimp only [oblS]
              rintro w9 h9
              have hc9 := (bcell h9).1
              go_simp
              refine (HKn.out w9 h9).mono ?_
              rintro e w1 ⟨rfl, hb⟩
              exact ⟨_, rfl, hb, rfl⟩
            dsimp only [List.nil_append, List.cons_append]
            apply relS_det (mask := [false, false, true])
            · rfl
            · kernel_rfl
            · kernel_rfl
            · dsimp only [oblS]
              rintro w9 h9
              go_simp
              exact ⟨Below.refl _ _, rfl⟩
            dsimp only [List.nil_append, List.cons_append]
            apply relS_det (mask := [false, false, false, true])
            · rfl
            · kernel_rfl
            · kernel_rfl
            · dsimp only [oblS]
              rintro w9 h9
              go_simp
              exact ⟨Below.refl _ _, rfl⟩
            dsimp only [List.nil_append, List.cons_append]
            apply relS_detg (mask := [false, false, false, false, true]) (t := 115) (want := true)
            · rfl
            · kernel_rfl
            · kernel_rfl
            · dsimp only [oblS]
              refine ⟨by rfl, ?_⟩
              rintro w9 h9
              go_simp
              exact ⟨Below.refl _ _, rfl⟩
            dsimp only [List.nil_append, List.cons_append]
            apply relS_detg (mask := [false, false, false, false, true, true]) (t := 115) (want := true)
            · rfl
            · kernel_rfl
            · kernel_rfl
            · dsimp only [oblS]
              refine ⟨by rfl, ?_⟩
              rintro w9 h9
              have hc9 := (bcell h9).1
              go_simp
              exact ⟨Below.refl _ _, rfl⟩
            dsimp only [List.nil_append, List.cons_append]
            apply relS_detg (mask := [false, false, false, false, true, false, false]) (t := 115) (want := true)
            · rfl
            · kernel_rfl
            · kernel_rfl
            · dsimp only [oblS]
              refine ⟨by rfl, ?_⟩
              rintro w9 h9
              have hc9 := (bcell h9).1
              go_simp
              exact ⟨Below.refl _ _, rfl⟩
            dsimp only [List.nil_append, List.cons_append]
            apply relS_detg (mask := [false, false, false, false, true, false, true, true]) (t := 115) (want := true) (x := .bool w0)
            · rfl
            · kernel_rfl
            · kernel_rfl
            · dsimp only [oblS]
              refine ⟨by rfl, ?_⟩
              rintro w9 h9
              have hc9 := (bcell h9).1
              go_simp
              refine (HHn.out rfl w9 h9).mono ?_
              rintro e w1 ⟨rfl, hb⟩
              exact ⟨_, rfl, hb, rfl⟩
            dsimp only [List.nil_append, List.cons_append]
            apply relS_detg (mask := [false, false, false, false, true, false, false, false, false]) (t := 115) (want := true)
            · rfl
            · kernel_rfl
            · kernel_rfl
            · dsimp only [oblS]
              refine ⟨by rfl, ?_⟩
              rintro w9 h9
              go_simp
              exact ⟨Below.refl _ _, rfl⟩
            dsimp only [List.nil_append, List.cons_append]
            apply relS_detg (mask := [false, false, false, false, true, false, false, false, false, true]) (t := 115) (want := true)
            · rfl
            · kernel_rfl
            · kernel_rfl
            · dsimp only [oblS]
              refine ⟨by rfl, ?_⟩
              rintro w9 h9
              have hc9 := (bcell h9).1
              go_simp
              exact ⟨Below.refl _ _, rfl⟩
            dsimp only [List.nil_append, List.cons_append]
            apply relS_detg (mask := [false, false, false, false, true, false, false, false, true, false, true]) (t := 115) (want := true) (x := .bool false)
            · rfl
            · kernel_rfl
            · kernel_rfl
            · dsimp only [oblS]
              refine ⟨by rfl, ?_⟩
              rintro w9 h9
              cases w0 <;> (go_simp; exact ⟨Below.refl _ _, rfl⟩)
            dsimp only [List.nil_append, List.cons_append]
            apply relS_det (mask := [false, false, false, false, true, false, false, false, false, false, false, true])
            · rfl
            · kernel_rfl
            · kernel_rfl
            · dsimp only [oblS]
              rintro w9 h9
              go_simp
              exact ⟨Below.refl _ _, rfl⟩
            dsimp only [List.nil_append, List.cons_append]
            refine relS_end (by rfl) ?_
            dsimp only [finS]
            -- rintro  w8 hb
            rintro w7 h7
            have hb7 := hb6.trans (h7.mono hb6.size)
            go_simp
            go_wp2_with fail
            go_roundw
            case rel => exact ⟨1, by omega, by go_num, hb7⟩
            case measure => simp [intOf]
        · skip
          have c0 := cell_of_heap (o := 7) E8.out
          have c1 := cell_of_heap (o := 8) E8.out
          have c2 := cell_of_heap (o := 9) E8.out
          have c3 := cell_of_heap (o := 10) E8.out
          have c4 := cell_of_heap (o := 11) E8.out
          have c5 := cell_of_heap (o := 12) E8.out
          have c6 := cell_of_heap (o := 13) E8.out
          simp only [List.getElem?_toArray, List.getElem?_cons_zero, List.getElem?_cons_succ] at c0 c1 c2 c3 c4 c5 c6
          go_wp2_with fail
          obtain ⟨B6, hB6⟩ : ∃ b, wr.heap.size = b := ⟨_, rfl⟩
          rw [hB6]
          obtain ⟨W6, hW6⟩ : ∃ W6, wr.alloc (.cells #[.int .i64 2, .int .i64 0, .string ⟨#[]⟩, .int .i64 0, .int .i64 0, .slice A q c, .bool w1'] 43) = W6 := ⟨_, rfl⟩
          rw [hW6]
          have k1 : W6.heap[B6]? = some (.cells #[.int .i64 2, .int .i64 0, .string ⟨#[]⟩, .int .i64 0, .int .i64 0, .slice A q c, .bool w1'] 43 (0, 0)) := by rw [← hW6, ← hB6]; exact World.alloc_heap_new _ _
          have hb6 : Below W5.heap.size W5 W6 := by rw [← hW6]; exact hbe.alloc hbe.size _
          have hw6 := hw5.trans (hb6.mono hw5.size)
          have bw6 := HBW.out.trans (hw6.mono HBW.out.size)
          clear c0 c1 c2 c3 c4 c5 c6 hW6 hB6
          have c0 := cell_of_heap (o := 0) k1
          have c1 := cell_of_heap (o := 1) k1
          have c2 := cell_of_heap (o := 2) k1
          have c3 := cell_of_heap (o := 3) k1
          have c4 := cell_of_heap (o := 4) k1
          have c5 := cell_of_heap (o := 5) k1
          have c6 := cell_of_heap (o := 6) k1
          have e9 := (hw6.block _ l0).trans G0.out
          have y0 := cell_of_heap (o := 0) e9
          have y1 := cell_of_heap (o := 1) e9
          have y2 := cell_of_heap (o := 2) e9
          have y3 := cell_of_heap (o := 3) e9
          simp only [List.getElem?_toArray, List.getElem?_cons_zero, List.getElem?_cons_succ] at c0 c1 c2 c3 c4 c5 c6 y0 y1 y2 y3
          have ln := lt_of_heap k1
          have ly := lt_of_heap e9
          clear e9 k1
          obtain ⟨qk, hqk⟩ : ∃ b, checkB (anyR A q c l) = b := ⟨_, rfl⟩
          have HKn : Hid (∀ W, Below W6.heap.size W6 W → Calls Tryd.prog 20 #[.agg #[.int .i64 2, .int .i64 0, .string ⟨#[]⟩, .int .i64 0, .int .i64 0, .slice A q c]] W fun e w' => e = .returned (.int .i64 (okOr qk 120)) ∧ Below W.heap.size W w') := fun W h => by
            have hc := uCheck_any hh (anyR A q c l) W (HL.out W (bw6.trans (h.mono bw6.size))) (HKK.out.below (bw6.trans (h.mono bw6.size)) lk)
            rw [hqk] at hc; exact hc
          have HHn : Hid (qk = true → ∀ W, Below W6.heap.size W6 W → Calls Tryd.prog 22 #[.agg #[.int .i64 2, .int .i64 0, .string ⟨#[]⟩, .int .i64 0, .int .i64 0, .slice A q c], .agg #[.slice s.sA s.sn s.sc, .int .i64 s.earned, .int .i64 s.num, .int .i64 s.den]] W fun e w' => e = .returned (.bool w1') ∧ Below W.heap.size W w') := fun hq W h => by
            have hc := holds12_any hh (anyR A q c l) s W (HL.out W (bw6.trans (h.mono bw6.size))) (HSa.out W (bw6.trans (h.mono bw6.size))) (HKK.out.below (bw6.trans (h.mono bw6.size)) lk)
            rw [holdsB_eq (hqk.trans hq) HQF.out, HE1.out] at hc; exact hc
          clear hqk
          cases qk
          · skip
            dsimp only [okOr] at HKn
            refine wp_region_S W6.heap.size 13 (fun _ => false) (Nat.le_refl _) (by kernel_rfl) (by kernel_rfl) (by kernel_rfl) ?_
            dsimp only [List.take, List.drop]
            apply relS_det (mask := [])
            · rfl
            · kernel_rfl
            · kernel_rfl
            · dsimp only [oblS]
              rintro w9 h9
              go_simp
              exact ⟨Below.refl _ _, rfl⟩
            dsimp only [List.nil_append, List.cons_append]
            apply relS_det (mask := [true])
            · rfl
            · kernel_rfl
            · kernel_rfl
            · dsimp only [oblS]
              rintro w9 h9
              have hc9 := (bcell h9).1
              go_simp
              exact ⟨Below.refl _ _, rfl⟩
            dsimp only [List.nil_append, List.cons_append]
            apply relS_det (mask := [false, true]) (x := .int .i64 120)
            · rfl
            · kernel_rfl
            · kernel_rfl
            · dsimp only [oblS]
              rintro w9 h9
              have hc9 := (bcell h9).1
              go_simp
              refine (HKn.out w9 h9).mono ?_
              rintro e w1 ⟨rfl, hb⟩
              exact ⟨_, rfl, hb, rfl⟩
            dsimp only [List.nil_append, List.cons_append]
            apply relS_det (mask := [false, false, true])
            · rfl
            · kernel_rfl
            · kernel_rfl
            · dsimp only [oblS]
              rintro w9 h9
              go_simp
              exact ⟨Below.refl _ _, rfl⟩
            dsimp only [List.nil_append, List.cons_append]
            apply relS_det (mask := [false, false, false, true])
            · rfl
            · kernel_rfl
            · kernel_rfl
            · dsimp only [oblS]
              rintro w9 h9
              go_simp
              exact ⟨Below.refl _ _, rfl⟩
            dsimp only [List.nil_append, List.cons_append]
            apply relS_not (mask := [false, false, false, false, true]) (t := 115) (want := true) (hf := by rfl) (hg := by kernel_rfl) (hm := by kernel_rfl)
            · rfl
            dsimp only [List.nil_append, List.cons_append]
            apply relS_not (mask := [false, false, false, false, true, true]) (t := 115) (want := true) (hf := by rfl) (hg := by kernel_rfl) (hm := by kernel_rfl)
            · rfl
            dsimp only [List.nil_append, List.cons_append]
            apply relS_not (mask := [false, false, false, false, true, false, false]) (t := 115) (want := true) (hf := by rfl) (hg := by kernel_rfl) (hm := by kernel_rfl)
            · rfl
            dsimp only [List.nil_append, List.cons_append]
            apply relS_not (mask := [false, false, false, false, true, false, true, true]) (t := 115) (want := true) (hf := by rfl) (hg := by kernel_rfl) (hm := by kernel_rfl)
            · rfl
            dsimp only [List.nil_append, List.cons_append]
            apply relS_not (mask := [false, false, false, false, true, false, false, false, false]) (t := 115) (want := true) (hf := by rfl) (hg := by kernel_rfl) (hm := by kernel_rfl)
            · rfl
            dsimp only [List.nil_append, List.cons_append]
            apply relS_not (mask := [false, false, false, false, true, false, false, false, false, true]) (t := 115) (want := true) (hf := by rfl) (hg := by kernel_rfl) (hm := by kernel_rfl)
            · rfl
            dsimp only [List.nil_append, List.cons_append]
            apply relS_not (mask := [false, false, false, false, true, false, false, false, true, false, true]) (t := 115) (want := true) (hf := by rfl) (hg := by kernel_rfl) (hm := by kernel_rfl)
            · rfl
            dsimp only [List.nil_append, List.cons_append]
            apply relS_det (mask := [false, false, false, false, true, false, false, false, false, false, false, true])
            · rfl
            · kernel_rfl
            · kernel_rfl
            · dsimp only [oblS]
              rintro w9 h9
              go_simp
              exact ⟨Below.refl _ _, rfl⟩
            dsimp only [List.nil_append, List.cons_append]
            refine relS_end (by rfl) ?_
            dsimp only [finS]
            -- rintro  w8 hb
            rintro w7 h7
            have hb7 := hb6.trans (h7.mono hb6.size)
            go_simp
            go_wp2_with fail
            go_roundw
            case rel => exact ⟨2, by omega, by go_num, hb7⟩
            case measure => simp [intOf]
          · skip
            dsimp only [okOr] at HKn
            refine wp_region_S W6.heap.size 13 (fun _ => false) (Nat.le_refl _) (by kernel_rfl) (by kernel_rfl) (by kernel_rfl) ?_
            dsimp only [List.take, List.drop]
            apply relS_det (mask := [])
            · rfl
            · kernel_rfl
            · kernel_rfl
            · dsimp only [oblS]
              rintro w9 h9
              go_simp
              exact ⟨Below.refl _ _, rfl⟩
            dsimp only [List.nil_append, List.cons_append]
            apply relS_det (mask := [true])
            · rfl
            · kernel_rfl
            · kernel_rfl
            · dsimp only [oblS]
              rintro w9 h9
              have hc9 := (bcell h9).1
              go_simp
              exact ⟨Below.refl _ _, rfl⟩
            dsimp only [List.nil_append, List.cons_append]
            apply relS_det (mask := [false, true]) (x := .int .i64 0)
            · rfl
            · kernel_rfl
            · kernel_rfl
            · dsimp only [oblS]
              rintro w9 h9
              have hc9 := (bcell h9).1
              go_simp
              refine (HKn.out w9 h9).mono ?_
              rintro e w1 ⟨rfl, hb⟩
              exact ⟨_, rfl, hb, rfl⟩
            dsimp only [List.nil_append, List.cons_append]
            apply relS_det (mask := [false, false, true])
            · rfl
            · kernel_rfl
            · kernel_rfl
            · dsimp only [oblS]
              rintro w9 h9
              go_simp
              exact ⟨Below.refl _ _, rfl⟩
            dsimp only [List.nil_append, List.cons_append]
            apply relS_det (mask := [false, false, false, true])
            · rfl
            · kernel_rfl
            · kernel_rfl
            · dsimp only [oblS]
              rintro w9 h9
              go_simp
              exact ⟨Below.refl _ _, rfl⟩
            dsimp only [List.nil_append, List.cons_append]
            apply relS_detg (mask := [false, false, false, false, true]) (t := 115) (want := true)
            · rfl
            · kernel_rfl
            · kernel_rfl
            · dsimp only [oblS]
              refine ⟨by rfl, ?_⟩
              rintro w9 h9
              go_simp
              exact ⟨Below.refl _ _, rfl⟩
            dsimp only [List.nil_append, List.cons_append]
            apply relS_detg (mask := [false, false, false, false, true, true]) (t := 115) (want := true)
            · rfl
            · kernel_rfl
            · kernel_rfl
            · dsimp only [oblS]
              refine ⟨by rfl, ?_⟩
              rintro w9 h9
              have hc9 := (bcell h9).1
              go_simp
              exact ⟨Below.refl _ _, rfl⟩
            dsimp only [List.nil_append, List.cons_append]
            apply relS_detg (mask := [false, false, false, false, true, false, false]) (t := 115) (want := true)
            · rfl
            · kernel_rfl
            · kernel_rfl
            · dsimp only [oblS]
              refine ⟨by rfl, ?_⟩
              rintro w9 h9
              have hc9 := (bcell h9).1
              go_simp
              exact ⟨Below.refl _ _, rfl⟩
            dsimp only [List.nil_append, List.cons_append]
            apply relS_detg (mask := [false, false, false, false, true, false, true, true]) (t := 115) (want := true) (x := .bool w1')
            · rfl
            · kernel_rfl
            · kernel_rfl
            · dsimp only [oblS]
              refine ⟨by rfl, ?_⟩
              rintro w9 h9
              have hc9 := (bcell h9).1
              go_simp
              refine (HHn.out rfl w9 h9).mono ?_
              rintro e w1 ⟨rfl, hb⟩
              exact ⟨_, rfl, hb, rfl⟩
            dsimp only [List.nil_append, List.cons_append]
            apply relS_detg (mask := [false, false, false, false, true, false, false, false, false]) (t := 115) (want := true)
            · rfl
            · kernel_rfl
            · kernel_rfl
            · dsimp only [oblS]
              refine ⟨by rfl, ?_⟩
              rintro w9 h9
              go_simp
              exact ⟨Below.refl _ _, rfl⟩
            dsimp only [List.nil_append, List.cons_append]
            apply relS_detg (mask := [false, false, false, false, true, false, false, false, false, true]) (t := 115) (want := true)
            · rfl
            · kernel_rfl
            · kernel_rfl
            · dsimp only [oblS]
              refine ⟨by rfl, ?_⟩
              rintro w9 h9
              have hc9 := (bcell h9).1
              go_simp
              exact ⟨Below.refl _ _, rfl⟩
            dsimp only [List.nil_append, List.cons_append]
            apply relS_detg (mask := [false, false, false, false, true, false, false, false, true, false, true]) (t := 115) (want := true) (x := .bool false)
            · rfl
            · kernel_rfl
            · kernel_rfl
            · dsimp only [oblS]
              refine ⟨by rfl, ?_⟩
              rintro w9 h9
              cases w1' <;> (go_simp; exact ⟨Below.refl _ _, rfl⟩)
            dsimp only [List.nil_append, List.cons_append]
            apply relS_det (mask := [false, false, false, false, true, false, false, false, false, false, false, true])
            · rfl
            · kernel_rfl
            · kernel_rfl
            · dsimp only [oblS]
              rintro w9 h9
              go_simp
              exact ⟨Below.refl _ _, rfl⟩
            dsimp only [List.nil_append, List.cons_append]
            refine relS_end (by rfl) ?_
            dsimp only [finS]
            -- rintro  w8 hb
            rintro w7 h7
            have hb7 := hb6.trans (h7.mono hb6.size)
            go_simp
            go_wp2_with fail
            go_roundw
            case rel => exact ⟨2, by omega, by go_num, hb7⟩
            case measure => simp [intOf]
        · skip
          have c0 := cell_of_heap (o := 14) E8.out
          have c1 := cell_of_heap (o := 15) E8.out
          have c2 := cell_of_heap (o := 16) E8.out
          have c3 := cell_of_heap (o := 17) E8.out
          have c4 := cell_of_heap (o := 18) E8.out
          have c5 := cell_of_heap (o := 19) E8.out
          have c6 := cell_of_heap (o := 20) E8.out
          simp only [List.getElem?_toArray, List.getElem?_cons_zero, List.getElem?_cons_succ] at c0 c1 c2 c3 c4 c5 c6
          go_wp2_with fail
          obtain ⟨B6, hB6⟩ : ∃ b, wr.heap.size = b := ⟨_, rfl⟩
          rw [hB6]
          obtain ⟨W6, hW6⟩ : ∃ W6, wr.alloc (.cells #[.int .i64 3, .int .i64 0, .string ⟨#[]⟩, .int .i64 (z % 201), .int .i64 0, .slice A q c, .bool w2] 43) = W6 := ⟨_, rfl⟩
          rw [hW6]
          have k1 : W6.heap[B6]? = some (.cells #[.int .i64 3, .int .i64 0, .string ⟨#[]⟩, .int .i64 (z % 201), .int .i64 0, .slice A q c, .bool w2] 43 (0, 0)) := by rw [← hW6, ← hB6]; exact World.alloc_heap_new _ _
          have hb6 : Below W5.heap.size W5 W6 := by rw [← hW6]; exact hbe.alloc hbe.size _
          have hw6 := hw5.trans (hb6.mono hw5.size)
          have bw6 := HBW.out.trans (hw6.mono HBW.out.size)
          clear c0 c1 c2 c3 c4 c5 c6 hW6 hB6
          have c0 := cell_of_heap (o := 0) k1
          have c1 := cell_of_heap (o := 1) k1
          have c2 := cell_of_heap (o := 2) k1
          have c3 := cell_of_heap (o := 3) k1
          have c4 := cell_of_heap (o := 4) k1
          have c5 := cell_of_heap (o := 5) k1
          have c6 := cell_of_heap (o := 6) k1
          have e9 := (hw6.block _ l0).trans G0.out
          have y0 := cell_of_heap (o := 0) e9
          have y1 := cell_of_heap (o := 1) e9
          have y2 := cell_of_heap (o := 2) e9
          have y3 := cell_of_heap (o := 3) e9
          simp only [List.getElem?_toArray, List.getElem?_cons_zero, List.getElem?_cons_succ] at c0 c1 c2 c3 c4 c5 c6 y0 y1 y2 y3
          have ln := lt_of_heap k1
          have ly := lt_of_heap e9
          clear e9 k1
          obtain ⟨qk, hqk⟩ : ∃ b, checkB (leastR (z % 201) A q c l) = b := ⟨_, rfl⟩
          have HKn : Hid (∀ W, Below W6.heap.size W6 W → Calls Tryd.prog 20 #[.agg #[.int .i64 3, .int .i64 0, .string ⟨#[]⟩, .int .i64 (z % 201), .int .i64 0, .slice A q c]] W fun e w' => e = .returned (.int .i64 (okOr qk 120)) ∧ Below W.heap.size W w') := fun W h => by
            have hc := uCheck_any hh (leastR (z % 201) A q c l) W (HL.out W (bw6.trans (h.mono bw6.size))) (HKK.out.below (bw6.trans (h.mono bw6.size)) lk)
            rw [hqk] at hc; exact hc
          have HHn : Hid (qk = true → ∀ W, Below W6.heap.size W6 W → Calls Tryd.prog 22 #[.agg #[.int .i64 3, .int .i64 0, .string ⟨#[]⟩, .int .i64 (z % 201), .int .i64 0, .slice A q c], .agg #[.slice s.sA s.sn s.sc, .int .i64 s.earned, .int .i64 s.num, .int .i64 s.den]] W fun e w' => e = .returned (.bool w2) ∧ Below W.heap.size W w') := fun hq W h => by
            have hc := holds12_any hh (leastR (z % 201) A q c l) s W (HL.out W (bw6.trans (h.mono bw6.size))) (HSa.out W (bw6.trans (h.mono bw6.size))) (HKK.out.below (bw6.trans (h.mono bw6.size)) lk)
            rw [holdsB_eq (hqk.trans hq) HQF.out, HE2.out] at hc; exact hc
          clear hqk
          cases qk
          · skip
            dsimp only [okOr] at HKn
            refine wp_region_S W6.heap.size 13 (fun _ => false) (Nat.le_refl _) (by kernel_rfl) (by kernel_rfl) (by kernel_rfl) ?_
            dsimp only [List.take, List.drop]
            apply relS_det (mask := [])
            · rfl
            · kernel_rfl
            · kernel_rfl
            · dsimp only [oblS]
              rintro w9 h9
              go_simp
              exact ⟨Below.refl _ _, rfl⟩
            dsimp only [List.nil_append, List.cons_append]
            apply relS_det (mask := [true])
            · rfl
            · kernel_rfl
            · kernel_rfl
            · dsimp only [oblS]
              rintro w9 h9
              have hc9 := (bcell h9).1
              go_simp
              exact ⟨Below.refl _ _, rfl⟩
            dsimp only [List.nil_append, List.cons_append]
            apply relS_det (mask := [false, true]) (x := .int .i64 120)
            · rfl
            · kernel_rfl
            · kernel_rfl
            · dsimp only [oblS]
              rintro w9 h9
              have hc9 := (bcell h9).1
              go_simp
              refine (HKn.out w9 h9).mono ?_
              rintro e w1 ⟨rfl, hb⟩
              exact ⟨_, rfl, hb, rfl⟩
            dsimp only [List.nil_append, List.cons_append]
            apply relS_det (mask := [false, false, true])
            · rfl
            · kernel_rfl
            · kernel_rfl
            · dsimp only [oblS]
              rintro w9 h9
              go_simp
              exact ⟨Below.refl _ _, rfl⟩
            dsimp only [List.nil_append, List.cons_append]
            apply relS_det (mask := [false, false, false, true])
            · rfl
            · kernel_rfl
            · kernel_rfl
            · dsimp only [oblS]
              rintro w9 h9
              go_simp
              exact ⟨Below.refl _ _, rfl⟩
            dsimp only [List.nil_append, List.cons_append]
            apply relS_not (mask := [false, false, false, false, true]) (t := 115) (want := true) (hf := by rfl) (hg := by kernel_rfl) (hm := by kernel_rfl)
            · rfl
            dsimp only [List.nil_append, List.cons_append]
            apply relS_not (mask := [false, false, false, false, true, true]) (t := 115) (want := true) (hf := by rfl) (hg := by kernel_rfl) (hm := by kernel_rfl)
            · rfl
            dsimp only [List.nil_append, List.cons_append]
            apply relS_not (mask := [false, false, false, false, true, false, false]) (t := 115) (want := true) (hf := by rfl) (hg := by kernel_rfl) (hm := by kernel_rfl)
            · rfl
            dsimp only [List.nil_append, List.cons_append]
            apply relS_not (mask := [false, false, false, false, true, false, true, true]) (t := 115) (want := true) (hf := by rfl) (hg := by kernel_rfl) (hm := by kernel_rfl)
            · rfl
            dsimp only [List.nil_append, List.cons_append]
            apply relS_not (mask := [false, false, false, false, true, false, false, false, false]) (t := 115) (want := true) (hf := by rfl) (hg := by kernel_rfl) (hm := by kernel_rfl)
            · rfl
            dsimp only [List.nil_append, List.cons_append]
            apply relS_not (mask := [false, false, false, false, true, false, false, false, false, true]) (t := 115) (want := true) (hf := by rfl) (hg := by kernel_rfl) (hm := by kernel_rfl)
            · rfl
            dsimp only [List.nil_append, List.cons_append]
            apply relS_not (mask := [false, false, false, false, true, false, false, false, true, false, true]) (t := 115) (want := true) (hf := by rfl) (hg := by kernel_rfl) (hm := by kernel_rfl)
            · rfl
            dsimp only [List.nil_append, List.cons_append]
            apply relS_det (mask := [false, false, false, false, true, false, false, false, false, false, false, true])
            · rfl
            · kernel_rfl
            · kernel_rfl
            · dsimp only [oblS]
              rintro w9 h9
              go_simp
              exact ⟨Below.refl _ _, rfl⟩
            dsimp only [List.nil_append, List.cons_append]
            refine relS_end (by rfl) ?_
            dsimp only [finS]
            -- rintro  w8 hb
            rintro w7 h7
            have hb7 := hb6.trans (h7.mono hb6.size)
            go_simp
            go_wp2_with fail
            go_roundw
            case rel => exact ⟨3, by omega, by go_num, hb7⟩
            case measure => simp [intOf]
          · skip
            dsimp only [okOr] at HKn
            refine wp_region_S W6.heap.size 13 (fun _ => false) (Nat.le_refl _) (by kernel_rfl) (by kernel_rfl) (by kernel_rfl) ?_
            dsimp only [List.take, List.drop]
            apply relS_det (mask := [])
            · rfl
            · kernel_rfl
            · kernel_rfl
            · dsimp only [oblS]
              rintro w9 h9
              go_simp
              exact ⟨Below.refl _ _, rfl⟩
            dsimp only [List.nil_append, List.cons_append]
            apply relS_det (mask := [true])
            · rfl
            · kernel_rfl
            · kernel_rfl
            · dsimp only [oblS]
              rintro w9 h9
              have hc9 := (bcell h9).1
              go_simp
              exact ⟨Below.refl _ _, rfl⟩
            dsimp only [List.nil_append, List.cons_append]
            apply relS_det (mask := [false, true]) (x := .int .i64 0)
            · rfl
            · kernel_rfl
            · kernel_rfl
            · dsimp only [oblS]
              rintro w9 h9
              have hc9 := (bcell h9).1
              go_simp
              refine (HKn.out w9 h9).mono ?_
              rintro e w1 ⟨rfl, hb⟩
              exact ⟨_, rfl, hb, rfl⟩
            dsimp only [List.nil_append, List.cons_append]
            apply relS_det (mask := [false, false, true])
            · rfl
            · kernel_rfl
            · kernel_rfl
            · dsimp only [oblS]
              rintro w9 h9
              go_simp
              exact ⟨Below.refl _ _, rfl⟩
            dsimp only [List.nil_append, List.cons_append]
            apply relS_det (mask := [false, false, false, true])
            · rfl
            · kernel_rfl
            · kernel_rfl
            · dsimp only [oblS]
              rintro w9 h9
              go_simp
              exact ⟨Below.refl _ _, rfl⟩
            dsimp only [List.nil_append, List.cons_append]
            apply relS_detg (mask := [false, false, false, false, true]) (t := 115) (want := true)
            · rfl
            · kernel_rfl
            · kernel_rfl
            · dsimp only [oblS]
              refine ⟨by rfl, ?_⟩
              rintro w9 h9
              go_simp
              exact ⟨Below.refl _ _, rfl⟩
            dsimp only [List.nil_append, List.cons_append]
            apply relS_detg (mask := [false, false, false, false, true, true]) (t := 115) (want := true)
            · rfl
            · kernel_rfl
            · kernel_rfl
            · dsimp only [oblS]
              refine ⟨by rfl, ?_⟩
              rintro w9 h9
              have hc9 := (bcell h9).1
              go_simp
              exact ⟨Below.refl _ _, rfl⟩
            dsimp only [List.nil_append, List.cons_append]
            apply relS_detg (mask := [false, false, false, false, true, false, false]) (t := 115) (want := true)
            · rfl
            · kernel_rfl
            · kernel_rfl
            · dsimp only [oblS]
              refine ⟨by rfl, ?_⟩
              rintro w9 h9
              have hc9 := (bcell h9).1
              go_simp
              exact ⟨Below.refl _ _, rfl⟩
            dsimp only [List.nil_append, List.cons_append]
            apply relS_detg (mask := [false, false, false, false, true, false, true, true]) (t := 115) (want := true) (x := .bool w2)
            · rfl
            · kernel_rfl
            · kernel_rfl
            · dsimp only [oblS]
              refine ⟨by rfl, ?_⟩
              rintro w9 h9
              have hc9 := (bcell h9).1
              go_simp
              refine (HHn.out rfl w9 h9).mono ?_
              rintro e w1 ⟨rfl, hb⟩
              exact ⟨_, rfl, hb, rfl⟩
            dsimp only [List.nil_append, List.cons_append]
            apply relS_detg (mask := [false, false, false, false, true, false, false, false, false]) (t := 115) (want := true)
            · rfl
            · kernel_rfl
            · kernel_rfl
            · dsimp only [oblS]
              refine ⟨by rfl, ?_⟩
              rintro w9 h9
              go_simp
              exact ⟨Below.refl _ _, rfl⟩
            dsimp only [List.nil_append, List.cons_append]
            apply relS_detg (mask := [false, false, false, false, true, false, false, false, false, true]) (t := 115) (want := true)
            · rfl
            · kernel_rfl
            · kernel_rfl
            · dsimp only [oblS]
              refine ⟨by rfl, ?_⟩
              rintro w9 h9
              have hc9 := (bcell h9).1
              go_simp
              exact ⟨Below.refl _ _, rfl⟩
            dsimp only [List.nil_append, List.cons_append]
            apply relS_detg (mask := [false, false, false, false, true, false, false, false, true, false, true]) (t := 115) (want := true) (x := .bool false)
            · rfl
            · kernel_rfl
            · kernel_rfl
            · dsimp only [oblS]
              refine ⟨by rfl, ?_⟩
              rintro w9 h9
              cases w2 <;> (go_simp; exact ⟨Below.refl _ _, rfl⟩)
            dsimp only [List.nil_append, List.cons_append]
            apply relS_det (mask := [false, false, false, false, true, false, false, false, false, false, false, true])
            · rfl
            · kernel_rfl
            · kernel_rfl
            · dsimp only [oblS]
              rintro w9 h9
              go_simp
              exact ⟨Below.refl _ _, rfl⟩
            dsimp only [List.nil_append, List.cons_append]
            refine relS_end (by rfl) ?_
            dsimp only [finS]
            -- rintro  w8 hb
            rintro w7 h7
            have hb7 := hb6.trans (h7.mono hb6.size)
            go_simp
            go_wp2_with fail
            go_roundw
            case rel => exact ⟨3, by omega, by go_num, hb7⟩
            case measure => simp [intOf]
        · go_wp2_with fail
          go_ret
          exact ⟨rfl, bwr⟩
end Go.Proofs.YtbmbpannhncpjaaDoor
