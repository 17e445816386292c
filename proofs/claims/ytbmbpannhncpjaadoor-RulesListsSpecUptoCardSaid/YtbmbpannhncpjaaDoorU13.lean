/- The reference's About; the law's most and plain; SameInts (printed by tools/gen78.py). -/
import Derived.Test.YtbmbpannhncpjaaDoorU4
namespace Go.Proofs.YtbmbpannhncpjaaDoor
open Go.RowKit Go.Sort

set_option maxRecDepth 100000 in
set_option maxHeartbeats 2000000 in
theorem vAbout_any (s : Si) (c : Int) (w : World) (hs : SiIn w w.heap.size s) : Calls Tryd.prog 47 #[.agg #[.slice s.sA s.sn s.sc, .int .i64 s.earned, .int .i64 s.num, .int .i64 s.den], .int .i64 c] w fun e w' =>
    e = .returned (.agg #[.int .i64 (aboutS s.seen c).course, .int .i64 (aboutS s.seen c).tries, .int .i64 (aboutS s.seen c).best, .bool (aboutS s.seen c).now]) ∧ Below w.heap.size w w' := by
  have HN := hidp hs.1
  have hcap := hs.2.2.1
  have hlen := hs.2.1
  obtain ⟨W0, hW0⟩ : ∃ W0, (w.alloc (.cells #[.slice s.sA s.sn s.sc, .int .i64 s.earned, .int .i64 s.num, .int .i64 s.den] 29)).alloc (.cells #[.int .i64 0, .int .i64 0, .int .i64 0, .bool false] 49) = W0 := ⟨_, rfl⟩
  have hBW : Below w.heap.size w W0 := by rw [← hW0]; exact ((Below.refl _ w).alloc (Nat.le_refl _) _).alloc (by simp) _
  have g1 : W0.heap[w.heap.size]? = some (.cells #[.slice s.sA s.sn s.sc, .int .i64 s.earned, .int .i64 s.num, .int .i64 s.den] 29 (0, 0)) := by rw [← hW0]; exact (Below.heap_alloc _ _ _ (by simp)).trans (World.alloc_heap_new _ _)
  have g2 : W0.heap[w.heap.size + 1]? = some (.cells #[.int .i64 0, .int .i64 0, .int .i64 0, .bool false] 49 (0, 0)) := by rw [← hW0]; have := World.alloc_heap_new (w.alloc (.cells #[.slice s.sA s.sn s.sc, .int .i64 s.earned, .int .i64 s.num, .int .i64 s.den] 29)) (.cells #[.int .i64 0, .int .i64 0, .int .i64 0, .bool false] 49); rwa [World.size_alloc] at this
  have HW0 := hidp hW0
  have l1 := lt_of_heap g1
  have l2 := lt_of_heap g2
  have G1 := hidp g1
  have G2 := hidp g2
  clear hW0 g1 g2
  go_enter Tryd.func47, Tryd.ntmps47
  go_wp2_with fail
  rw [HW0.out]
  go_loopw [5] (fun i wr => ∃ k : Nat, k ≤ s.sn ∧ i = .int .i64 k ∧ aboutS s.seen c = aboutS (s.seen.drop k) c ∧ Below W0.heap.size W0 wr) (fun i _ => s.sn - (intOf i).toNat)
  case atStart => exact ⟨0, by omega, rfl, rfl, Below.refl _ _⟩
  case round =>
    obtain ⟨k, hk, rfl, hno, hbe⟩ := hrel
    have HA := hidp hno
    clear hno
    have hbw := hBW.trans (hbe.mono hBW.size)
    have e2 := (hbe.block _ l2).trans G2.out
    have l2r := lt_of_heap e2
    have E2 := hidp e2
    have r0 := frozen_of_heap (o := 0) e2
    have r1 := frozen_of_heap (o := 1) e2
    have r2 := frozen_of_heap (o := 2) e2
    have r3 := frozen_of_heap (o := 3) e2
    have e1 := (hbe.block _ l1).trans G1.out
    have x0 := cell_of_heap (o := 0) e1
    have q0 := cell_of_heap (o := 0) e2
    have q1 := cell_of_heap (o := 1) e2
    have q2 := cell_of_heap (o := 2) e2
    have q3 := cell_of_heap (o := 3) e2
    simp only [List.getElem?_toArray, List.getElem?_cons_zero, List.getElem?_cons_succ] at x0 q0 q1 q2 q3
    have m1 := lt_of_heap e1
    clear e1 e2
    by_cases hlt : k < s.sn
    · have hsk : SiIn wr w.heap.size s := hs.below hbw
      obtain ⟨b, off, y, he, hb, hzk, c0, c1, c2, c3⟩ := snSl.get hsk hlt
      have HY := hidp (drop_cons hzk)
      have lb := lt_of_cell c0
      have hkn : (k : Int) < s.sn := by omega
      rw [he] at x0
      rw [he]
      clear hzk hsk he
      by_cases h0 : y.course = c
      · have hd : (y.course == c) = true := by simp [h0]
        have HR : Hid (aboutS s.seen c = y) := by show _ = _; rw [HA.out, HY.out, aboutS, if_pos h0]
        clear h0
        go_wp2_with fail
        obtain ⟨W9, hW9⟩ : ∃ W9, ((((wr.setCell ⟨w.heap.size + 1, 0, none⟩ (.int .i64 y.course)).setCell ⟨w.heap.size + 1, 1, none⟩ (.int .i64 y.tries)).setCell ⟨w.heap.size + 1, 2, none⟩ (.int .i64 y.best)).setCell ⟨w.heap.size + 1, 3, none⟩ (.bool y.now)) = W9 := ⟨_, rfl⟩
        have e9 : W9.heap[w.heap.size + 1]? = some (.cells #[.int .i64 y.course, .int .i64 y.tries, .int .i64 y.best, .bool y.now] 49 (0, 0)) := by rw [← hW9]; exact heap_set4 E2.out
        have hb9 : Below w.heap.size w W9 := by rw [← hW9]; exact (((hbw.setCell (by simp) _).setCell (by simp) _).setCell (by simp) _).setCell (by simp) _
        rw [hW9]
        have z0 := cell_of_heap (o := 0) e9
        have z1 := cell_of_heap (o := 1) e9
        have z2 := cell_of_heap (o := 2) e9
        have z3 := cell_of_heap (o := 3) e9
        simp only [List.getElem?_toArray, List.getElem?_cons_zero, List.getElem?_cons_succ] at z0 z1 z2 z3
        refine bodyPost_ret (v := .agg #[.int .i64 y.course, .int .i64 y.tries, .int .i64 y.best, .bool y.now]) ?_ rfl ⟨by rw [HR.out], hb9⟩
        simp [results, Tryd.f47, go_sem, z0, z1, z2, z3]
      · have hd : (y.course == c) = false := by simp [h0]
        have HR : Hid (aboutS s.seen c = aboutS (s.seen.drop (k + 1)) c) := by show _ = _; rw [HA.out, HY.out, aboutS, if_neg h0]
        clear h0
        go_wp2_with fail
        go_roundw
        case rel => exact ⟨k + 1, by omega, by go_num, HR.out, hbe⟩
        case measure => simp [intOf]; omega
    · obtain rfl : k = s.sn := by omega
      have HR : Hid (aboutS s.seen c = ⟨c, 0, -1, false⟩) := by show _ = _; rw [HA.out, List.drop_of_length_le (by rw [← HN.out]; omega)]; rfl
      go_wp2_with fail
      obtain ⟨W9, hW9⟩ : ∃ W9, ((((wr.setCell ⟨w.heap.size + 1, 0, none⟩ (.int .i64 c)).setCell ⟨w.heap.size + 1, 1, none⟩ (.int .i64 0)).setCell ⟨w.heap.size + 1, 2, none⟩ (.int .i64 (-1))).setCell ⟨w.heap.size + 1, 3, none⟩ (.bool false)) = W9 := ⟨_, rfl⟩
      have e9 : W9.heap[w.heap.size + 1]? = some (.cells #[.int .i64 c, .int .i64 0, .int .i64 (-1), .bool false] 49 (0, 0)) := by rw [← hW9]; exact heap_set4 E2.out
      have hb9 : Below w.heap.size w W9 := by rw [← hW9]; exact (((hbw.setCell (by simp) _).setCell (by simp) _).setCell (by simp) _).setCell (by simp) _
      rw [hW9]
      have z0 := cell_of_heap (o := 0) e9
      have z1 := cell_of_heap (o := 1) e9
      have z2 := cell_of_heap (o := 2) e9
      have z3 := cell_of_heap (o := 3) e9
      simp only [List.getElem?_toArray, List.getElem?_cons_zero, List.getElem?_cons_succ] at z0 z1 z2 z3
      refine bodyPost_ret (v := .agg #[.int .i64 c, .int .i64 0, .int .i64 (-1), .bool false]) ?_ rfl ⟨by rw [HR.out], hb9⟩
      simp [results, Tryd.f47, go_sem, z0, z1, z2, z3]

def leB (x y : Sn) : Bool := decide (x.tries ≤ y.tries) && decide (x.best ≤ y.best) && (!x.now || y.now)
def mostB (a b : Si) : Bool := a.seen.all (fun x => leB x (aboutS b.seen x.course)) && decide (a.earned ≤ b.earned) && decide (a.num * b.den ≤ b.num * a.den)

set_option maxRecDepth 100000 in
set_option maxHeartbeats 4000000 in
theorem most_any (a b : Si) (w : World) (ha : SiIn w w.heap.size a) (hb : SiIn w w.heap.size b) (ra : ratB a.num a.den = true) (rb : ratB b.num b.den = true) :
    Calls Tryd.prog 24 #[.agg #[.slice a.sA a.sn a.sc, .int .i64 a.earned, .int .i64 a.num, .int .i64 a.den], .agg #[.slice b.sA b.sn b.sc, .int .i64 b.earned, .int .i64 b.num, .int .i64 b.den]] w fun e w' => e = .returned (.bool (mostB a b)) ∧ Below w.heap.size w w' := by
  have HN := hidp ha.1
  have hcap := ha.2.2.1
  have hlen := ha.2.1
  obtain ⟨a1, a2, a3, a4⟩ := rat_bd ra
  obtain ⟨b1, b2, b3, b4⟩ := rat_bd rb
  have hm1 := mul_bd a3 a4 b1 b2
  have hm2 := mul_bd b3 b4 a1 a2
  obtain ⟨p, hp⟩ : ∃ p, a.num * b.den = p := ⟨_, rfl⟩
  obtain ⟨q, hq⟩ : ∃ q, b.num * a.den = q := ⟨_, rfl⟩
  have HM : Hid (mostB a b = (a.seen.all (fun x => leB x (aboutS b.seen x.course)) && decide (a.earned ≤ b.earned) && decide (p ≤ q))) := by show _ = _; rw [mostB, hp, hq]
  rw [hp] at hm1
  rw [hq] at hm2
  have HP : Hid (IntKind.i64.wrap (a.num * b.den) = p) := by show _ = _; rw [hp]; exact IntWalk.i64_in _ (by omega)
  have HQ : Hid (IntKind.i64.wrap (b.num * a.den) = q) := by show _ = _; rw [hq]; exact IntWalk.i64_in _ (by omega)
  clear hp hq hm1 hm2 a1 a2 a3 a4 b1 b2 b3 b4 ra rb
  obtain ⟨W0, hW0⟩ : ∃ W0, (w.alloc (.cells #[.slice a.sA a.sn a.sc, .int .i64 a.earned, .int .i64 a.num, .int .i64 a.den] 29)).alloc (.cells #[.slice b.sA b.sn b.sc, .int .i64 b.earned, .int .i64 b.num, .int .i64 b.den] 29) = W0 := ⟨_, rfl⟩
  have hBW : Below w.heap.size w W0 := by rw [← hW0]; exact ((Below.refl _ w).alloc (Nat.le_refl _) _).alloc (by simp) _
  have g1 : W0.heap[w.heap.size]? = some (.cells #[.slice a.sA a.sn a.sc, .int .i64 a.earned, .int .i64 a.num, .int .i64 a.den] 29 (0, 0)) := by rw [← hW0]; exact (Below.heap_alloc _ _ _ (by simp)).trans (World.alloc_heap_new _ _)
  have g2 : W0.heap[w.heap.size + 1]? = some (.cells #[.slice b.sA b.sn b.sc, .int .i64 b.earned, .int .i64 b.num, .int .i64 b.den] 29 (0, 0)) := by rw [← hW0]; have := World.alloc_heap_new (w.alloc (.cells #[.slice a.sA a.sn a.sc, .int .i64 a.earned, .int .i64 a.num, .int .i64 a.den] 29)) (.cells #[.slice b.sA b.sn b.sc, .int .i64 b.earned, .int .i64 b.num, .int .i64 b.den] 29); rwa [World.size_alloc] at this
  have HW0 := hidp hW0
  have l1 := lt_of_heap g1
  have l2 := lt_of_heap g2
  have G1 := hidp g1
  have G2 := hidp g2
  clear hW0 g1 g2
  go_enter Tryd.func24, Tryd.ntmps24
  go_wp2_with fail
  rw [HW0.out]
  go_loopw [5] (fun i wr => ∃ k : Nat, k ≤ a.sn ∧ i = .int .i64 k ∧ (a.seen.take k).all (fun x => leB x (aboutS b.seen x.course)) = true ∧ Below W0.heap.size W0 wr) (fun i _ => a.sn - (intOf i).toNat)
  case atStart => exact ⟨0, by omega, rfl, rfl, Below.refl _ _⟩
  case round =>
    obtain ⟨k, hk, rfl, hno, hbe⟩ := hrel
    have HA := hidp hno
    clear hno
    have hbw := hBW.trans (hbe.mono hBW.size)
    have e1 := (hbe.block _ l1).trans G1.out
    have e2 := (hbe.block _ l2).trans G2.out
    have x0 := cell_of_heap (o := 0) e1
    have x1 := cell_of_heap (o := 1) e1
    have x2 := cell_of_heap (o := 2) e1
    have x3 := cell_of_heap (o := 3) e1
    simp only [List.getElem?_toArray, List.getElem?_cons_zero, List.getElem?_cons_succ] at x0 x1 x2 x3
    have y0 := cell_of_heap (o := 0) e2
    have y1 := cell_of_heap (o := 1) e2
    have y2 := cell_of_heap (o := 2) e2
    have y3 := cell_of_heap (o := 3) e2
    simp only [List.getElem?_toArray, List.getElem?_cons_zero, List.getElem?_cons_succ] at y0 y1 y2 y3
    have m1 := lt_of_heap e1
    have m2 := lt_of_heap e2
    clear e1 e2
    by_cases hlt : k < a.sn
    · have hsk : SiIn wr w.heap.size a := ha.below hbw
      obtain ⟨bb, off, y, he, hbb, hzk, c0, c1, c2, c3⟩ := snSl.get hsk hlt
      have HY := hidp hzk
      have lb := lt_of_cell c0
      have hkn : (k : Int) < a.sn := by omega
      obtain ⟨W4, hW4⟩ : ∃ W4, wr.alloc (.cells #[.int .i64 y.course, .int .i64 y.tries, .int .i64 y.best, .bool y.now] 49) = W4 := ⟨_, rfl⟩
      have hb4 : Below wr.heap.size wr W4 := hW4 ▸ (Below.refl _ _).alloc (Nat.le_refl _) _
      have e4 : W4.heap[wr.heap.size]? = some (.cells #[.int .i64 y.course, .int .i64 y.tries, .int .i64 y.best, .bool y.now] 49 (0, 0)) := hW4 ▸ World.alloc_heap_new _ _
      have hbw4 := hbw.trans (hb4.mono hbw.size)
      have hcl := vAbout_any b y.course W4 (hb.keep hbw4.size hbw4.block)
      obtain ⟨z, hz⟩ : ∃ z, aboutS b.seen y.course = z := ⟨_, rfl⟩
      rw [hz] at hcl
      have HCL := hidp hcl
      have HZ := hidp hz
      have HW4 := hidp hW4
      have HB4 := hidp hb4
      have E4 := hidp e4
      have l4 := lt_of_heap e4
      rw [he] at x0
      rw [he]
      clear hzk hsk he hcl hz hW4 hb4 e4 hbw4
      go_wp2_with fail
      rw [HW4.out]
      go_wp2_with fail
      refine HCL.out.mono ?_
      rintro e w5 ⟨rfl, hb5⟩
      have hB5 : Below W0.heap.size W0 w5 := hbe.trans ((HB4.out.trans (hb5.mono HB4.out.size)).mono hbe.size)
      have hBw5 := hBW.trans (hB5.mono hBW.size)
      have e5 := (hb5.block _ l4).trans E4.out
      have n5 := lt_of_heap e5
      have t0 := cell_of_heap (o := 0) e5
      have t1 := cell_of_heap (o := 1) e5
      have t2 := cell_of_heap (o := 2) e5
      have t3 := cell_of_heap (o := 3) e5
      simp only [List.getElem?_toArray, List.getElem?_cons_zero, List.getElem?_cons_succ] at t0 t1 t2 t3
      clear e5 x0 x1 x2 x3 y0 y1 y2 y3 c0 c1 c2 c3
      have hBf := fun o => hB5.alloc hB5.size o
      have HBf := hidp hBf
      clear hBf
      by_cases h1 : y.tries ≤ z.tries
      · by_cases h2 : y.best ≤ z.best
        · cases h3 : y.now
          · rw [h3] at t3
            have HR : Hid (leB y z = true) := by show _ = _; simp [leB, h1, h2, h3]
            go_wp2_with fail
            go_roundw
            case rel => exact ⟨k + 1, by omega, by go_num, by rw [take_snoc HY.out, List.all_append, HA.out]; simp [HZ.out, HR.out], HBf.out _⟩
            case measure => simp [intOf]; omega
          · rw [h3] at t3
            cases h4 : z.now
            · have HR : Hid (mostB a b = false) := by
                show _ = _
                rw [HM.out, Bool.eq_false_iff]
                intro h
                simp only [Bool.and_eq_true, List.all_eq_true] at h
                have := h.1.1 y (List.mem_of_getElem? HY.out)
                rw [HZ.out] at this
                simp [leB, h3, h4] at this
                try omega
              go_wp2_with fail
              go_ret
              exact ⟨ret_bool HR.out.symm, hBW.trans ((HBf.out _).mono hBW.size)⟩
            · skip
              have HR : Hid (leB y z = true) := by show _ = _; simp [leB, h1, h2, h3, h4]
              go_wp2_with fail
              go_roundw
              case rel => exact ⟨k + 1, by omega, by go_num, by rw [take_snoc HY.out, List.all_append, HA.out]; simp [HZ.out, HR.out], HBf.out _⟩
              case measure => simp [intOf]; omega
        · skip
          have HR : Hid (mostB a b = false) := by
            show _ = _
            rw [HM.out, Bool.eq_false_iff]
            intro h
            simp only [Bool.and_eq_true, List.all_eq_true] at h
            have := h.1.1 y (List.mem_of_getElem? HY.out)
            rw [HZ.out] at this
            simp [leB, h2] at this
            try omega
          go_wp2_with fail
          go_ret
          exact ⟨ret_bool HR.out.symm, hBW.trans ((HBf.out _).mono hBW.size)⟩
      · skip
        have HR : Hid (mostB a b = false) := by
          show _ = _
          rw [HM.out, Bool.eq_false_iff]
          intro h
          simp only [Bool.and_eq_true, List.all_eq_true] at h
          have := h.1.1 y (List.mem_of_getElem? HY.out)
          rw [HZ.out] at this
          simp [leB, h1] at this
          try omega
        go_wp2_with fail
        go_ret
        exact ⟨ret_bool HR.out.symm, hBW.trans ((HBf.out _).mono hBW.size)⟩
    · obtain rfl : k = a.sn := by omega
      have HT : Hid (a.seen.all (fun x => leB x (aboutS b.seen x.course)) = true) := by have := HA.out; rw [HN.out, List.take_length] at this; exact this
      by_cases h1 : a.earned ≤ b.earned
      · have h1' : decide (a.earned ≤ b.earned) = true := by simpa using h1
        have HR : Hid (mostB a b = decide (p ≤ q)) := by show _ = _; rw [HM.out, HT.out, h1']; simp
        have hp := HP.out
        have hq := HQ.out
        clear h1
        go_wp2_with fail
        go_ret
        exact ⟨ret_bool HR.out.symm, hbw⟩
      · have h1' : decide (a.earned ≤ b.earned) = false := by simpa using h1
        have HR : Hid (mostB a b = false) := by show _ = _; rw [HM.out, h1']; simp
        clear h1
        go_wp2_with fail
        go_ret
        exact ⟨ret_bool HR.out.symm, hbw⟩

set_option maxHeartbeats 400000 in
theorem plain12_any (w : World) : Calls Tryd.prog 25 #[] w fun e w' => e = .returned (.agg #[.slice none 0 0, .int .i64 0, .int .i64 0, .int .i64 1]) ∧ Below w.heap.size w w' := by
  have HB := hidp ((Below.refl w.heap.size w).alloc (Nat.le_refl _) (.cells #[.slice none 0 0, .int .i64 0, .int .i64 0, .int .i64 1] 29))
  go_enter Tryd.func25, Tryd.ntmps25
  go_wp2_with fail
  refine bodyPost_ret (v := .agg #[.slice none 0 0, .int .i64 0, .int .i64 0, .int .i64 1]) ?_ rfl ⟨rfl, HB.out⟩
  simp [results, Tryd.f25, go_sem]

set_option maxRecDepth 100000 in
set_option maxHeartbeats 1000000 in
theorem vSameInts_any (A A' : Option Addr) (n c n' c' : Nat) (l l' : List Int) (w : World) (hl : ISl w w.heap.size A n c l) (hl' : ISl w w.heap.size A' n' c' l') :
    Calls Tryd.prog 17 #[.slice A n c, .slice A' n' c'] w fun e w' => e = .returned (.bool (decide (l = l'))) ∧ Below w.heap.size w w' := by
  have HN := hidp hl.1
  have HN' := hidp hl'.1
  have hcap := hl.2.2.1
  have hlen := hl.2.1
  by_cases hn : n = n'
  · subst hn
    have hd : ((n : Int) != n) = false := by simp
    go_enter Tryd.func17, Tryd.ntmps17
    go_wp2_with fail
    go_loopw [5] (fun i wr => ∃ k : Nat, k ≤ n ∧ i = .int .i64 k ∧ l.take k = l'.take k ∧ Below w.heap.size w wr) (fun i _ => n - (intOf i).toNat)
    case atStart => exact ⟨0, by omega, rfl, rfl, Below.refl _ _⟩
    case round =>
      obtain ⟨k, hk, rfl, hno, hbe⟩ := hrel
      have HA := hidp hno
      clear hno
      by_cases hlt : k < n
      · obtain ⟨b, off, x, rfl, hb, hzx, c0⟩ := ISl.get (hl.below iStable hbe) hlt
        obtain ⟨b', off', y, rfl, hb', hzy, d0⟩ := ISl.get (hl'.below iStable hbe) hlt
        have HX := hidp hzx
        have HY := hidp hzy
        have lb := lt_of_cell c0
        have lb' := lt_of_cell d0
        have hkn : (k : Int) < n := by omega
        obtain ⟨q, hq⟩ : ∃ q, (x != y) = q := ⟨_, rfl⟩
        have HQ := hidp hq
        clear hzx hzy
        go_wp2_with fail
        refine wp_region_below wr.heap.size (by kernel_rfl) (by kernel_rfl) ?_
        repeat
          refine q_step (by rfl) ?_
          apply Exists.intro
          refine ⟨fun w9 h9 => ?_, ?_⟩
          · have hc9 := (bcell h9).1
            go_simp
            first | done | rfl
          go_simp
        refine wpQuiet_nil ?_
        intro w9 hb9
        have hb3 := hbe.trans (hb9.mono hbe.size)
        clear hq c0 d0
        cases q
        · have hxy : x = y := by have := HQ.out; simpa using this
          have HS : Hid (l.take (k + 1) = l'.take (k + 1)) := by show _ = _; rw [take_snoc HX.out, take_snoc HY.out, HA.out, hxy]
          clear hxy
          go_wp2_with fail
          go_roundw
          case rel => exact ⟨k + 1, by omega, by go_num, HS.out, hb3⟩
          case measure => simp [intOf]; omega
        · have hxy : x ≠ y := by have := HQ.out; simpa using this
          have HR : Hid (decide (l = l') = false) := by
            show _ = _
            rw [decide_eq_false_iff_not]
            rintro rfl
            have h1 := HX.out
            rw [HY.out] at h1
            exact hxy (Option.some.inj h1).symm
          clear hxy
          go_wp2_with fail
          go_ret
          exact ⟨ret_bool HR.out.symm, hb3⟩
      · obtain rfl : k = n := by omega
        have HR : Hid (decide (l = l') = true) := by
          have := HA.out
          rw [List.take_of_length_le (by rw [← HN.out]; omega), List.take_of_length_le (by rw [← HN'.out]; omega)] at this
          show _ = _
          simpa using this
        go_wp2_with fail
        go_ret
        exact ⟨ret_bool HR.out.symm, hbe⟩
  · have hd : ((n : Int) != n') = true := by simp; omega
    have HR : Hid (decide (l = l') = false) := by
      show _ = _
      rw [decide_eq_false_iff_not]
      rintro rfl
      exact hn (HN.out.trans HN'.out.symm)
    clear hn
    go_enter Tryd.func17, Tryd.ntmps17
    go_wp2_with fail
    go_ret
    exact ⟨ret_bool HR.out.symm, Below.refl _ _⟩
end Go.Proofs.YtbmbpannhncpjaaDoor
