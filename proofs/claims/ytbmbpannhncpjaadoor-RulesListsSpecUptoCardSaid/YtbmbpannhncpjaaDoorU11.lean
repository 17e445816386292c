/- rules.Holds; the law's holds and plain (printed by tools/gen77.py). -/
import Derived.Test.YtbmbpannhncpjaaDoorU10
namespace Go.Proofs.YtbmbpannhncpjaaDoor
open Go.RowKit Go.Sort

def holdsE (x : Ru) (s : Si) : Int := okOr (checkB x && fitsB s) 120
def holdsB (x : Ru) (s : Si) : Bool := checkB x && fitsB s && valR s x

set_option maxRecDepth 100000 in
set_option maxHeartbeats 2000000 in
theorem uHolds_any (h : Nat) (x : Ru) (s : Si) (w : World) (hr : RuIn h w w.heap.size x) (hs : SiIn w w.heap.size s) (hkk : KindsAt w) :
    Calls Tryd.prog 12 #[.agg #[.int .i64 x.op, .int .i64 x.course, .string x.name, .int .i64 x.n, .int .i64 x.d, .slice x.kA x.kn x.kc], .agg #[.slice s.sA s.sn s.sc, .int .i64 s.earned, .int .i64 s.num, .int .i64 s.den]] w fun e w' => e = .returned (.tuple #[.bool (holdsB x s), .int .i64 (holdsE x s)]) ∧ Below w.heap.size w w' := by
  obtain ⟨W0, hW0⟩ : ∃ W0, (w.alloc (.cells #[.int .i64 x.op, .int .i64 x.course, .string x.name, .int .i64 x.n, .int .i64 x.d, .slice x.kA x.kn x.kc] 24)).alloc (.cells #[.slice s.sA s.sn s.sc, .int .i64 s.earned, .int .i64 s.num, .int .i64 s.den] 29) = W0 := ⟨_, rfl⟩
  have hBW : Below w.heap.size w W0 := by rw [← hW0]; exact ((Below.refl _ w).alloc (Nat.le_refl _) _).alloc (by simp) _
  have g1 : W0.heap[w.heap.size]? = some (.cells #[.int .i64 x.op, .int .i64 x.course, .string x.name, .int .i64 x.n, .int .i64 x.d, .slice x.kA x.kn x.kc] 24 (0, 0)) := by rw [← hW0]; exact (Below.heap_alloc _ _ _ (by simp)).trans (World.alloc_heap_new _ _)
  have g2 : W0.heap[w.heap.size + 1]? = some (.cells #[.slice s.sA s.sn s.sc, .int .i64 s.earned, .int .i64 s.num, .int .i64 s.den] 29 (0, 0)) := by rw [← hW0]; have := World.alloc_heap_new (w.alloc (.cells #[.int .i64 x.op, .int .i64 x.course, .string x.name, .int .i64 x.n, .int .i64 x.d, .slice x.kA x.kn x.kc] 24)) (.cells #[.slice s.sA s.sn s.sc, .int .i64 s.earned, .int .i64 s.num, .int .i64 s.den] 29); rwa [World.size_alloc] at this
  have HW0 := hidp hW0
  have l1 := lt_of_heap g1
  have l2 := lt_of_heap g2
  have G1 := hidp g1
  have G2 := hidp g2
  have lk := hkk.lt
  have x0 := cell_of_heap (o := 0) g1
  have x1 := cell_of_heap (o := 1) g1
  have x2 := cell_of_heap (o := 2) g1
  have x3 := cell_of_heap (o := 3) g1
  have x4 := cell_of_heap (o := 4) g1
  have x5 := cell_of_heap (o := 5) g1
  simp only [List.getElem?_toArray, List.getElem?_cons_zero, List.getElem?_cons_succ] at x0 x1 x2 x3 x4 x5
  have y0 := cell_of_heap (o := 0) g2
  have y1 := cell_of_heap (o := 1) g2
  have y2 := cell_of_heap (o := 2) g2
  have y3 := cell_of_heap (o := 3) g2
  simp only [List.getElem?_toArray, List.getElem?_cons_zero, List.getElem?_cons_succ] at y0 y1 y2 y3
  have hc := uCheck_any h x W0 (hr.keep hBW.size hBW.block) (hkk.below hBW lk)
  obtain ⟨q, hq⟩ : ∃ q, checkB x = q := ⟨_, rfl⟩
  rw [hq] at hc
  have HC := hidp hc
  have HQ := hidp hq
  clear hW0 hc hq g1 g2
  cases q
  · have HR : Hid (holdsB x s = false ∧ holdsE x s = 120) := by show _ ∧ _; simp [holdsB, holdsE, HQ.out, okOr]
    dsimp only [okOr] at HC
    go_enter Tryd.func12, Tryd.ntmps12
    go_wp2_with fail
    rw [HW0.out]
    go_wp2_with fail
    refine HC.out.mono ?_
    rintro e w1 ⟨rfl, hb1⟩
    go_wp2_with fail
    go_ret2
    exact ⟨by rw [HR.out.1, HR.out.2]; rfl, hBW.trans (hb1.mono hBW.size)⟩
  · dsimp only [okOr] at HC
    go_enter Tryd.func12, Tryd.ntmps12
    go_wp2_with fail
    rw [HW0.out]
    go_wp2_with fail
    refine HC.out.mono ?_
    rintro e w1 ⟨rfl, hb1⟩
    have hBw1 := hBW.trans (hb1.mono hBW.size)
    clear x0 x1 x2 x3 x4 x5 y0 y1 y2 y3
    have e1 := (hb1.block _ l1).trans G1.out
    have e2 := (hb1.block _ l2).trans G2.out
    have x0 := cell_of_heap (o := 0) e1
    have x1 := cell_of_heap (o := 1) e1
    have x2 := cell_of_heap (o := 2) e1
    have x3 := cell_of_heap (o := 3) e1
    have x4 := cell_of_heap (o := 4) e1
    have x5 := cell_of_heap (o := 5) e1
    have y0 := cell_of_heap (o := 0) e2
    have y1 := cell_of_heap (o := 1) e2
    have y2 := cell_of_heap (o := 2) e2
    have y3 := cell_of_heap (o := 3) e2
    simp only [List.getElem?_toArray, List.getElem?_cons_zero, List.getElem?_cons_succ] at x0 x1 x2 x3 x4 x5 y0 y1 y2 y3
    clear e1 e2
    have hf := uFits_any s w1 (hs.keep hBw1.size hBw1.block)
    obtain ⟨z, hz⟩ : ∃ z, fitsB s = z := ⟨_, rfl⟩
    rw [hz] at hf
    have HF := hidp hf
    have HZ := hidp hz
    clear hf hz
    cases z
    · have HR : Hid (holdsB x s = false ∧ holdsE x s = 120) := by show _ ∧ _; simp [holdsB, holdsE, HZ.out, okOr]
      dsimp only [okOr] at HF
      go_wp2_with fail
      refine HF.out.mono ?_
      rintro e w2 ⟨rfl, hb2⟩
      go_wp2_with fail
      go_ret2
      exact ⟨by rw [HR.out.1, HR.out.2]; rfl, hBw1.trans (hb2.mono hBw1.size)⟩
    · dsimp only [okOr] at HF
      go_wp2_with fail
      refine HF.out.mono ?_
      rintro e w2 ⟨rfl, hb2⟩
      have hBw2 := hBw1.trans (hb2.mono hBw1.size)
      have hb02 := hb1.trans (hb2.mono hb1.size)
      clear x0 x1 x2 x3 x4 x5 y0 y1 y2 y3
      have e1 := (hb02.block _ l1).trans G1.out
      have e2 := (hb02.block _ l2).trans G2.out
      have x0 := cell_of_heap (o := 0) e1
      have x1 := cell_of_heap (o := 1) e1
      have x2 := cell_of_heap (o := 2) e1
      have x3 := cell_of_heap (o := 3) e1
      have x4 := cell_of_heap (o := 4) e1
      have x5 := cell_of_heap (o := 5) e1
      have y0 := cell_of_heap (o := 0) e2
      have y1 := cell_of_heap (o := 1) e2
      have y2 := cell_of_heap (o := 2) e2
      have y3 := cell_of_heap (o := 3) e2
      simp only [List.getElem?_toArray, List.getElem?_cons_zero, List.getElem?_cons_succ] at x0 x1 x2 x3 x4 x5 y0 y1 y2 y3
      clear e1 e2
      have hv := uvalue_any s (fits_mean HZ.out).1 h x w2 (hr.keep hBw2.size hBw2.block) (hs.keep hBw2.size hBw2.block) (hkk.below hBw2 lk) (allF_of_check HQ.out)
      obtain ⟨v, hv'⟩ : ∃ v, valR s x = v := ⟨_, rfl⟩
      rw [hv'] at hv
      have HR : Hid (holdsB x s = v ∧ holdsE x s = 0) := by show _ ∧ _; simp [holdsB, holdsE, HZ.out, HQ.out, okOr, hv']
      have HV := hidp hv
      clear hv hv'
      go_wp2_with fail
      refine HV.out.mono ?_
      rintro e w3 ⟨rfl, hb3⟩
      go_wp2_with fail
      go_ret2
      exact ⟨by rw [HR.out.1, HR.out.2]; rfl, hBw2.trans (hb3.mono hBw2.size)⟩

set_option maxRecDepth 100000 in
set_option maxHeartbeats 2000000 in
theorem holds12_any (h : Nat) (x : Ru) (s : Si) (w : World) (hr : RuIn h w w.heap.size x) (hs : SiIn w w.heap.size s) (hkk : KindsAt w) :
    Calls Tryd.prog 22 #[.agg #[.int .i64 x.op, .int .i64 x.course, .string x.name, .int .i64 x.n, .int .i64 x.d, .slice x.kA x.kn x.kc], .agg #[.slice s.sA s.sn s.sc, .int .i64 s.earned, .int .i64 s.num, .int .i64 s.den]] w fun e w' => e = .returned (.bool (holdsB x s)) ∧ Below w.heap.size w w' := by
  obtain ⟨W0, hW0⟩ : ∃ W0, (w.alloc (.cells #[.int .i64 x.op, .int .i64 x.course, .string x.name, .int .i64 x.n, .int .i64 x.d, .slice x.kA x.kn x.kc] 24)).alloc (.cells #[.slice s.sA s.sn s.sc, .int .i64 s.earned, .int .i64 s.num, .int .i64 s.den] 29) = W0 := ⟨_, rfl⟩
  have hBW : Below w.heap.size w W0 := by rw [← hW0]; exact ((Below.refl _ w).alloc (Nat.le_refl _) _).alloc (by simp) _
  have g1 : W0.heap[w.heap.size]? = some (.cells #[.int .i64 x.op, .int .i64 x.course, .string x.name, .int .i64 x.n, .int .i64 x.d, .slice x.kA x.kn x.kc] 24 (0, 0)) := by rw [← hW0]; exact (Below.heap_alloc _ _ _ (by simp)).trans (World.alloc_heap_new _ _)
  have g2 : W0.heap[w.heap.size + 1]? = some (.cells #[.slice s.sA s.sn s.sc, .int .i64 s.earned, .int .i64 s.num, .int .i64 s.den] 29 (0, 0)) := by rw [← hW0]; have := World.alloc_heap_new (w.alloc (.cells #[.int .i64 x.op, .int .i64 x.course, .string x.name, .int .i64 x.n, .int .i64 x.d, .slice x.kA x.kn x.kc] 24)) (.cells #[.slice s.sA s.sn s.sc, .int .i64 s.earned, .int .i64 s.num, .int .i64 s.den] 29); rwa [World.size_alloc] at this
  have HW0 := hidp hW0
  have l1 := lt_of_heap g1
  have l2 := lt_of_heap g2
  have G1 := hidp g1
  have G2 := hidp g2
  have lk := hkk.lt
  have x0 := cell_of_heap (o := 0) g1
  have x1 := cell_of_heap (o := 1) g1
  have x2 := cell_of_heap (o := 2) g1
  have x3 := cell_of_heap (o := 3) g1
  have x4 := cell_of_heap (o := 4) g1
  have x5 := cell_of_heap (o := 5) g1
  simp only [List.getElem?_toArray, List.getElem?_cons_zero, List.getElem?_cons_succ] at x0 x1 x2 x3 x4 x5
  have y0 := cell_of_heap (o := 0) g2
  have y1 := cell_of_heap (o := 1) g2
  have y2 := cell_of_heap (o := 2) g2
  have y3 := cell_of_heap (o := 3) g2
  simp only [List.getElem?_toArray, List.getElem?_cons_zero, List.getElem?_cons_succ] at y0 y1 y2 y3
  have hc := uHolds_any h x s W0 (hr.keep hBW.size hBW.block) (hs.keep hBW.size hBW.block) (hkk.below hBW lk)
  obtain ⟨q, hq⟩ : ∃ q, holdsB x s = q := ⟨_, rfl⟩
  obtain ⟨z, hz⟩ : ∃ z, holdsE x s = z := ⟨_, rfl⟩
  have HZ : Hid (q = true → z = 0) := by
    intro h
    rw [← hz, holdsE]
    rw [h] at hq
    simp only [holdsB, Bool.and_eq_true] at hq
    rw [hq.1.1, hq.1.2]; rfl
  rw [hq, hz] at hc
  rw [hq]
  have HC := hidp hc
  clear hW0 hc hq hz g1 g2 G1 G2
  cases q
  · go_enter Tryd.func22, Tryd.ntmps22
    go_wp2_with fail
    rw [HW0.out]
    go_wp2_with fail
    refine HC.out.mono ?_
    rintro e w1 ⟨rfl, hb1⟩
    go_wp2_with fail
    go_ret
    exact ⟨rfl, hBW.trans (hb1.mono hBW.size)⟩
  · obtain rfl := HZ.out rfl
    go_enter Tryd.func22, Tryd.ntmps22
    go_wp2_with fail
    rw [HW0.out]
    go_wp2_with fail
    refine HC.out.mono ?_
    rintro e w1 ⟨rfl, hb1⟩
    go_wp2_with fail
    go_ret
    exact ⟨rfl, hBW.trans (hb1.mono hBW.size)⟩

end Go.Proofs.YtbmbpannhncpjaaDoor
