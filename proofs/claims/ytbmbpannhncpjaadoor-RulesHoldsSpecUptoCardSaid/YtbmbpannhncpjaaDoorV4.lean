/- The reference's allFormed and Check (printed by tools/gen91.py). -/
import Derived.Test.YtbmbpannhncpjaaDoorV3
import Derived.Test.YtbmbpannhncpjaaDoorUP0
namespace Go.Proofs.YtbmbpannhncpjaaDoor
open Go.RowKit Go.Sort

theorem allFL_step {l : List Ru} {i : Nat} {x : Ru} (h : l[i]? = some x) : allFL (l.take (i + 1)) = (allFL (l.take i) && allF x) := by
  rw [take_snoc h, allFL_all, allFL_all, List.all_append]; simp
theorem allFL_no {l : List Ru} {i : Nat} {x : Ru} (h : l[i]? = some x) (hx : allF x = false) : allFL l = false := by
  rw [allFL_all, List.all_eq_false]
  exact ⟨x, List.mem_of_getElem? h, by simp [hx]⟩

set_option maxRecDepth 100000 in
set_option maxHeartbeats 2000000 in
theorem vallFormed_any : ∀ (h : Nat) (x : Ru) (w : World), RuIn h w w.heap.size x → Calls Tryd.prog 48 #[.agg #[.int .i64 x.op, .int .i64 x.course, .string x.name, .int .i64 x.n, .int .i64 x.d, .slice x.kA x.kn x.kc]] w fun e w' => e = .returned (.bool (allF x)) ∧ Below w.heap.size w w' := by
  intro h
  induction h using Nat.strongRecOn with
  | _ h ih =>
  intro x w hr
  have HI := hidp ih
  have HN := hidp hr.len
  have hcap := hr.2.2.1
  have hlen := hr.2.1
  obtain ⟨W0, hW0⟩ : ∃ W0, w.alloc (.cells #[.int .i64 x.op, .int .i64 x.course, .string x.name, .int .i64 x.n, .int .i64 x.d, .slice x.kA x.kn x.kc] 24) = W0 := ⟨_, rfl⟩
  have hBW : Below w.heap.size w W0 := hW0 ▸ (Below.refl _ w).alloc (Nat.le_refl _) _
  have g1 : W0.heap[w.heap.size]? = some (.cells #[.int .i64 x.op, .int .i64 x.course, .string x.name, .int .i64 x.n, .int .i64 x.d, .slice x.kA x.kn x.kc] 24 (0, 0)) := hW0 ▸ World.alloc_heap_new _ _
  have HW0 := hidp hW0
  have l1 := lt_of_heap g1
  have G1 := hidp g1
  have x0 := cell_of_heap (o := 0) g1
  have x1 := cell_of_heap (o := 1) g1
  have x2 := cell_of_heap (o := 2) g1
  have x3 := cell_of_heap (o := 3) g1
  have x4 := cell_of_heap (o := 4) g1
  have x5 := cell_of_heap (o := 5) g1
  simp only [List.getElem?_toArray, List.getElem?_cons_zero, List.getElem?_cons_succ] at x0 x1 x2 x3 x4 x5
  clear hW0 ih g1

  have hfo : ∀ W, Calls Tryd.prog 62 #[.agg #[.int .i64 x.op, .int .i64 x.course, .string x.name, .int .i64 x.n, .int .i64 x.d, .slice x.kA x.kn x.kc]] W fun e w' => e = .returned (.bool (formedB x)) ∧ Below W.heap.size W w' := fun W => by
    have := vformed_any x.op x.course x.n x.d x.name x.kA x.kn x.kc W
    rw [HN.out, ← formedB_N] at this
    exact HN.out ▸ this
  obtain ⟨q, hq⟩ : ∃ q, formedB x = q := ⟨_, rfl⟩
  rw [hq] at hfo
  have HFO := hidp hfo
  have HQ := hidp hq
  clear hfo hq
  cases q
  · have HR : Hid (allF x = false) := by show _ = _; rw [allF_eq, HQ.out]; rfl
    go_enter Tryd.func48, Tryd.ntmps48
    go_wp2_with fail
    rw [HW0.out]
    go_wp2_with fail
    refine (HFO.out _).mono ?_
    rintro e w1 ⟨rfl, h1⟩
    go_wp2_with fail
    go_ret
    exact ⟨ret_bool HR.out.symm, hBW.trans (h1.mono hBW.size)⟩
  go_enter Tryd.func48, Tryd.ntmps48
  go_wp2_with fail
  rw [HW0.out]
  go_wp2_with fail
  refine (HFO.out _).mono ?_
  rintro e w1 ⟨rfl, h1⟩
  have hb1 := hBW.trans (h1.mono hBW.size)
  clear x0 x1 x2 x3 x4 x5
  go_wp2_with fail
  go_loopw [3] (fun i wr => ∃ (k : Nat), k ≤ x.kn ∧ i = .int .i64 k ∧ allFL (x.kids.take k) = true ∧ Below W0.heap.size W0 wr) (fun i _ => x.kn - (intOf i).toNat)
  case atStart => exact ⟨0, by omega, rfl, rfl, h1⟩
  case round =>
    obtain ⟨k, hk, rfl, hall, hbe⟩ := hrel
    have HA := hidp hall
    clear hall
    have hbw := hBW.trans (hbe.mono hBW.size)
    have e1 := (hbe.block _ l1).trans G1.out
    have x5 := cell_of_heap (o := 5) e1
    simp only [List.getElem?_toArray, List.getElem?_cons_zero, List.getElem?_cons_succ] at x5
    have m1 := lt_of_heap e1
    clear e1
    by_cases hlt : k < x.kn
    · have hrq : RuIn h wr w.heap.size x := hr.below hbw
      obtain ⟨h', b, off, y, rfl, he, hb, hky, hry, c0, c1, c2, c3, c4, c5⟩ := hrq.get hlt
      have lb := lt_of_cell c0
      have hcl := HI.out h' (Nat.lt_succ_self _) y wr (hry.keep hbw.size fun q hq => rfl)
      have HKY := hidp hky
      have hkn : (k : Int) < x.kn := by omega
      rw [he] at x5
      rw [he]
      clear hky hry hrq he
      obtain ⟨q, hq⟩ : ∃ q, allF y = q := ⟨_, rfl⟩
      rw [hq] at hcl
      have HQY := hidp hq
      have HCL := hidp hcl
      clear hcl hq
      cases q
      · have HR : Hid (allF x = false) := by show _ = _; rw [allF_eq, allFL_no HKY.out HQY.out, Bool.and_false]
        go_wp2_with fail
        refine HCL.out.mono ?_
        rintro e w5 ⟨rfl, hb5⟩
        go_wp2_with fail
        go_ret
        exact ⟨ret_bool HR.out.symm, hbw.trans (hb5.mono hbw.size)⟩
      · have HS : Hid (allFL (x.kids.take (k + 1)) = true) := by show _ = _; rw [allFL_step HKY.out, HA.out, HQY.out]; rfl
        go_wp2_with fail
        refine HCL.out.mono ?_
        rintro e w5 ⟨rfl, hb5⟩
        go_wp2_with fail
        go_roundw
        case rel => exact ⟨k + 1, by omega, by go_num, HS.out, hbe.trans (hb5.mono hbe.size)⟩
        case measure => simp [intOf]; omega
    · obtain rfl : k = x.kn := by omega
      have HR : Hid (allF x = true) := by
        show _ = _
        have := HA.out
        rw [HN.out, List.take_length] at this
        rw [allF_eq, HQ.out, this]; rfl
      go_wp2_with fail
      go_ret
      exact ⟨ret_bool HR.out.symm, hbw⟩

/-- As the reference checks: parts and depth are counted in 64 bits. -/
def checkR (x : Ru) : Bool := decide (parW x ≤ 200) && decide (depW x ≤ 16) && allF x
set_option maxRecDepth 100000 in
set_option maxHeartbeats 2000000 in
theorem vCheck_any (h : Nat) (x : Ru) (w : World) (hr : RuIn h w w.heap.size x) : Calls Tryd.prog 30 #[.agg #[.int .i64 x.op, .int .i64 x.course, .string x.name, .int .i64 x.n, .int .i64 x.d, .slice x.kA x.kn x.kc]] w fun e w' => e = .returned (.int .i64 (okOr (checkR x) 120)) ∧ Below w.heap.size w w' := by
  have HRu : Hid (∀ W, Below w.heap.size w W → RuIn h W W.heap.size x) := fun W hb => hr.keep hb.size hb.block
  clear hr
  obtain ⟨W0, hW0⟩ : ∃ W0, (w.alloc (.cells #[.int .i64 x.op, .int .i64 x.course, .string x.name, .int .i64 x.n, .int .i64 x.d, .slice x.kA x.kn x.kc] 24)) = W0 := ⟨_, rfl⟩
  have hBW : Below w.heap.size w W0 := by rw [← hW0]; exact ((Below.refl _ w).alloc (by first | exact Nat.le_refl _ | (simp <;> omega)) _)
  have g0 : W0.heap[w.heap.size]? = some (.cells #[.int .i64 x.op, .int .i64 x.course, .string x.name, .int .i64 x.n, .int .i64 x.d, .slice x.kA x.kn x.kc] 24 (0, 0)) := by
    rw [← hW0]
    have := World.alloc_heap_new w (.cells #[.int .i64 x.op, .int .i64 x.course, .string x.name, .int .i64 x.n, .int .i64 x.d, .slice x.kA x.kn x.kc] 24)
    exact this
  have HW0 := hidp hW0
  have G0 := hidp g0
  have l0 := lt_of_heap g0
  have HBW := hidp hBW
  have x0 := cell_of_heap (o := 0) g0
  have x1 := cell_of_heap (o := 1) g0
  have x2 := cell_of_heap (o := 2) g0
  have x3 := cell_of_heap (o := 3) g0
  have x4 := cell_of_heap (o := 4) g0
  have x5 := cell_of_heap (o := 5) g0
  simp only [List.getElem?_toArray, List.getElem?_cons_zero, List.getElem?_cons_succ] at x0 x1 x2 x3 x4 x5
  clear hW0 g0
  obtain ⟨p, hp⟩ : ∃ p, parW x = p := ⟨_, rfl⟩
  obtain ⟨d, hd⟩ : ∃ d, depW x = d := ⟨_, rfl⟩
  obtain ⟨q, hq⟩ : ∃ q, allF x = q := ⟨_, rfl⟩
  have HP : Hid (∀ W, Below w.heap.size w W → Calls Tryd.prog 28 #[.agg #[.int .i64 x.op, .int .i64 x.course, .string x.name, .int .i64 x.n, .int .i64 x.d, .slice x.kA x.kn x.kc]] W fun e w' => e = .returned (.int .i64 p) ∧ Below W.heap.size W w') := fun W hb => by
    have := vParts_any h x W (HRu.out W hb)
    rwa [hp] at this
  have HD : Hid (∀ W, Below w.heap.size w W → Calls Tryd.prog 27 #[.agg #[.int .i64 x.op, .int .i64 x.course, .string x.name, .int .i64 x.n, .int .i64 x.d, .slice x.kA x.kn x.kc]] W fun e w' => e = .returned (.int .i64 d) ∧ Below W.heap.size W w') := fun W hb => by
    have := vDepth_any h x W (HRu.out W hb)
    rwa [hd] at this
  have HF : Hid (∀ W, Below w.heap.size w W → Calls Tryd.prog 48 #[.agg #[.int .i64 x.op, .int .i64 x.course, .string x.name, .int .i64 x.n, .int .i64 x.d, .slice x.kA x.kn x.kc]] W fun e w' => e = .returned (.bool q) ∧ Below W.heap.size W w') := fun W hb => by
    have := vallFormed_any h x W (HRu.out W hb)
    rwa [hq] at this
  have HR : Hid (checkR x = (decide (p ≤ 200) && decide (d ≤ 16) && q)) := by show _ = _; rw [checkR, hp, hd, hq]
  clear hp hd hq
  go_enter Tryd.func30, Tryd.ntmps30
  go_wp2_with fail
  rw [HW0.out]
  by_cases h1 : 200 < p
  · have HX : Hid (checkR x = false) := by show _ = _; rw [HR.out]; simp; omega
    go_wp2_with fail
    refine (HP.out _ HBW.out).mono ?_
    rintro e w1 ⟨rfl, hb1⟩
    go_wp2_with fail
    go_ret
    exact ⟨ret_int (by rw [HX.out]; rfl), HBW.out.trans (hb1.mono HBW.out.size)⟩
  go_wp2_with fail
  refine (HP.out _ HBW.out).mono ?_
  rintro e w1 ⟨rfl, hb1⟩
  have b1 := HBW.out.trans (hb1.mono HBW.out.size)
  clear x0 x1 x2 x3 x4 x5
  have e0 := (hb1.block _ l0).trans G0.out
  have x0 := cell_of_heap (o := 0) e0
  have x1 := cell_of_heap (o := 1) e0
  have x2 := cell_of_heap (o := 2) e0
  have x3 := cell_of_heap (o := 3) e0
  have x4 := cell_of_heap (o := 4) e0
  have x5 := cell_of_heap (o := 5) e0
  simp only [List.getElem?_toArray, List.getElem?_cons_zero, List.getElem?_cons_succ] at x0 x1 x2 x3 x4 x5
  have m0 := lt_of_heap e0
  clear e0
  by_cases h2 : 16 < d
  · have HX : Hid (checkR x = false) := by show _ = _; rw [HR.out]; simp; omega
    go_wp2_with fail
    refine (HD.out _ b1).mono ?_
    rintro e w2 ⟨rfl, hb2⟩
    go_wp2_with fail
    go_ret
    exact ⟨ret_int (by rw [HX.out]; rfl), b1.trans (hb2.mono b1.size)⟩
  go_wp2_with fail
  refine (HD.out _ b1).mono ?_
  rintro e w2 ⟨rfl, hb2'⟩
  have hb2 := hb1.trans (hb2'.mono hb1.size)
  have b2 := b1.trans (hb2'.mono b1.size)
  have HX : Hid (checkR x = q) := by
    show _ = _
    rw [HR.out, decide_eq_true (by omega : p ≤ 200), decide_eq_true (by omega : d ≤ 16)]; rfl
  clear x0 x1 x2 x3 x4 x5 m0
  have e0 := (hb2.block _ l0).trans G0.out
  have x0 := cell_of_heap (o := 0) e0
  have x1 := cell_of_heap (o := 1) e0
  have x2 := cell_of_heap (o := 2) e0
  have x3 := cell_of_heap (o := 3) e0
  have x4 := cell_of_heap (o := 4) e0
  have x5 := cell_of_heap (o := 5) e0
  simp only [List.getElem?_toArray, List.getElem?_cons_zero, List.getElem?_cons_succ] at x0 x1 x2 x3 x4 x5
  have m0 := lt_of_heap e0
  clear e0
  cases q
  all_goals
    go_wp2_with fail
    refine (HF.out _ b2).mono ?_
    rintro e w3 ⟨rfl, hb3⟩
    go_wp2_with fail
    go_ret
    exact ⟨ret_int (by rw [HX.out]; rfl), b2.trans (hb3.mono b2.size)⟩
end Go.Proofs.YtbmbpannhncpjaaDoor
