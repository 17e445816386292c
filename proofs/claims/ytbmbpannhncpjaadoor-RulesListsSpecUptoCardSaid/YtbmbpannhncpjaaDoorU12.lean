/- The reference's Depth, Parts, Few; the law's negates (printed by tools/gen77.py). -/
import Derived.Test.YtbmbpannhncpjaaDoorU4
namespace Go.Proofs.YtbmbpannhncpjaaDoor
open Go.RowKit Go.Sort

mutual
def depW : Ru → Int
  | .mk _ _ _ _ _ _ _ _ ks => wrap64 (depL 0 ks + 1)
def depL (m : Int) : List Ru → Int
  | [] => m
  | x :: l => depL (max m (depW x)) l
end
theorem depL_append (l k : List Ru) : ∀ m, depL m (l ++ k) = depL (depL m l) k := by
  induction l with
  | nil => intro m; rfl
  | cons x l ih => intro m; simp [depL, ih]
theorem depL_step {m : Int} {l : List Ru} {i : Nat} {x : Ru} (h : l[i]? = some x) : depL m (l.take (i + 1)) = max (depL m (l.take i)) (depW x) := by
  rw [take_snoc h, depL_append]; rfl
theorem depW_eq (x : Ru) : depW x = wrap64 (depL 0 x.kids + 1) := by cases x; rfl
mutual
def parW : Ru → Int
  | .mk _ _ _ _ _ _ _ _ ks => parL 1 ks
def parL (m : Int) : List Ru → Int
  | [] => m
  | x :: l => parL (wrap64 (m + parW x)) l
end
theorem parL_append (l k : List Ru) : ∀ m, parL m (l ++ k) = parL (parL m l) k := by
  induction l with
  | nil => intro m; rfl
  | cons x l ih => intro m; simp [parL, ih]
theorem parL_step {m : Int} {l : List Ru} {i : Nat} {x : Ru} (h : l[i]? = some x) : parL m (l.take (i + 1)) = wrap64 (parL m (l.take i) + parW x) := by
  rw [take_snoc h, parL_append]; rfl
theorem parW_eq (x : Ru) : parW x = parL 1 x.kids := by cases x; rfl
mutual
def negR : Ru → Bool
  | .mk op _ _ _ _ _ _ _ ks => decide (op = 4) || negL ks
def negL : List Ru → Bool
  | [] => false
  | x :: l => negR x || negL l
end
theorem negL_any (l : List Ru) : negL l = l.any negR := by
  induction l with
  | nil => rfl
  | cons x l ih => simp [negL, ih]
theorem negR_eq (x : Ru) : negR x = (decide (x.op = 4) || x.kids.any negR) := by cases x; rw [negR, negL_any]; rfl
def fewB (x : Ru) : Bool := decide (depW x ≤ 40) && decide (parW x ≤ 300)

set_option maxRecDepth 100000 in
set_option maxHeartbeats 2000000 in
theorem vDepth_any : ∀ (h : Nat) (x : Ru) (w : World), RuIn h w w.heap.size x → Calls Tryd.prog 27 #[.agg #[.int .i64 x.op, .int .i64 x.course, .string x.name, .int .i64 x.n, .int .i64 x.d, .slice x.kA x.kn x.kc]] w fun e w' => e = .returned (.int .i64 (depW x)) ∧ Below w.heap.size w w' := by
  intro h
  induction h using Nat.strongRecOn with
  | _ h ih =>
  intro x w hr
  have HI := hidp ih
  have HN := hidp hr.len
  have hcap := hr.2.2.1
  have hlen := hr.2.1
  obtain ⟨W0, hW0⟩ : ∃ W0, w.alloc (.cells #[.int .i64 x.op, .int .i64 x.course, .string x.name, .int .i64 x.n, .int .i64 x.d, .slice x.kA x.kn x.kc] 24) = W0 := ⟨_, rfl⟩
  have hBW : Below w.heap.size w W0 := hW0 ▸ (Below.refl _ w).alloc (Nat.le_refl _) _
  have g1 : W0.heap[w.heap.size]? = some (.cells #[.int .i64 x.op, .int .i64 x.course, .string x.name, .int .i64 x.n, .int .i64 x.d, .slice x.kA x.kn x.kc] 24 (0, 0)) := hW0 ▸ World.alloc_heap_new _ _
  have HW0 := hidp hW0
  have l1 := lt_of_heap g1
  have G1 := hidp g1
  have x0 := cell_of_heap (o := 0) g1
  have x1 := cell_of_heap (o := 1) g1
  have x2 := cell_of_heap (o := 2) g1
  have x3 := cell_of_heap (o := 3) g1
  have x4 := cell_of_heap (o := 4) g1
  have x5 := cell_of_heap (o := 5) g1
  simp only [List.getElem?_toArray, List.getElem?_cons_zero, List.getElem?_cons_succ] at x0 x1 x2 x3 x4 x5
  clear hW0 ih g1
  go_enter Tryd.func27, Tryd.ntmps27
  go_wp2_with fail
  rw [HW0.out]
  go_wp2_with fail
  clear x0 x1 x2 x3 x4 x5
  go_loopw [3, 4] (fun m i wr => ∃ (k : Nat), k ≤ x.kn ∧ m = .int .i64 (depL 0 (x.kids.take k)) ∧ i = .int .i64 k ∧ Below W0.heap.size W0 wr) (fun _ i _ => x.kn - (intOf i).toNat)
  case atStart => exact ⟨0, by omega, rfl, rfl, Below.refl _ _⟩
  case round =>
    obtain ⟨k, hk, rfl, rfl, hbe⟩ := hrel
    have hbw := hBW.trans (hbe.mono hBW.size)
    have e1 := (hbe.block _ l1).trans G1.out
    have x0 := cell_of_heap (o := 0) e1
    have x1 := cell_of_heap (o := 1) e1
    have x2 := cell_of_heap (o := 2) e1
    have x3 := cell_of_heap (o := 3) e1
    have x4 := cell_of_heap (o := 4) e1
    have x5 := cell_of_heap (o := 5) e1
    simp only [List.getElem?_toArray, List.getElem?_cons_zero, List.getElem?_cons_succ] at x0 x1 x2 x3 x4 x5
    have m1 := lt_of_heap e1
    clear e1
    by_cases hlt : k < x.kn
    · have hrq : RuIn h wr w.heap.size x := hr.below hbw
      obtain ⟨h', b, off, y, rfl, he, hb, hky, hry, c0, c1, c2, c3, c4, c5⟩ := hrq.get hlt
      have lb := lt_of_cell c0
      have hcl := HI.out h' (Nat.lt_succ_self _) y wr (hry.keep hbw.size fun q hq => rfl)
      have HKY := hidp hky
      have hkn : (k : Int) < x.kn := by omega
      rw [he] at x5
      rw [he]
      clear hky hry hrq he
      obtain ⟨q, hq⟩ : ∃ q, depW y = q := ⟨_, rfl⟩
      rw [hq] at hcl
      have HS : Hid (depL 0 (x.kids.take (k + 1)) = max (depL 0 (x.kids.take k)) q) := by show _ = _; rw [depL_step HKY.out, hq]
      obtain ⟨m, hm⟩ : ∃ m, depL 0 (x.kids.take k) = m := ⟨_, rfl⟩
      rw [hm] at HS
      rw [hm]
      have HCL := hidp hcl
      clear hcl hq hm
      rcases Int.lt_or_le m q with hmq | hmq
      · have HX : Hid (max m q = q) := by show _ = _; omega
        go_wp2_with fail
        refine HCL.out.mono ?_
        rintro e w5 ⟨rfl, hb5⟩
        go_wp2_with fail
        go_roundw
        case rel => exact ⟨k + 1, by omega, by rw [HS.out, HX.out], by go_num, hbe.trans (hb5.mono hbe.size)⟩
        case measure => simp [intOf]; omega
      · have HX : Hid (max m q = m) := by show _ = _; omega
        go_wp2_with fail
        refine HCL.out.mono ?_
        rintro e w5 ⟨rfl, hb5⟩
        go_wp2_with fail
        go_roundw
        case rel => exact ⟨k + 1, by omega, by rw [HS.out, HX.out], by go_num, hbe.trans (hb5.mono hbe.size)⟩
        case measure => simp [intOf]; omega
    · obtain rfl : k = x.kn := by omega
      have HT : Hid (x.kids.take x.kn = x.kids) := by show _ = _; rw [HN.out, List.take_length]
      obtain ⟨m, hm⟩ : ∃ m, depL 0 (x.kids.take x.kn) = m := ⟨_, rfl⟩
      have HR : Hid (depW x = wrap64 (m + 1)) := by show _ = _; rw [depW_eq, ← hm, HT.out]
      rw [hm]
      clear hm
      go_wp2_with fail
      go_ret
      exact ⟨ret_int HR.out.symm, hbw⟩

set_option maxRecDepth 100000 in
set_option maxHeartbeats 2000000 in
theorem vParts_any : ∀ (h : Nat) (x : Ru) (w : World), RuIn h w w.heap.size x → Calls Tryd.prog 28 #[.agg #[.int .i64 x.op, .int .i64 x.course, .string x.name, .int .i64 x.n, .int .i64 x.d, .slice x.kA x.kn x.kc]] w fun e w' => e = .returned (.int .i64 (parW x)) ∧ Below w.heap.size w w' := by
  intro h
  induction h using Nat.strongRecOn with
  | _ h ih =>
  intro x w hr
  have HI := hidp ih
  have HN := hidp hr.len
  have hcap := hr.2.2.1
  have hlen := hr.2.1
  obtain ⟨W0, hW0⟩ : ∃ W0, w.alloc (.cells #[.int .i64 x.op, .int .i64 x.course, .string x.name, .int .i64 x.n, .int .i64 x.d, .slice x.kA x.kn x.kc] 24) = W0 := ⟨_, rfl⟩
  have hBW : Below w.heap.size w W0 := hW0 ▸ (Below.refl _ w).alloc (Nat.le_refl _) _
  have g1 : W0.heap[w.heap.size]? = some (.cells #[.int .i64 x.op, .int .i64 x.course, .string x.name, .int .i64 x.n, .int .i64 x.d, .slice x.kA x.kn x.kc] 24 (0, 0)) := hW0 ▸ World.alloc_heap_new _ _
  have HW0 := hidp hW0
  have l1 := lt_of_heap g1
  have G1 := hidp g1
  have x0 := cell_of_heap (o := 0) g1
  have x1 := cell_of_heap (o := 1) g1
  have x2 := cell_of_heap (o := 2) g1
  have x3 := cell_of_heap (o := 3) g1
  have x4 := cell_of_heap (o := 4) g1
  have x5 := cell_of_heap (o := 5) g1
  simp only [List.getElem?_toArray, List.getElem?_cons_zero, List.getElem?_cons_succ] at x0 x1 x2 x3 x4 x5
  clear hW0 ih g1
  go_enter Tryd.func28, Tryd.ntmps28
  go_wp2_with fail
  rw [HW0.out]
  go_wp2_with fail
  clear x0 x1 x2 x3 x4 x5
  go_loopw [3, 4] (fun m i wr => ∃ (k : Nat), k ≤ x.kn ∧ m = .int .i64 (parL 1 (x.kids.take k)) ∧ i = .int .i64 k ∧ Below W0.heap.size W0 wr) (fun _ i _ => x.kn - (intOf i).toNat)
  case atStart => exact ⟨0, by omega, rfl, rfl, Below.refl _ _⟩
  case round =>
    obtain ⟨k, hk, rfl, rfl, hbe⟩ := hrel
    have hbw := hBW.trans (hbe.mono hBW.size)
    have e1 := (hbe.block _ l1).trans G1.out
    have x0 := cell_of_heap (o := 0) e1
    have x1 := cell_of_heap (o := 1) e1
    have x2 := cell_of_heap (o := 2) e1
    have x3 := cell_of_heap (o := 3) e1
    have x4 := cell_of_heap (o := 4) e1
    have x5 := cell_of_heap (o := 5) e1
    simp only [List.getElem?_toArray, List.getElem?_cons_zero, List.getElem?_cons_succ] at x0 x1 x2 x3 x4 x5
    have m1 := lt_of_heap e1
    clear e1
    by_cases hlt : k < x.kn
    · have hrq : RuIn h wr w.heap.size x := hr.below hbw
      obtain ⟨h', b, off, y, rfl, he, hb, hky, hry, c0, c1, c2, c3, c4, c5⟩ := hrq.get hlt
      have lb := lt_of_cell c0
      have hcl := HI.out h' (Nat.lt_succ_self _) y wr (hry.keep hbw.size fun q hq => rfl)
      have HKY := hidp hky
      have hkn : (k : Int) < x.kn := by omega
      rw [he] at x5
      rw [he]
      clear hky hry hrq he
      obtain ⟨q, hq⟩ : ∃ q, parW y = q := ⟨_, rfl⟩
      rw [hq] at hcl
      have HS : Hid (parL 1 (x.kids.take (k + 1)) = wrap64 (parL 1 (x.kids.take k) + q)) := by show _ = _; rw [parL_step HKY.out, hq]
      obtain ⟨m, hm⟩ : ∃ m, parL 1 (x.kids.take k) = m := ⟨_, rfl⟩
      rw [hm] at HS
      rw [hm]
      have HCL := hidp hcl
      clear hcl hq hm
      go_wp2_with fail
      refine HCL.out.mono ?_
      rintro e w5 ⟨rfl, hb5⟩
      go_wp2_with fail
      go_roundw
      case rel => exact ⟨k + 1, by omega, by rw [HS.out], by go_num, hbe.trans (hb5.mono hbe.size)⟩
      case measure => simp [intOf]; omega
    · obtain rfl : k = x.kn := by omega
      have HT : Hid (x.kids.take x.kn = x.kids) := by show _ = _; rw [HN.out, List.take_length]
      obtain ⟨m, hm⟩ : ∃ m, parL 1 (x.kids.take x.kn) = m := ⟨_, rfl⟩
      have HR : Hid (parW x = m) := by show _ = _; rw [parW_eq, ← hm, HT.out]
      rw [hm]
      clear hm
      go_wp2_with fail
      go_ret
      exact ⟨ret_int HR.out.symm, hbw⟩

set_option maxRecDepth 100000 in
set_option maxHeartbeats 2000000 in
theorem negates_any : ∀ (h : Nat) (x : Ru) (w : World), RuIn h w w.heap.size x → Calls Tryd.prog 23 #[.agg #[.int .i64 x.op, .int .i64 x.course, .string x.name, .int .i64 x.n, .int .i64 x.d, .slice x.kA x.kn x.kc]] w fun e w' => e = .returned (.bool (negR x)) ∧ Below w.heap.size w w' := by
  intro h
  induction h using Nat.strongRecOn with
  | _ h ih =>
  intro x w hr
  have HI := hidp ih
  have HN := hidp hr.len
  have hcap := hr.2.2.1
  have hlen := hr.2.1
  obtain ⟨W0, hW0⟩ : ∃ W0, w.alloc (.cells #[.int .i64 x.op, .int .i64 x.course, .string x.name, .int .i64 x.n, .int .i64 x.d, .slice x.kA x.kn x.kc] 24) = W0 := ⟨_, rfl⟩
  have hBW : Below w.heap.size w W0 := hW0 ▸ (Below.refl _ w).alloc (Nat.le_refl _) _
  have g1 : W0.heap[w.heap.size]? = some (.cells #[.int .i64 x.op, .int .i64 x.course, .string x.name, .int .i64 x.n, .int .i64 x.d, .slice x.kA x.kn x.kc] 24 (0, 0)) := hW0 ▸ World.alloc_heap_new _ _
  have HW0 := hidp hW0
  have l1 := lt_of_heap g1
  have G1 := hidp g1
  have x0 := cell_of_heap (o := 0) g1
  have x1 := cell_of_heap (o := 1) g1
  have x2 := cell_of_heap (o := 2) g1
  have x3 := cell_of_heap (o := 3) g1
  have x4 := cell_of_heap (o := 4) g1
  have x5 := cell_of_heap (o := 5) g1
  simp only [List.getElem?_toArray, List.getElem?_cons_zero, List.getElem?_cons_succ] at x0 x1 x2 x3 x4 x5
  by_cases h4 : x.op = 4
  · have h4' : (x.op == 4) = true := by simp [h4]
    have HR : Hid (negR x = true) := by show _ = _; simp [negR_eq, h4]
    clear hW0 ih g1 h4
    go_enter Tryd.func23, Tryd.ntmps23
    go_wp2_with fail
    rw [HW0.out]
    go_wp2_with fail
    go_ret
    exact ⟨ret_bool HR.out.symm, hBW⟩
  have h4' : (x.op == 4) = false := by simp [h4]
  have H4 := hidp h4
  clear h4
  clear hW0 ih g1
  go_enter Tryd.func23, Tryd.ntmps23
  go_wp2_with fail
  rw [HW0.out]
  go_wp2_with fail
  clear x0 x1 x2 x3 x4 x5
  go_loopw [3] (fun i wr => ∃ (k : Nat), k ≤ x.kn ∧ i = .int .i64 k ∧ (x.kids.take k).any negR = false ∧ Below W0.heap.size W0 wr) (fun i _ => x.kn - (intOf i).toNat)
  case atStart => exact ⟨0, by omega, rfl, rfl, Below.refl _ _⟩
  case round =>
    obtain ⟨k, hk, rfl, hno, hbe⟩ := hrel
    have hbw := hBW.trans (hbe.mono hBW.size)
    have e1 := (hbe.block _ l1).trans G1.out
    have x0 := cell_of_heap (o := 0) e1
    have x1 := cell_of_heap (o := 1) e1
    have x2 := cell_of_heap (o := 2) e1
    have x3 := cell_of_heap (o := 3) e1
    have x4 := cell_of_heap (o := 4) e1
    have x5 := cell_of_heap (o := 5) e1
    simp only [List.getElem?_toArray, List.getElem?_cons_zero, List.getElem?_cons_succ] at x0 x1 x2 x3 x4 x5
    have m1 := lt_of_heap e1
    clear e1
    by_cases hlt : k < x.kn
    · have hrq : RuIn h wr w.heap.size x := hr.below hbw
      obtain ⟨h', b, off, y, rfl, he, hb, hky, hry, c0, c1, c2, c3, c4, c5⟩ := hrq.get hlt
      have lb := lt_of_cell c0
      have hcl := HI.out h' (Nat.lt_succ_self _) y wr (hry.keep hbw.size fun q hq => rfl)
      have HKY := hidp hky
      have hkn : (k : Int) < x.kn := by omega
      rw [he] at x5
      rw [he]
      clear hky hry hrq he
      obtain ⟨q, hq⟩ : ∃ q, negR y = q := ⟨_, rfl⟩
      rw [hq] at hcl
      have HCL := hidp hcl
      have HQ := hidp hq
      have HNO := hidp hno
      clear hcl hq hno
      cases q
      · go_wp2_with fail
        refine HCL.out.mono ?_
        rintro e w5 ⟨rfl, hb5⟩
        go_wp2_with fail
        go_roundw
        case rel => exact ⟨k + 1, by omega, by go_num, by rw [take_snoc HKY.out, List.any_append, HNO.out]; simp [HQ.out], hbe.trans (hb5.mono hbe.size)⟩
        case measure => simp [intOf]; omega
      · have HR : Hid (negR x = true) := by
          show _ = _
          rw [negR_eq, Bool.or_eq_true, List.any_eq_true]
          exact .inr ⟨y, List.mem_of_getElem? HKY.out, HQ.out⟩
        go_wp2_with fail
        refine HCL.out.mono ?_
        rintro e w5 ⟨rfl, hb5⟩
        go_wp2_with fail
        go_ret
        exact ⟨ret_bool HR.out.symm, hbw.trans (hb5.mono hbw.size)⟩
    · obtain rfl : k = x.kn := by omega
      have HT : Hid (x.kids.take x.kn = x.kids) := by show _ = _; rw [HN.out, List.take_length]
      have HR : Hid (negR x = false) := by
        show _ = _
        rw [negR_eq, ← HT.out, hno]
        simp [H4.out]
      clear hno
      go_wp2_with fail
      go_ret
      exact ⟨ret_bool HR.out.symm, hbw⟩

set_option maxRecDepth 100000 in
set_option maxHeartbeats 2000000 in
theorem vFew_any (h : Nat) (x : Ru) (w : World) (hr : RuIn h w w.heap.size x) : Calls Tryd.prog 11 #[.agg #[.int .i64 x.op, .int .i64 x.course, .string x.name, .int .i64 x.n, .int .i64 x.d, .slice x.kA x.kn x.kc]] w fun e w' => e = .returned (.bool (fewB x)) ∧ Below w.heap.size w w' := by
  obtain ⟨W0, hW0⟩ : ∃ W0, w.alloc (.cells #[.int .i64 x.op, .int .i64 x.course, .string x.name, .int .i64 x.n, .int .i64 x.d, .slice x.kA x.kn x.kc] 24) = W0 := ⟨_, rfl⟩
  have hBW : Below w.heap.size w W0 := hW0 ▸ (Below.refl _ w).alloc (Nat.le_refl _) _
  have g1 : W0.heap[w.heap.size]? = some (.cells #[.int .i64 x.op, .int .i64 x.course, .string x.name, .int .i64 x.n, .int .i64 x.d, .slice x.kA x.kn x.kc] 24 (0, 0)) := hW0 ▸ World.alloc_heap_new _ _
  have HW0 := hidp hW0
  have l1 := lt_of_heap g1
  have G1 := hidp g1
  have x0 := cell_of_heap (o := 0) g1
  have x1 := cell_of_heap (o := 1) g1
  have x2 := cell_of_heap (o := 2) g1
  have x3 := cell_of_heap (o := 3) g1
  have x4 := cell_of_heap (o := 4) g1
  have x5 := cell_of_heap (o := 5) g1
  simp only [List.getElem?_toArray, List.getElem?_cons_zero, List.getElem?_cons_succ] at x0 x1 x2 x3 x4 x5
  have hd := vDepth_any h x W0 (hr.keep hBW.size hBW.block)
  have hp := fun (W : World) (hb : Below W0.heap.size W0 W) => vParts_any h x W (hr.keep (Nat.le_trans hBW.size hb.size) fun b hq => (hb.block b (Nat.lt_of_lt_of_le hq hBW.size)).trans (hBW.block b hq))
  obtain ⟨a, ha⟩ : ∃ a, depW x = a := ⟨_, rfl⟩
  obtain ⟨b, hb⟩ : ∃ b, parW x = b := ⟨_, rfl⟩
  have HR : Hid (fewB x = (decide (a ≤ 40) && decide (b ≤ 300))) := by show _ = _; rw [fewB, ha, hb]
  rw [ha] at hd
  rw [hb] at hp
  have HD := hidp hd
  have HP := hidp hp
  clear hW0 g1 hd hp ha hb
  by_cases h1 : a ≤ 40
  · have h1' : decide (a ≤ 40) = true := by simpa using h1
    rw [h1'] at HR
    clear h1
    go_enter Tryd.func11, Tryd.ntmps11
    go_wp2_with fail
    rw [HW0.out]
    go_wp2_with fail
    refine HD.out.mono ?_
    rintro e w1 ⟨rfl, hb1⟩
    have e1 := (hb1.block _ l1).trans G1.out
    have HP1 := hidp (HP.out w1 hb1)
    clear x0 x1 x2 x3 x4 x5
    have x0 := cell_of_heap (o := 0) e1
    have x1 := cell_of_heap (o := 1) e1
    have x2 := cell_of_heap (o := 2) e1
    have x3 := cell_of_heap (o := 3) e1
    have x4 := cell_of_heap (o := 4) e1
    have x5 := cell_of_heap (o := 5) e1
    simp only [List.getElem?_toArray, List.getElem?_cons_zero, List.getElem?_cons_succ] at x0 x1 x2 x3 x4 x5
    clear e1
    go_wp2_with fail
    refine HP1.out.mono ?_
    rintro e w2 ⟨rfl, hb2⟩
    go_wp2_with fail
    go_ret
    exact ⟨ret_bool (by rw [HR.out]; rfl), hBW.trans ((hb1.trans (hb2.mono hb1.size)).mono hBW.size)⟩
  · have h1' : decide (a ≤ 40) = false := by simpa using h1
    rw [h1'] at HR
    clear h1
    go_enter Tryd.func11, Tryd.ntmps11
    go_wp2_with fail
    rw [HW0.out]
    go_wp2_with fail
    refine HD.out.mono ?_
    rintro e w1 ⟨rfl, hb1⟩
    go_wp2_with fail
    go_ret
    exact ⟨ret_bool (by rw [HR.out]; rfl), hBW.trans (hb1.mono hBW.size)⟩

end Go.Proofs.YtbmbpannhncpjaaDoor
