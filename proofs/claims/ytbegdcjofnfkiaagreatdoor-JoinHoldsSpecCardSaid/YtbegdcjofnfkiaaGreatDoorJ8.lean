/- join.value, test, atom, level. -/
import Derived.Test.YtbegdcjofnfkiaaGreatDoorM2
import Derived.Test.YtbegdcjofnfkiaaGreatDoorJ3
import Derived.Test.YtbegdcjofnfkiaaGreatDoorM5
import Derived.Test.YtbegdcjofnfkiaaGreatDoorM3
namespace Go.Proofs.YtbegdcjofnfkiaaGreatDoor
open Go.RowKit Go.Shelf Go.Sort

abbrev arSl := Rows 2 (Rep.flat arEnc)
def VarIn (a : Ar) (n : Nat) : Prop := a.var = true → 0 ≤ a.n ∧ a.n < n
set_option maxHeartbeats 1000000 in
theorem value_any (a : Ar) (A : Option Addr) (n c : Nat) (vs : List Int) (w : World) (hv : iSl w w.heap.size A n c vs) (ha : VarIn a n) :
    Calls Tryz.prog 63 #[.agg #[.bool a.var, .int .i64 a.n], .slice A n c] w fun e w' => e = .returned (.int .i64 (valJ a vs)) ∧ Below w.heap.size w w' := by
  obtain ⟨var, m⟩ := a
  have hnc := hv.2.1
  have hcc := hv.2.2.1
  cases var
  · go_enter Tryz.func63, Tryz.ntmps63
    go_wp2_with fail
    go_ret
    exact ⟨rfl, (Below.refl _ _).alloc (Nat.le_refl _) _⟩
  · obtain ⟨h0, h1⟩ := ha rfl
    obtain ⟨k, rfl⟩ : ∃ k : Nat, m = k := ⟨m.toNat, by simp only at h0; omega⟩
    have hk : k < n := by simp only at h1; omega
    obtain ⟨b, off, x, rfl, hb, hx, c0⟩ := iSl.get hv hk
    have HX : Hid (valJ ⟨true, k⟩ vs = x) := by
      show _ = _
      simp [valJ, List.getD_eq_getElem?_getD, hx]
    have hk' : (k : Int) < n := by omega
    clear hv ha hx h0 h1
    dsimp only
    go_enter Tryz.func63, Tryz.ntmps63
    go_wp2_with fail
    go_ret
    exact ⟨by rw [HX.out]; rfl, (Below.refl _ _).alloc (Nat.le_refl _) _⟩
set_option maxRecDepth 100000 in
set_option maxHeartbeats 2000000 in
theorem test_any (t : Te) (A : Option Addr) (n c : Nat) (vs : List Int) (w : World) (hv : iSl w w.heap.size A n c vs) (ha : VarIn t.a n) (hb : VarIn t.b n) :
    Calls Tryz.prog 26 #[.agg #[.int .i64 t.op, .bool t.a.var, .int .i64 t.a.n, .bool t.b.var, .int .i64 t.b.n], .slice A n c] w fun e w' => e = .returned (.bool (testJ vs t)) ∧ Below w.heap.size w w' := by
  obtain ⟨va, hva⟩ : ∃ v, valJ t.a vs = v := ⟨_, rfl⟩
  obtain ⟨vb, hvb⟩ : ∃ v, valJ t.b vs = v := ⟨_, rfl⟩
  have HCA : Hid (∀ W, Below w.heap.size w W → Calls Tryz.prog 63 #[.agg #[.bool t.a.var, .int .i64 t.a.n], .slice A n c] W fun e w' => e = .returned (.int .i64 va) ∧ Below W.heap.size W w') := fun W h => by
    have := value_any t.a A n c vs W (hv.keep (Rep.flat_stable _) h.size h.block) ha
    rwa [hva] at this
  have HCB : Hid (∀ W, Below w.heap.size w W → Calls Tryz.prog 63 #[.agg #[.bool t.b.var, .int .i64 t.b.n], .slice A n c] W fun e w' => e = .returned (.int .i64 vb) ∧ Below W.heap.size W w') := fun W h => by
    have := value_any t.b A n c vs W (hv.keep (Rep.flat_stable _) h.size h.block) hb
    rwa [hvb] at this
  have HT : Hid (testJ vs t = opJ t.op va vb) := by show _ = _; unfold testJ; rw [hva, hvb]
  obtain ⟨W0, hW0⟩ : ∃ W0, w.alloc (.cells #[.int .i64 t.op, .bool t.a.var, .int .i64 t.a.n, .bool t.b.var, .int .i64 t.b.n] 67) = W0 := ⟨_, rfl⟩
  have hBW : Below w.heap.size w W0 := hW0 ▸ (Below.refl _ w).alloc (Nat.le_refl _) _
  have g0 : W0.heap[w.heap.size]? = some (.cells #[.int .i64 t.op, .bool t.a.var, .int .i64 t.a.n, .bool t.b.var, .int .i64 t.b.n] 67 (0, 0)) := hW0 ▸ World.alloc_heap_new _ _
  have l0 := lt_of_heap g0
  have HBW := hidp hBW
  have HG := hidp g0
  have x0 := cell_of_heap (o := 0) g0
  have x1 := cell_of_heap (o := 1) g0
  have x2 := cell_of_heap (o := 2) g0
  have x3 := cell_of_heap (o := 3) g0
  have x4 := cell_of_heap (o := 4) g0
  simp only [List.getElem?_toArray, List.getElem?_cons_zero, List.getElem?_cons_succ] at x0 x1 x2 x3 x4
  have HW0 := hidp hW0
  clear hW0 g0 hBW hv ha hb hva hvb
  go_enter Tryz.func26, Tryz.ntmps26
  go_wp2_with fail
  rw [HW0.out]
  refine wp_region_S W0.heap.size 10 (fun _ => false) (Nat.le_refl _) (by kernel_rfl) (by kernel_rfl) (by kernel_rfl) ?_
  dsimp only [List.take, List.drop]
  apply relS_det (mask := [])
  · rfl
  · kernel_rfl
  · kernel_rfl
  · dsimp only [oblS]
    rintro w9 h9
    go_simp
    exact ⟨Below.refl _ _, rfl⟩
  dsimp only [List.nil_append, List.cons_append]
  apply relS_det (mask := [true]) (x := .agg #[.bool t.a.var, .int .i64 t.a.n])
  · rfl
  · kernel_rfl
  · kernel_rfl
  · dsimp only [oblS]
    rintro w9 h9
    have hc9 := (bcell h9).1
    go_simp
    exact ⟨Below.refl _ _, rfl⟩
  dsimp only [List.nil_append, List.cons_append]
  apply relS_det (mask := [false, false])
  · rfl
  · kernel_rfl
  · kernel_rfl
  · dsimp only [oblS]
    rintro w9 h9
    go_simp
    exact ⟨Below.refl _ _, rfl⟩
  dsimp only [List.nil_append, List.cons_append]
  apply relS_det (mask := [false, true, true]) (x := .int .i64 va)
  · rfl
  · kernel_rfl
  · kernel_rfl
  · dsimp only [oblS]
    rintro w9 h9
    go_simp
    refine (HCA.out _ (HBW.out.trans (h9.mono HBW.out.size))).mono ?_
    rintro e w7 ⟨rfl, hb7⟩
    exact ⟨_, rfl, hb7, rfl⟩
  dsimp only [List.nil_append, List.cons_append]
  apply relS_det (mask := [false, false, false, false])
  · rfl
  · kernel_rfl
  · kernel_rfl
  · dsimp only [oblS]
    rintro w9 h9
    go_simp
    exact ⟨Below.refl _ _, rfl⟩
  dsimp only [List.nil_append, List.cons_append]
  apply relS_det (mask := [false, false, false, false, true]) (x := .agg #[.bool t.b.var, .int .i64 t.b.n])
  · rfl
  · kernel_rfl
  · kernel_rfl
  · dsimp only [oblS]
    rintro w9 h9
    have hc9 := (bcell h9).1
    go_simp
    exact ⟨Below.refl _ _, rfl⟩
  dsimp only [List.nil_append, List.cons_append]
  apply relS_det (mask := [false, false, false, false, false, false])
  · rfl
  · kernel_rfl
  · kernel_rfl
  · dsimp only [oblS]
    rintro w9 h9
    go_simp
    exact ⟨Below.refl _ _, rfl⟩
  dsimp only [List.nil_append, List.cons_append]
  apply relS_det (mask := [false, false, false, false, false, true, true]) (x := .int .i64 vb)
  · rfl
  · kernel_rfl
  · kernel_rfl
  · dsimp only [oblS]
    rintro w9 h9
    go_simp
    refine (HCB.out _ (HBW.out.trans (h9.mono HBW.out.size))).mono ?_
    rintro e w7 ⟨rfl, hb7⟩
    exact ⟨_, rfl, hb7, rfl⟩
  dsimp only [List.nil_append, List.cons_append]
  apply relS_det (mask := [false, false, false, true, false, false, false, false])
  · rfl
  · kernel_rfl
  · kernel_rfl
  · dsimp only [oblS]
    rintro w9 h9
    go_simp
    exact ⟨Below.refl _ _, rfl⟩
  dsimp only [List.nil_append, List.cons_append]
  apply relS_det (mask := [false, false, false, false, false, false, false, true, false])
  · rfl
  · kernel_rfl
  · kernel_rfl
  · dsimp only [oblS]
    rintro w9 h9
    go_simp
    exact ⟨Below.refl _ _, rfl⟩
  dsimp only [List.nil_append, List.cons_append]
  refine relS_end (by rfl) ?_
  dsimp only [finS]
  -- rintro  w8 hb
  rintro w8 hb8
  have hb9 := HBW.out.trans (hb8.mono HBW.out.size)
  have x0' := ((bcell hb8).1 _ 0 l0).trans x0
  have l8 := lt_of_cell x0'
  clear x0 x1 x2 x3 x4 l0 hb8
  go_simp
  obtain ⟨op, hop⟩ : ∃ z, t.op = z := ⟨_, rfl⟩
  rw [hop] at x0'
  have HOP := hidp hop
  clear hop
  by_cases h2 : op = -2
  · subst h2
    have HR : Hid (testJ vs t = decide (va < vb)) := by show _ = _; rw [HT.out, HOP.out]; rfl
    go_wp2_with fail
    go_ret
    exact ⟨ret_bool HR.out.symm, hb9⟩
  have e2 : (op == -2) = false := by simpa using h2
  by_cases h1 : op = -1
  · subst h1
    have HR : Hid (testJ vs t = decide (va ≤ vb)) := by show _ = _; rw [HT.out, HOP.out]; rfl
    clear h2
    go_wp2_with fail
    go_ret
    exact ⟨ret_bool HR.out.symm, hb9⟩
  have e1 : (op == -1) = false := by simpa using h1
  by_cases h0 : op = 0
  · subst h0
    have HR : Hid (testJ vs t = (va == vb)) := by show _ = _; rw [HT.out, HOP.out]; rfl
    clear h1 h2
    go_wp2_with fail
    go_ret
    exact ⟨ret_bool HR.out.symm, hb9⟩
  have e0 : (op == 0) = false := by simpa using h0
  have HR : Hid (testJ vs t = (va != vb)) := by
    show _ = _
    rw [HT.out, HOP.out]
    unfold opJ
    rw [if_neg h2, if_neg h1, if_neg h0, Bool.eq_iff_iff]; simp
  clear h0 h1 h2
  go_wp2_with fail
  go_ret
  exact ⟨ret_bool HR.out.symm, hb9⟩
set_option maxRecDepth 100000 in
set_option maxHeartbeats 2000000 in
theorem atom_any (a : Am) (FA : Option Addr) (fn fc : Nat) (l : List Fc) (A : Option Addr) (n c : Nat) (vs : List Int) (w : World) (hl : fSl w w.heap.size FA fn fc l) (hv : iSl w w.heap.size A n c vs) (hs : VarIn a.s n) (ho : VarIn a.o n) (hw : VarIn a.v n) :
    Calls Tryz.prog 25 #[.agg #[.int .i64 a.kind, .bool a.s.var, .int .i64 a.s.n, .bool a.o.var, .int .i64 a.o.n, .bool a.v.var, .int .i64 a.v.n, .int .i64 a.term, .int .i64 a.known], .slice FA fn fc, .slice A n c] w fun e w' => e = .returned (.bool (atomJ l vs a)) ∧ Below w.heap.size w w' := by
  obtain ⟨vS, hvS⟩ : ∃ v, valJ a.s vs = v := ⟨_, rfl⟩
  have HCS : Hid (∀ W, Below w.heap.size w W → Calls Tryz.prog 63 #[.agg #[.bool a.s.var, .int .i64 a.s.n], .slice A n c] W fun e w' => e = .returned (.int .i64 vS) ∧ Below W.heap.size W w') := fun W h => by
    have := value_any a.s A n c vs W (hv.keep (Rep.flat_stable _) h.size h.block) hs
    rwa [hvS] at this
  obtain ⟨vO, hvO⟩ : ∃ v, valJ a.o vs = v := ⟨_, rfl⟩
  have HCO : Hid (∀ W, Below w.heap.size w W → Calls Tryz.prog 63 #[.agg #[.bool a.o.var, .int .i64 a.o.n], .slice A n c] W fun e w' => e = .returned (.int .i64 vO) ∧ Below W.heap.size W w') := fun W h => by
    have := value_any a.o A n c vs W (hv.keep (Rep.flat_stable _) h.size h.block) ho
    rwa [hvO] at this
  obtain ⟨vV, hvV⟩ : ∃ v, valJ a.v vs = v := ⟨_, rfl⟩
  have HCV : Hid (∀ W, Below w.heap.size w W → Calls Tryz.prog 63 #[.agg #[.bool a.v.var, .int .i64 a.v.n], .slice A n c] W fun e w' => e = .returned (.int .i64 vV) ∧ Below W.heap.size W w') := fun W h => by
    have := value_any a.v A n c vs W (hv.keep (Rep.flat_stable _) h.size h.block) hw
    rwa [hvV] at this
  have HFa : Hid (∀ W, Below w.heap.size w W → fSl W W.heap.size FA fn fc l) := fun W h => hl.keep (Rep.flat_stable _) h.size h.block
  obtain ⟨at1, hat1⟩ : ∃ z, atF l ⟨a.kind, vS, vO⟩ a.term a.known = z := ⟨_, rfl⟩
  have HAT := hidp hat1
  have HT : Hid (atomJ l vs a = decide (at1 = some vV)) := by show _ = _; unfold atomJ; rw [hvS, hvO, hvV, hat1]
  obtain ⟨W0, hW0⟩ : ∃ W0, w.alloc (.cells #[.int .i64 a.kind, .bool a.s.var, .int .i64 a.s.n, .bool a.o.var, .int .i64 a.o.n, .bool a.v.var, .int .i64 a.v.n, .int .i64 a.term, .int .i64 a.known] 64) = W0 := ⟨_, rfl⟩
  have hBW : Below w.heap.size w W0 := hW0 ▸ (Below.refl _ w).alloc (Nat.le_refl _) _
  have g0 : W0.heap[w.heap.size]? = some (.cells #[.int .i64 a.kind, .bool a.s.var, .int .i64 a.s.n, .bool a.o.var, .int .i64 a.o.n, .bool a.v.var, .int .i64 a.v.n, .int .i64 a.term, .int .i64 a.known] 64 (0, 0)) := hW0 ▸ World.alloc_heap_new _ _
  have l0 := lt_of_heap g0
  have HBW := hidp hBW
  have HG := hidp g0
  have x0 := cell_of_heap (o := 0) g0
  have x1 := cell_of_heap (o := 1) g0
  have x2 := cell_of_heap (o := 2) g0
  have x3 := cell_of_heap (o := 3) g0
  have x4 := cell_of_heap (o := 4) g0
  have x5 := cell_of_heap (o := 5) g0
  have x6 := cell_of_heap (o := 6) g0
  have x7 := cell_of_heap (o := 7) g0
  have x8 := cell_of_heap (o := 8) g0
  simp only [List.getElem?_toArray, List.getElem?_cons_zero, List.getElem?_cons_succ] at x0 x1 x2 x3 x4 x5 x6 x7 x8
  have HW0 := hidp hW0
  clear hW0 g0 hBW hl hv hs ho hw hvS hvO hvV hat1
  go_enter Tryz.func25, Tryz.ntmps25
  go_wp2_with fail
  rw [HW0.out]
  refine wp_region_S W0.heap.size 22 (fun _ => false) (Nat.le_refl _) (by kernel_rfl) (by kernel_rfl) (by kernel_rfl) ?_
  dsimp only [List.take, List.drop]
  apply relS_det (mask := [])
  · rfl
  · kernel_rfl
  · kernel_rfl
  · dsimp only [oblS]
    rintro w9 h9
    go_simp
    exact ⟨Below.refl _ _, rfl⟩
  dsimp only [List.nil_append, List.cons_append]
  apply relS_det (mask := [false])
  · rfl
  · kernel_rfl
  · kernel_rfl
  · dsimp only [oblS]
    rintro w9 h9
    go_simp
    exact ⟨Below.refl _ _, rfl⟩
  dsimp only [List.nil_append, List.cons_append]
  apply relS_det (mask := [false, true]) (x := .int .i64 a.kind)
  · rfl
  · kernel_rfl
  · kernel_rfl
  · dsimp only [oblS]
    rintro w9 h9
    have hc9 := (bcell h9).1
    go_simp
    exact ⟨Below.refl _ _, rfl⟩
  dsimp only [List.nil_append, List.cons_append]
  apply relS_det (mask := [false, false, false])
  · rfl
  · kernel_rfl
  · kernel_rfl
  · dsimp only [oblS]
    rintro w9 h9
    go_simp
    exact ⟨Below.refl _ _, rfl⟩
  dsimp only [List.nil_append, List.cons_append]
  apply relS_det (mask := [false, false, false, true]) (x := .agg #[.bool a.s.var, .int .i64 a.s.n])
  · rfl
  · kernel_rfl
  · kernel_rfl
  · dsimp only [oblS]
    rintro w9 h9
    have hc9 := (bcell h9).1
    go_simp
    exact ⟨Below.refl _ _, rfl⟩
  dsimp only [List.nil_append, List.cons_append]
  apply relS_det (mask := [false, false, false, false, false])
  · rfl
  · kernel_rfl
  · kernel_rfl
  · dsimp only [oblS]
    rintro w9 h9
    go_simp
    exact ⟨Below.refl _ _, rfl⟩
  dsimp only [List.nil_append, List.cons_append]
  apply relS_det (mask := [false, false, false, false, true, true]) (x := .int .i64 vS)
  · rfl
  · kernel_rfl
  · kernel_rfl
  · dsimp only [oblS]
    rintro w9 h9
    go_simp
    refine (HCS.out _ (HBW.out.trans (h9.mono HBW.out.size))).mono ?_
    rintro e w7 ⟨rfl, hb7⟩
    exact ⟨_, rfl, hb7, rfl⟩
  dsimp only [List.nil_append, List.cons_append]
  apply relS_det (mask := [false, false, false, false, false, false, false])
  · rfl
  · kernel_rfl
  · kernel_rfl
  · dsimp only [oblS]
    rintro w9 h9
    go_simp
    exact ⟨Below.refl _ _, rfl⟩
  dsimp only [List.nil_append, List.cons_append]
  apply relS_det (mask := [false, false, false, false, false, false, false, true]) (x := .agg #[.bool a.o.var, .int .i64 a.o.n])
  · rfl
  · kernel_rfl
  · kernel_rfl
  · dsimp only [oblS]
    rintro w9 h9
    have hc9 := (bcell h9).1
    go_simp
    exact ⟨Below.refl _ _, rfl⟩
  dsimp only [List.nil_append, List.cons_append]
  apply relS_det (mask := [false, false, false, false, false, false, false, false, false])
  · rfl
  · kernel_rfl
  · kernel_rfl
  · dsimp only [oblS]
    rintro w9 h9
    go_simp
    exact ⟨Below.refl _ _, rfl⟩
  dsimp only [List.nil_append, List.cons_append]
  apply relS_det (mask := [false, false, false, false, false, false, false, false, true, true]) (x := .int .i64 vO)
  · rfl
  · kernel_rfl
  · kernel_rfl
  · dsimp only [oblS]
    rintro w9 h9
    go_simp
    refine (HCO.out _ (HBW.out.trans (h9.mono HBW.out.size))).mono ?_
    rintro e w7 ⟨rfl, hb7⟩
    exact ⟨_, rfl, hb7, rfl⟩
  dsimp only [List.nil_append, List.cons_append]
  apply relS_det (mask := [false, false, true, false, false, false, true, false, false, false, true]) (x := .agg #[.int .i64 a.kind, .int .i64 vS, .int .i64 vO])
  · rfl
  · kernel_rfl
  · kernel_rfl
  · dsimp only [oblS]
    rintro w9 h9
    go_simp
    exact ⟨Below.refl _ _, rfl⟩
  dsimp only [List.nil_append, List.cons_append]
  apply relS_det (mask := [false, false, false, false, false, false, false, false, false, false, false, false])
  · rfl
  · kernel_rfl
  · kernel_rfl
  · dsimp only [oblS]
    rintro w9 h9
    go_simp
    exact ⟨Below.refl _ _, rfl⟩
  dsimp only [List.nil_append, List.cons_append]
  apply relS_det (mask := [false, false, false, false, false, false, false, false, false, false, false, false, true]) (x := .int .i64 a.term)
  · rfl
  · kernel_rfl
  · kernel_rfl
  · dsimp only [oblS]
    rintro w9 h9
    have hc9 := (bcell h9).1
    go_simp
    exact ⟨Below.refl _ _, rfl⟩
  dsimp only [List.nil_append, List.cons_append]
  apply relS_det (mask := [false, false, false, false, false, false, false, false, false, false, false, false, false, false])
  · rfl
  · kernel_rfl
  · kernel_rfl
  · dsimp only [oblS]
    rintro w9 h9
    go_simp
    exact ⟨Below.refl _ _, rfl⟩
  dsimp only [List.nil_append, List.cons_append]
  apply relS_det (mask := [false, false, false, false, false, false, false, false, false, false, false, false, false, false, true]) (x := .int .i64 a.known)
  · rfl
  · kernel_rfl
  · kernel_rfl
  · dsimp only [oblS]
    rintro w9 h9
    have hc9 := (bcell h9).1
    go_simp
    exact ⟨Below.refl _ _, rfl⟩
  dsimp only [List.nil_append, List.cons_append]
  apply relS_det (mask := [true, false, false, false, false, false, false, false, false, false, false, true, false, true, false, true]) (x := .tuple #[.int .i64 (at1.getD 0), .bool at1.isSome])
  · rfl
  · kernel_rfl
  · kernel_rfl
  · dsimp only [oblS]
    rintro w9 h9
    go_simp
    refine (fAt_any FA fn fc l ⟨a.kind, vS, vO⟩ a.term a.known w9 (HFa.out _ (HBW.out.trans (h9.mono HBW.out.size)))).mono ?_
    rintro e w7 ⟨rfl, hb7⟩
    exact ⟨_, rfl, hb7, by rw [HAT.out]; rfl⟩
  dsimp only [List.nil_append, List.cons_append]
  apply relS_det (mask := [false, false, false, false, false, false, false, false, false, false, false, false, false, false, false, false, true])
  · rfl
  · kernel_rfl
  · kernel_rfl
  · dsimp only [oblS]
    rintro w9 h9
    go_simp
    exact ⟨Below.refl _ _, rfl⟩
  dsimp only [List.nil_append, List.cons_append]
  apply relS_det (mask := [false, false, false, false, false, false, false, false, false, false, false, false, false, false, false, false, false, true])
  · rfl
  · kernel_rfl
  · kernel_rfl
  · dsimp only [oblS]
    rintro w9 h9
    go_simp
    exact ⟨Below.refl _ _, rfl⟩
  dsimp only [List.nil_append, List.cons_append]
  apply relS_det (mask := [false, false, false, false, false, false, false, false, false, false, false, false, false, false, false, false, false, true, false])
  · rfl
  · kernel_rfl
  · kernel_rfl
  · dsimp only [oblS]
    rintro w9 h9
    go_simp
    exact ⟨Below.refl _ _, rfl⟩
  dsimp only [List.nil_append, List.cons_append]
  apply relS_det (mask := [false, false, false, false, false, false, false, false, false, false, false, false, false, false, false, false, false, false, true, false])
  · rfl
  · kernel_rfl
  · kernel_rfl
  · dsimp only [oblS]
    rintro w9 h9
    go_simp
    exact ⟨Below.refl _ _, rfl⟩
  dsimp only [List.nil_append, List.cons_append]
  apply relS_det (mask := [false, false, false, false, false, false, false, false, false, false, false, false, false, false, false, false, false, false, false, true, false])
  · rfl
  · kernel_rfl
  · kernel_rfl
  · dsimp only [oblS]
    rintro w9 h9
    go_simp
    exact ⟨Below.refl _ _, rfl⟩
  dsimp only [List.nil_append, List.cons_append]
  refine relS_end (by rfl) ?_
  dsimp only [finS]
  -- rintro  w8 hb
  rintro w8 hb8
  have hb9 := HBW.out.trans (hb8.mono HBW.out.size)
  have hB9 := hidp hb9
  have y5 := ((bcell hb8).1 _ 5 l0).trans x5
  have y6 := ((bcell hb8).1 _ 6 l0).trans x6
  have l8 := lt_of_cell y5
  clear x0 x1 x2 x3 x4 x5 x6 x7 x8 l0 hb8 hb9
  go_simp
  obtain ⟨ok, hok⟩ : ∃ b, at1.isSome = b := ⟨_, rfl⟩
  obtain ⟨v1, hv1⟩ : ∃ v, at1.getD 0 = v := ⟨_, rfl⟩
  obtain ⟨e1, he1⟩ : ∃ b, (v1 == vV) = b := ⟨_, rfl⟩
  rw [hok, hv1]
  have HR : Hid (atomJ l vs a = (ok && e1)) := by
    show _ = _
    rw [HT.out, ← hok, ← he1, ← hv1]
    cases at1 with
    | none => simp
    | some z => simp [Bool.beq_eq_decide_eq]
  have HE1 := hidp he1
  clear hok hv1
  cases ok
  · clear he1
    go_wp2_with fail
    go_ret
    exact ⟨ret_bool HR.out.symm, hB9.out⟩
  · go_wp2_with fail
    refine (HCV.out _ hB9.out).mono ?_
    rintro e w7 ⟨rfl, hb7⟩
    go_wp2_with fail
    go_ret
    exact ⟨ret_bool (by rw [HR.out]; rfl), hB9.out.trans (hb7.mono hB9.out.size)⟩
set_option maxRecDepth 100000 in
set_option maxHeartbeats 2000000 in
theorem level_any (A : Option Addr) (n c : Nat) (l : List Ar) (w : World) (hl : arSl w w.heap.size A n c l) (hb : ∀ a ∈ l, a.var = true → -1 ≤ a.n ∧ a.n ≤ 1000000) :
    Calls Tryz.prog 104 #[.slice A n c] w fun e w' => e = .returned (.int .i64 (lvlL l)) ∧ Below w.heap.size w w' := by
  have HL := hidp hl
  have HBd := hidp hb
  have hnc := hl.2.1
  have hcc := hl.2.2.1
  have HN := hidp hl.1
  clear hl hb
  go_enter Tryz.func104, Tryz.ntmps104
  go_wp2_with fail
  go_loopw [2, 7] (fun v i wr => ∃ k : Nat, k ≤ n ∧ i = .int .i64 k ∧ v = .int .i64 ((l.take k).foldl lvlStep 0) ∧ Below w.heap.size w wr) (fun _ i _ => n - (intOf i).toNat)
  case atStart => exact ⟨0, by omega, rfl, rfl, Below.refl _ _⟩
  case round =>
    obtain ⟨k, hk, rfl, rfl, hbe⟩ := hrel
    have HB := hidp hbe
    clear hbe
    by_cases hkn : k < n
    · have hkn' : (k : Int) < n := by omega
      obtain ⟨b, off, a, cs, rfl, hb, ha, hr, hc⟩ := Rows.get (HL.out.keep (Rep.flat_stable _) HB.out.size HB.out.block) hkn
      obtain rfl := hr
      have c0 := hc 0 _ rfl
      have c1 := hc 1 _ rfl
      rw [Nat.add_zero] at c0
      have lb := lt_of_cell c0
      have hS : (l.take (k + 1)).foldl lvlStep 0 = lvlStep ((l.take k).foldl lvlStep 0) a := by rw [take_snoc ha]; simp
      have hba := HBd.out a (List.mem_of_getElem? ha)
      obtain ⟨z, hz⟩ : ∃ z, (l.take k).foldl lvlStep 0 = z := ⟨_, rfl⟩
      rw [hz] at hS
      rw [hz]
      have HS := hidp hS
      obtain ⟨vb, hvb⟩ : ∃ v, a.var = v := ⟨_, rfl⟩
      have HVb := hidp hvb
      rw [hvb] at c0 hba
      obtain ⟨m, hm⟩ : ∃ m, a.n = m := ⟨_, rfl⟩
      rw [hm] at c1 hba
      have HM := hidp hm
      have HBA := hidp hba
      have hbn := HB.out.alloc HB.out.size (.cells #[.bool vb, .int .i64 m] 62)
      have HBN := hidp hbn
      clear hc ha hS hz hvb hm hba hbn
      cases vb
      · have HE : Hid (lvlStep z a = z) := by show _ = _; unfold lvlStep; rw [HVb.out]; rfl
        go_wp2_with fail
        go_roundw
        case rel => exact ⟨k + 1, by omega, by go_num, by rw [HS.out, HE.out], HBN.out⟩
        case measure => simp [intOf]; omega
      · have h2 := HBA.out rfl
        have hm1 : -1 ≤ m := h2.1
        have hm2 : m ≤ 1000000 := h2.2
        have HE : Hid (lvlStep z a = max z (m + 1)) := by show _ = _; unfold lvlStep; rw [HVb.out, HM.out]; rfl
        clear h2
        go_wp2_with fail
        exact ⟨⟨k + 1, by omega, by go_num, by rw [HS.out, HE.out], HBN.out⟩, by simp [intOf]; omega⟩
    · obtain rfl : k = n := by omega
      have HAll : Hid (l.take k = l) := List.take_of_length_le (by rw [← HN.out]; exact Nat.le_refl _)
      have hkk : ¬ ((k : Int) < k) := by omega
      go_wp2_with fail
      go_ret
      exact ⟨by rw [HAll.out]; rfl, HB.out⟩
end Go.Proofs.YtbegdcjofnfkiaaGreatDoor
