/- Several texts in one: J8 J9 RelJ RelQ J10. -/
import Derived.Test.YtbegdcjofnfkiaaGreatDoorQ2
import Derived.Test.YtbegdcjofnfkiaaGreatDoorQ7
import Derived.Test.YtbegdcjofnfkiaaGreatDoorQ10
import Derived.Test.YtbegdcjofnfkiaaGreatDoorQ4
import Derived.Test.YtbegdcjofnfkiaaGreatDoorJ6
import Derived.Test.YtbegdcjofnfkiaaGreatDoorQ3
namespace Go.Proofs.YtbegdcjofnfkiaaGreatDoor
section
open Go.RowKit Go.Shelf Go.Sort
abbrev arSl := Rows 2 (Rep.flat arEnc)
def VarIn (a : Ar) (n : Nat) : Prop := a.var = true → 0 ≤ a.n ∧ a.n < n
set_option maxHeartbeats 1000000 in
theorem value_any (a : Ar) (A : Option Addr) (n c : Nat) (vs : List Int) (w : World) (hv : iSl w w.heap.size A n c vs) (ha : VarIn a n) :
  Calls Tryz.prog 63 #[.agg #[.bool a.var, .int .i64 a.n], .slice A n c] w fun e w' => e = .returned (.int .i64 (valJ a vs)) ∧ Below w.heap.size w w' := by
 obtain ⟨var, m⟩ := a
 have hnc := hv.2.1
 have hcc := hv.2.2.1
 cases var
 ·go_enter Tryz.func63, Tryz.ntmps63
  go_wp2_with fail
  go_ret
  exact ⟨rfl, (Below.refl _ _).alloc (Nat.le_refl _) _⟩
 ·obtain ⟨h0, h1⟩ := ha rfl
  obtain ⟨k, rfl⟩ : ∃ k : Nat, m = k := ⟨m.toNat, by simp only at h0; omega⟩
  have hk : k < n := by simp only at h1; omega
  obtain ⟨b, off, x, rfl, hb, hx, c0⟩ := iSl.get hv hk
  have HX : Hid (valJ ⟨true, k⟩ vs = x) := by
   show _ = _
   simp [valJ, List.getD_eq_getElem?_getD, hx]
  have hk' : (k : Int) < n := by omega
  clear hv ha hx h0 h1
  dsimp only
  go_enter Tryz.func63, Tryz.ntmps63
  go_wp2_with fail
  go_ret
  exact ⟨by rw [HX.out]; rfl, (Below.refl _ _).alloc (Nat.le_refl _) _⟩
set_option maxRecDepth 100000 in
set_option maxHeartbeats 2000000 in
theorem test_any (t : Te) (A : Option Addr) (n c : Nat) (vs : List Int) (w : World) (hv : iSl w w.heap.size A n c vs) (ha : VarIn t.a n) (hb : VarIn t.b n) :
  Calls Tryz.prog 26 #[.agg #[.int .i64 t.op, .bool t.a.var, .int .i64 t.a.n, .bool t.b.var, .int .i64 t.b.n], .slice A n c] w fun e w' => e = .returned (.bool (testJ vs t)) ∧ Below w.heap.size w w' := by
 obtain ⟨va, hva⟩ : ∃ v, valJ t.a vs = v := ⟨_, rfl⟩
 obtain ⟨vb, hvb⟩ : ∃ v, valJ t.b vs = v := ⟨_, rfl⟩
 have HCA : Hid (∀ W, Below w.heap.size w W → Calls Tryz.prog 63 #[.agg #[.bool t.a.var, .int .i64 t.a.n], .slice A n c] W fun e w' => e = .returned (.int .i64 va) ∧ Below W.heap.size W w') := fun W h => by
  have := value_any t.a A n c vs W (hv.keep (Rep.flat_stable _) h.size h.block) ha
  rwa [hva] at this
 have HCB : Hid (∀ W, Below w.heap.size w W → Calls Tryz.prog 63 #[.agg #[.bool t.b.var, .int .i64 t.b.n], .slice A n c] W fun e w' => e = .returned (.int .i64 vb) ∧ Below W.heap.size W w') := fun W h => by
  have := value_any t.b A n c vs W (hv.keep (Rep.flat_stable _) h.size h.block) hb
  rwa [hvb] at this
 have HT : Hid (testJ vs t = opJ t.op va vb) := by show _ = _; unfold testJ; rw [hva, hvb]
 obtain ⟨W0, hW0⟩ : ∃ W0, w.alloc (.cells #[.int .i64 t.op, .bool t.a.var, .int .i64 t.a.n, .bool t.b.var, .int .i64 t.b.n] 67) = W0 := ⟨_, rfl⟩
 have hBW : Below w.heap.size w W0 := hW0 ▸ (Below.refl _ w).alloc (Nat.le_refl _) _
 have g0 : W0.heap[w.heap.size]? = some (.cells #[.int .i64 t.op, .bool t.a.var, .int .i64 t.a.n, .bool t.b.var, .int .i64 t.b.n] 67 (0, 0)) := hW0 ▸ World.alloc_heap_new _ _
 have l0 := lt_of_heap g0
 have HBW := hidp hBW
 have HG := hidp g0
 have x0 := cell_of_heap (o := 0) g0
 have x1 := cell_of_heap (o := 1) g0
 have x2 := cell_of_heap (o := 2) g0
 have x3 := cell_of_heap (o := 3) g0
 have x4 := cell_of_heap (o := 4) g0
 simp only [List.getElem?_toArray, List.getElem?_cons_zero, List.getElem?_cons_succ] at x0 x1 x2 x3 x4
 have HW0 := hidp hW0
 clear hW0 g0 hBW hv ha hb hva hvb
 go_enter Tryz.func26, Tryz.ntmps26
 go_wp2_with fail
 rw [HW0.out]
 refine wp_region_S W0.heap.size 10 (fun _ => false) (Nat.le_refl _) (by kernel_rfl) (by kernel_rfl) (by kernel_rfl) ?_
 dsimp only [List.take, List.drop]
 apply relS_det (mask := [])
 ·rfl
 ·kernel_rfl
 ·kernel_rfl
 ·dsimp only [oblS]
  rintro w9 h9
  go_simp
  exact ⟨Below.refl _ _, rfl⟩
 dsimp only [naL, caL]
 apply relS_det (mask := [true]) (x := .agg #[.bool t.a.var, .int .i64 t.a.n])
 ·rfl
 ·kernel_rfl
 ·kernel_rfl
 ·dsimp only [oblS]
  rintro w9 h9
  have hc9 := (bcell h9).1
  go_simp
  exact ⟨Below.refl _ _, rfl⟩
 dsimp only [naL, caL]
 apply relS_det (mask := [false, false])
 ·rfl
 ·kernel_rfl
 ·kernel_rfl
 ·dsimp only [oblS]
  rintro w9 h9
  go_simp
  exact ⟨Below.refl _ _, rfl⟩
 dsimp only [naL, caL]
 apply relS_det (mask := [false, true, true]) (x := .int .i64 va)
 ·rfl
 ·kernel_rfl
 ·kernel_rfl
 ·dsimp only [oblS]
  rintro w9 h9
  go_simp
  refine (HCA.out _ (HBW.out.trans (h9.mono HBW.out.size))).mono ?_
  rintro e w7 ⟨rfl, hb7⟩
  exact ⟨_, rfl, hb7, rfl⟩
 dsimp only [naL, caL]
 apply relS_det (mask := [false, false, false, false])
 ·rfl
 ·kernel_rfl
 ·kernel_rfl
 ·dsimp only [oblS]
  rintro w9 h9
  go_simp
  exact ⟨Below.refl _ _, rfl⟩
 dsimp only [naL, caL]
 apply relS_det (mask := [false, false, false, false, true]) (x := .agg #[.bool t.b.var, .int .i64 t.b.n])
 ·rfl
 ·kernel_rfl
 ·kernel_rfl
 ·dsimp only [oblS]
  rintro w9 h9
  have hc9 := (bcell h9).1
  go_simp
  exact ⟨Below.refl _ _, rfl⟩
 dsimp only [naL, caL]
 apply relS_det (mask := [false, false, false, false, false, false])
 ·rfl
 ·kernel_rfl
 ·kernel_rfl
 ·dsimp only [oblS]
  rintro w9 h9
  go_simp
  exact ⟨Below.refl _ _, rfl⟩
 dsimp only [naL, caL]
 apply relS_det (mask := [false, false, false, false, false, true, true]) (x := .int .i64 vb)
 ·rfl
 ·kernel_rfl
 ·kernel_rfl
 ·dsimp only [oblS]
  rintro w9 h9
  go_simp
  refine (HCB.out _ (HBW.out.trans (h9.mono HBW.out.size))).mono ?_
  rintro e w7 ⟨rfl, hb7⟩
  exact ⟨_, rfl, hb7, rfl⟩
 dsimp only [naL, caL]
 apply relS_det (mask := [false, false, false, true, false, false, false, false])
 ·rfl
 ·kernel_rfl
 ·kernel_rfl
 ·dsimp only [oblS]
  rintro w9 h9
  go_simp
  exact ⟨Below.refl _ _, rfl⟩
 dsimp only [naL, caL]
 apply relS_det (mask := [false, false, false, false, false, false, false, true, false])
 ·rfl
 ·kernel_rfl
 ·kernel_rfl
 ·dsimp only [oblS]
  rintro w9 h9
  go_simp
  exact ⟨Below.refl _ _, rfl⟩
 dsimp only [naL, caL]
 refine relS_end (by rfl) ?_
 dsimp only [finS]
 -- rintro  w8 hb
 rintro w8 hb8
 have hb9 := HBW.out.trans (hb8.mono HBW.out.size)
 have x0' := ((bcell hb8).1 _ 0 l0).trans x0
 have l8 := lt_of_cell x0'
 clear x0 x1 x2 x3 x4 l0 hb8
 go_simp
 obtain ⟨op, hop⟩ : ∃ z, t.op = z := ⟨_, rfl⟩
 rw [hop] at x0'
 have HOP := hidp hop
 clear hop
 by_cases h2 : op = -2
 ·subst h2
  have HR : Hid (testJ vs t = decide (va < vb)) := by show _ = _; rw [HT.out, HOP.out]; rfl
  go_wp2_with fail
  go_ret
  exact ⟨ret_bool HR.out.symm, hb9⟩
 have e2 : (op == -2) = false := by simpa using h2
 by_cases h1 : op = -1
 ·subst h1
  have HR : Hid (testJ vs t = decide (va ≤ vb)) := by show _ = _; rw [HT.out, HOP.out]; rfl
  clear h2
  go_wp2_with fail
  go_ret
  exact ⟨ret_bool HR.out.symm, hb9⟩
 have e1 : (op == -1) = false := by simpa using h1
 by_cases h0 : op = 0
 ·subst h0
  have HR : Hid (testJ vs t = (va == vb)) := by show _ = _; rw [HT.out, HOP.out]; rfl
  clear h1 h2
  go_wp2_with fail
  go_ret
  exact ⟨ret_bool HR.out.symm, hb9⟩
 have e0 : (op == 0) = false := by simpa using h0
 have HR : Hid (testJ vs t = (va != vb)) := by
  show _ = _
  rw [HT.out, HOP.out]
  unfold opJ
  rw [if_neg h2, if_neg h1, if_neg h0, Bool.eq_iff_iff]; simp
 clear h0 h1 h2
 go_wp2_with fail
 go_ret
 exact ⟨ret_bool HR.out.symm, hb9⟩
set_option maxRecDepth 100000 in
set_option maxHeartbeats 2000000 in
theorem atom_any (a : Am) (FA : Option Addr) (fn fc : Nat) (l : List Fc) (A : Option Addr) (n c : Nat) (vs : List Int) (w : World) (hl : fSl w w.heap.size FA fn fc l) (hv : iSl w w.heap.size A n c vs) (hs : VarIn a.s n) (ho : VarIn a.o n) (hw : VarIn a.v n) :
  Calls Tryz.prog 25 #[.agg #[.int .i64 a.kind, .bool a.s.var, .int .i64 a.s.n, .bool a.o.var, .int .i64 a.o.n, .bool a.v.var, .int .i64 a.v.n, .int .i64 a.term, .int .i64 a.known], .slice FA fn fc, .slice A n c] w fun e w' => e = .returned (.bool (atomJ l vs a)) ∧ Below w.heap.size w w' := by
 obtain ⟨vS, hvS⟩ : ∃ v, valJ a.s vs = v := ⟨_, rfl⟩
 have HCS : Hid (∀ W, Below w.heap.size w W → Calls Tryz.prog 63 #[.agg #[.bool a.s.var, .int .i64 a.s.n], .slice A n c] W fun e w' => e = .returned (.int .i64 vS) ∧ Below W.heap.size W w') := fun W h => by
  have := value_any a.s A n c vs W (hv.keep (Rep.flat_stable _) h.size h.block) hs
  rwa [hvS] at this
 obtain ⟨vO, hvO⟩ : ∃ v, valJ a.o vs = v := ⟨_, rfl⟩
 have HCO : Hid (∀ W, Below w.heap.size w W → Calls Tryz.prog 63 #[.agg #[.bool a.o.var, .int .i64 a.o.n], .slice A n c] W fun e w' => e = .returned (.int .i64 vO) ∧ Below W.heap.size W w') := fun W h => by
  have := value_any a.o A n c vs W (hv.keep (Rep.flat_stable _) h.size h.block) ho
  rwa [hvO] at this
 obtain ⟨vV, hvV⟩ : ∃ v, valJ a.v vs = v := ⟨_, rfl⟩
 have HCV : Hid (∀ W, Below w.heap.size w W → Calls Tryz.prog 63 #[.agg #[.bool a.v.var, .int .i64 a.v.n], .slice A n c] W fun e w' => e = .returned (.int .i64 vV) ∧ Below W.heap.size W w') := fun W h => by
  have := value_any a.v A n c vs W (hv.keep (Rep.flat_stable _) h.size h.block) hw
  rwa [hvV] at this
 have HFa : Hid (∀ W, Below w.heap.size w W → fSl W W.heap.size FA fn fc l) := fun W h => hl.keep (Rep.flat_stable _) h.size h.block
 obtain ⟨at1, hat1⟩ : ∃ z, atF l ⟨a.kind, vS, vO⟩ a.term a.known = z := ⟨_, rfl⟩
 have HAT := hidp hat1
 have HT : Hid (atomJ l vs a = decide (at1 = some vV)) := by show _ = _; unfold atomJ; rw [hvS, hvO, hvV, hat1]
 obtain ⟨W0, hW0⟩ : ∃ W0, w.alloc (.cells #[.int .i64 a.kind, .bool a.s.var, .int .i64 a.s.n, .bool a.o.var, .int .i64 a.o.n, .bool a.v.var, .int .i64 a.v.n, .int .i64 a.term, .int .i64 a.known] 64) = W0 := ⟨_, rfl⟩
 have hBW : Below w.heap.size w W0 := hW0 ▸ (Below.refl _ w).alloc (Nat.le_refl _) _
 have g0 : W0.heap[w.heap.size]? = some (.cells #[.int .i64 a.kind, .bool a.s.var, .int .i64 a.s.n, .bool a.o.var, .int .i64 a.o.n, .bool a.v.var, .int .i64 a.v.n, .int .i64 a.term, .int .i64 a.known] 64 (0, 0)) := hW0 ▸ World.alloc_heap_new _ _
 have l0 := lt_of_heap g0
 have HBW := hidp hBW
 have HG := hidp g0
 have x0 := cell_of_heap (o := 0) g0
 have x1 := cell_of_heap (o := 1) g0
 have x2 := cell_of_heap (o := 2) g0
 have x3 := cell_of_heap (o := 3) g0
 have x4 := cell_of_heap (o := 4) g0
 have x5 := cell_of_heap (o := 5) g0
 have x6 := cell_of_heap (o := 6) g0
 have x7 := cell_of_heap (o := 7) g0
 have x8 := cell_of_heap (o := 8) g0
 simp only [List.getElem?_toArray, List.getElem?_cons_zero, List.getElem?_cons_succ] at x0 x1 x2 x3 x4 x5 x6 x7 x8
 have HW0 := hidp hW0
 clear hW0 g0 hBW hl hv hs ho hw hvS hvO hvV hat1
 go_enter Tryz.func25, Tryz.ntmps25
 go_wp2_with fail
 rw [HW0.out]
 refine wp_region_S W0.heap.size 22 (fun _ => false) (Nat.le_refl _) (by kernel_rfl) (by kernel_rfl) (by kernel_rfl) ?_
 dsimp only [List.take, List.drop]
 apply relS_det (mask := [])
 ·rfl
 ·kernel_rfl
 ·kernel_rfl
 ·dsimp only [oblS]
  rintro w9 h9
  go_simp
  exact ⟨Below.refl _ _, rfl⟩
 dsimp only [naL, caL]
 apply relS_det (mask := [false])
 ·rfl
 ·kernel_rfl
 ·kernel_rfl
 ·dsimp only [oblS]
  rintro w9 h9
  go_simp
  exact ⟨Below.refl _ _, rfl⟩
 dsimp only [naL, caL]
 apply relS_det (mask := [false, true]) (x := .int .i64 a.kind)
 ·rfl
 ·kernel_rfl
 ·kernel_rfl
 ·dsimp only [oblS]
  rintro w9 h9
  have hc9 := (bcell h9).1
  go_simp
  exact ⟨Below.refl _ _, rfl⟩
 dsimp only [naL, caL]
 apply relS_det (mask := [false, false, false])
 ·rfl
 ·kernel_rfl
 ·kernel_rfl
 ·dsimp only [oblS]
  rintro w9 h9
  go_simp
  exact ⟨Below.refl _ _, rfl⟩
 dsimp only [naL, caL]
 apply relS_det (mask := [false, false, false, true]) (x := .agg #[.bool a.s.var, .int .i64 a.s.n])
 ·rfl
 ·kernel_rfl
 ·kernel_rfl
 ·dsimp only [oblS]
  rintro w9 h9
  have hc9 := (bcell h9).1
  go_simp
  exact ⟨Below.refl _ _, rfl⟩
 dsimp only [naL, caL]
 apply relS_det (mask := [false, false, false, false, false])
 ·rfl
 ·kernel_rfl
 ·kernel_rfl
 ·dsimp only [oblS]
  rintro w9 h9
  go_simp
  exact ⟨Below.refl _ _, rfl⟩
 dsimp only [naL, caL]
 apply relS_det (mask := [false, false, false, false, true, true]) (x := .int .i64 vS)
 ·rfl
 ·kernel_rfl
 ·kernel_rfl
 ·dsimp only [oblS]
  rintro w9 h9
  go_simp
  refine (HCS.out _ (HBW.out.trans (h9.mono HBW.out.size))).mono ?_
  rintro e w7 ⟨rfl, hb7⟩
  exact ⟨_, rfl, hb7, rfl⟩
 dsimp only [naL, caL]
 apply relS_det (mask := [false, false, false, false, false, false, false])
 ·rfl
 ·kernel_rfl
 ·kernel_rfl
 ·dsimp only [oblS]
  rintro w9 h9
  go_simp
  exact ⟨Below.refl _ _, rfl⟩
 dsimp only [naL, caL]
 apply relS_det (mask := [false, false, false, false, false, false, false, true]) (x := .agg #[.bool a.o.var, .int .i64 a.o.n])
 ·rfl
 ·kernel_rfl
 ·kernel_rfl
 ·dsimp only [oblS]
  rintro w9 h9
  have hc9 := (bcell h9).1
  go_simp
  exact ⟨Below.refl _ _, rfl⟩
 dsimp only [naL, caL]
 apply relS_det (mask := [false, false, false, false, false, false, false, false, false])
 ·rfl
 ·kernel_rfl
 ·kernel_rfl
 ·dsimp only [oblS]
  rintro w9 h9
  go_simp
  exact ⟨Below.refl _ _, rfl⟩
 dsimp only [naL, caL]
 apply relS_det (mask := [false, false, false, false, false, false, false, false, true, true]) (x := .int .i64 vO)
 ·rfl
 ·kernel_rfl
 ·kernel_rfl
 ·dsimp only [oblS]
  rintro w9 h9
  go_simp
  refine (HCO.out _ (HBW.out.trans (h9.mono HBW.out.size))).mono ?_
  rintro e w7 ⟨rfl, hb7⟩
  exact ⟨_, rfl, hb7, rfl⟩
 dsimp only [naL, caL]
 apply relS_det (mask := [false, false, true, false, false, false, true, false, false, false, true]) (x := .agg #[.int .i64 a.kind, .int .i64 vS, .int .i64 vO])
 ·rfl
 ·kernel_rfl
 ·kernel_rfl
 ·dsimp only [oblS]
  rintro w9 h9
  go_simp
  exact ⟨Below.refl _ _, rfl⟩
 dsimp only [naL, caL]
 apply relS_det (mask := [false, false, false, false, false, false, false, false, false, false, false, false])
 ·rfl
 ·kernel_rfl
 ·kernel_rfl
 ·dsimp only [oblS]
  rintro w9 h9
  go_simp
  exact ⟨Below.refl _ _, rfl⟩
 dsimp only [naL, caL]
 apply relS_det (mask := [false, false, false, false, false, false, false, false, false, false, false, false, true]) (x := .int .i64 a.term)
 ·rfl
 ·kernel_rfl
 ·kernel_rfl
 ·dsimp only [oblS]
  rintro w9 h9
  have hc9 := (bcell h9).1
  go_simp
  exact ⟨Below.refl _ _, rfl⟩
 dsimp only [naL, caL]
 apply relS_det (mask := [false, false, false, false, false, false, false, false, false, false, false, false, false, false])
 ·rfl
 ·kernel_rfl
 ·kernel_rfl
 ·dsimp only [oblS]
  rintro w9 h9
  go_simp
  exact ⟨Below.refl _ _, rfl⟩
 dsimp only [naL, caL]
 apply relS_det (mask := [false, false, false, false, false, false, false, false, false, false, false, false, false, false, true]) (x := .int .i64 a.known)
 ·rfl
 ·kernel_rfl
 ·kernel_rfl
 ·dsimp only [oblS]
  rintro w9 h9
  have hc9 := (bcell h9).1
  go_simp
  exact ⟨Below.refl _ _, rfl⟩
 dsimp only [naL, caL]
 apply relS_det (mask := [true, false, false, false, false, false, false, false, false, false, false, true, false, true, false, true]) (x := .tuple #[.int .i64 (at1.getD 0), .bool at1.isSome])
 ·rfl
 ·kernel_rfl
 ·kernel_rfl
 ·dsimp only [oblS]
  rintro w9 h9
  go_simp
  refine (fAt_any FA fn fc l ⟨a.kind, vS, vO⟩ a.term a.known w9 (HFa.out _ (HBW.out.trans (h9.mono HBW.out.size)))).mono ?_
  rintro e w7 ⟨rfl, hb7⟩
  exact ⟨_, rfl, hb7, by rw [HAT.out]; rfl⟩
 dsimp only [naL, caL]
 apply relS_det (mask := [false, false, false, false, false, false, false, false, false, false, false, false, false, false, false, false, true])
 ·rfl
 ·kernel_rfl
 ·kernel_rfl
 ·dsimp only [oblS]
  rintro w9 h9
  go_simp
  exact ⟨Below.refl _ _, rfl⟩
 dsimp only [naL, caL]
 apply relS_det (mask := [false, false, false, false, false, false, false, false, false, false, false, false, false, false, false, false, false, true])
 ·rfl
 ·kernel_rfl
 ·kernel_rfl
 ·dsimp only [oblS]
  rintro w9 h9
  go_simp
  exact ⟨Below.refl _ _, rfl⟩
 dsimp only [naL, caL]
 apply relS_det (mask := [false, false, false, false, false, false, false, false, false, false, false, false, false, false, false, false, false, true, false])
 ·rfl
 ·kernel_rfl
 ·kernel_rfl
 ·dsimp only [oblS]
  rintro w9 h9
  go_simp
  exact ⟨Below.refl _ _, rfl⟩
 dsimp only [naL, caL]
 apply relS_det (mask := [false, false, false, false, false, false, false, false, false, false, false, false, false, false, false, false, false, false, true, false])
 ·rfl
 ·kernel_rfl
 ·kernel_rfl
 ·dsimp only [oblS]
  rintro w9 h9
  go_simp
  exact ⟨Below.refl _ _, rfl⟩
 dsimp only [naL, caL]
 apply relS_det (mask := [false, false, false, false, false, false, false, false, false, false, false, false, false, false, false, false, false, false, false, true, false])
 ·rfl
 ·kernel_rfl
 ·kernel_rfl
 ·dsimp only [oblS]
  rintro w9 h9
  go_simp
  exact ⟨Below.refl _ _, rfl⟩
 dsimp only [naL, caL]
 refine relS_end (by rfl) ?_
 dsimp only [finS]
 -- rintro  w8 hb
 rintro w8 hb8
 have hb9 := HBW.out.trans (hb8.mono HBW.out.size)
 have hB9 := hidp hb9
 have y5 := ((bcell hb8).1 _ 5 l0).trans x5
 have y6 := ((bcell hb8).1 _ 6 l0).trans x6
 have l8 := lt_of_cell y5
 clear x0 x1 x2 x3 x4 x5 x6 x7 x8 l0 hb8 hb9
 go_simp
 obtain ⟨ok, hok⟩ : ∃ b, at1.isSome = b := ⟨_, rfl⟩
 obtain ⟨v1, hv1⟩ : ∃ v, at1.getD 0 = v := ⟨_, rfl⟩
 obtain ⟨e1, he1⟩ : ∃ b, (v1 == vV) = b := ⟨_, rfl⟩
 rw [hok, hv1]
 have HR : Hid (atomJ l vs a = (ok && e1)) := by
  show _ = _
  rw [HT.out, ← hok, ← he1, ← hv1]
  cases at1 with
  | none => simp
  | some z => simp [Bool.beq_eq_decide_eq]
 have HE1 := hidp he1
 clear hok hv1
 cases ok
 ·clear he1
  go_wp2_with fail
  go_ret
  exact ⟨ret_bool HR.out.symm, hB9.out⟩
 ·go_wp2_with fail
  refine (HCV.out _ hB9.out).mono ?_
  rintro e w7 ⟨rfl, hb7⟩
  go_wp2_with fail
  go_ret
  exact ⟨ret_bool (by rw [HR.out]; rfl), hB9.out.trans (hb7.mono hB9.out.size)⟩
set_option maxRecDepth 100000 in
set_option maxHeartbeats 2000000 in
theorem level_any (A : Option Addr) (n c : Nat) (l : List Ar) (w : World) (hl : arSl w w.heap.size A n c l) (hb : ∀ a ∈ l, a.var = true → -1 ≤ a.n ∧ a.n ≤ 1000000) :
  Calls Tryz.prog 104 #[.slice A n c] w fun e w' => e = .returned (.int .i64 (lvlL l)) ∧ Below w.heap.size w w' := by
 have HL := hidp hl
 have HBd := hidp hb
 have hnc := hl.2.1
 have hcc := hl.2.2.1
 have HN := hidp hl.1
 clear hl hb
 go_enter Tryz.func104, Tryz.ntmps104
 go_wp2_with fail
 go_loopw [2, 7] (fun v i wr => ∃ k : Nat, k ≤ n ∧ i = .int .i64 k ∧ v = .int .i64 ((l.take k).foldl lvlStep 0) ∧ Below w.heap.size w wr) (fun _ i _ => n - (intOf i).toNat)
 case atStart => exact ⟨0, by omega, rfl, rfl, Below.refl _ _⟩
 case round =>
  obtain ⟨k, hk, rfl, rfl, hbe⟩ := hrel
  have HB := hidp hbe
  clear hbe
  by_cases hkn : k < n
  ·have hkn' : (k : Int) < n := by omega
   obtain ⟨b, off, a, cs, rfl, hb, ha, hr, hc⟩ := Rows.get (HL.out.keep (Rep.flat_stable _) HB.out.size HB.out.block) hkn
   obtain rfl := hr
   have c0 := hc 0 _ rfl
   have c1 := hc 1 _ rfl
   rw [Nat.add_zero] at c0
   have lb := lt_of_cell c0
   have hS : (l.take (k + 1)).foldl lvlStep 0 = lvlStep ((l.take k).foldl lvlStep 0) a := by rw [take_snoc ha]; simp
   have hba := HBd.out a (List.mem_of_getElem? ha)
   obtain ⟨z, hz⟩ : ∃ z, (l.take k).foldl lvlStep 0 = z := ⟨_, rfl⟩
   rw [hz] at hS
   rw [hz]
   have HS := hidp hS
   obtain ⟨vb, hvb⟩ : ∃ v, a.var = v := ⟨_, rfl⟩
   have HVb := hidp hvb
   rw [hvb] at c0 hba
   obtain ⟨m, hm⟩ : ∃ m, a.n = m := ⟨_, rfl⟩
   rw [hm] at c1 hba
   have HM := hidp hm
   have HBA := hidp hba
   have hbn := HB.out.alloc HB.out.size (.cells #[.bool vb, .int .i64 m] 62)
   have HBN := hidp hbn
   clear hc ha hS hz hvb hm hba hbn
   cases vb
   ·have HE : Hid (lvlStep z a = z) := by show _ = _; unfold lvlStep; rw [HVb.out]; rfl
    go_wp2_with fail
    go_roundw
    case rel => exact ⟨k + 1, by omega, by go_num, by rw [HS.out, HE.out], HBN.out⟩
    case measure => simp [intOf]; omega
   ·have h2 := HBA.out rfl
    have hm1 : -1 ≤ m := h2.1
    have hm2 : m ≤ 1000000 := h2.2
    have HE : Hid (lvlStep z a = max z (m + 1)) := by show _ = _; unfold lvlStep; rw [HVb.out, HM.out]; rfl
    clear h2
    go_wp2_with fail
    exact ⟨⟨k + 1, by omega, by go_num, by rw [HS.out, HE.out], HBN.out⟩, by simp [intOf]; omega⟩
  ·obtain rfl : k = n := by omega
   have HAll : Hid (l.take k = l) := List.take_of_length_le (by rw [← HN.out]; exact Nat.le_refl _)
   have hkk : ¬ ((k : Int) < k) := by omega
   go_wp2_with fail
   go_ret
   exact ⟨by rw [HAll.out]; rfl, HB.out⟩
end
section
open Go.RowKit Go.Shelf Go.Sort
def holdV (q : Qu) (l : List Fc) (vs : List Int) : Bool := checkJ wdJ q && decide (vs.length = q.names.length) && holdsJ q l vs
def holdE (q : Qu) (vs : List Int) : Int := if checkJ wdJ q = true then (if vs.length = q.names.length then 0 else 510) else 500
structure QBox (q : Qu) (B : Nat) (W : World) : Prop where
 box : W.heap[B]? = some (.cells #[.slice q.nA q.nn q.nc, .slice q.sA q.sn q.sc, .slice q.aA q.an q.ac, .slice q.tA q.tn q.tc] 27 (0, 0))
theorem QBox.later {q : Qu} {B : Nat} {W W' : World} (h : QBox q B W) (hb : Below W.heap.size W W') : QBox q B W' := ⟨(hb.block _ (lt_of_heap h.box)).trans h.box⟩
theorem QBox.cells {q : Qu} {B : Nat} {W : World} (h : QBox q B W) : W.cell? ⟨B, 0, none⟩ = some (.slice q.nA q.nn q.nc) ∧ W.cell? ⟨B, 1, none⟩ = some (.slice q.sA q.sn q.sc) ∧ W.cell? ⟨B, 2, none⟩ = some (.slice q.aA q.an q.ac) ∧ W.cell? ⟨B, 3, none⟩ = some (.slice q.tA q.tn q.tc) ∧ B < W.heap.size :=
 ⟨by rw [cell_of_heap h.box]; rfl, by rw [cell_of_heap h.box]; rfl, by rw [cell_of_heap h.box]; rfl, by rw [cell_of_heap h.box]; rfl, lt_of_heap h.box⟩
set_option maxRecDepth 100000 in
set_option maxHeartbeats 4000000 in
theorem holds_any (q : Qu) (FA : Option Addr) (fn fc : Nat) (l : List Fc) (A : Option Addr) (n c : Nat) (vs : List Int) (w : World) (hq : QuIn q w w.heap.size) (hw : WordsAt w) (hl : fSl w w.heap.size FA fn fc l) (hv : iSl w w.heap.size A n c vs) :
  Calls Tryz.prog 8 #[.agg #[.slice q.nA q.nn q.nc, .slice q.sA q.sn q.sc, .slice q.aA q.an q.ac, .slice q.tA q.tn q.tc], .slice FA fn fc, .slice A n c] w fun e w' => e = .returned (.tuple #[.bool (holdV q l vs), .int .i64 (holdE q vs)]) ∧ Below w.heap.size w w' := by
 have HQu : Hid (∀ W, Below w.heap.size w W → QuIn q W W.heap.size) := fun W hb => hq.keep hb.size hb.block
 have HWd : Hid (∀ W, Below w.heap.size w W → WordsAt W) := fun W hb => hw.below hb
 have HFa : Hid (∀ W, Below w.heap.size w W → fSl W W.heap.size FA fn fc l) := fun W h => hl.keep (Rep.flat_stable _) h.size h.block
 have HV : Hid (∀ W, Below w.heap.size w W → iSl W W.heap.size A n c vs) := fun W h => hv.keep (Rep.flat_stable _) h.size h.block
 have HN := hidp hv.1
 have HLen : Hid (q.nn = q.names.length ∧ q.sn = q.shows.length ∧ q.an = q.atoms.length ∧ q.tn = q.tests.length) := ⟨hq.1.1, hq.2.1.1, hq.2.2.1.1, hq.2.2.2.1⟩
 have haq := hq.2.2.1.2.1
 have hac := hq.2.2.1.2.2.1
 have htq := hq.2.2.2.2.1
 have htc := hq.2.2.2.2.2.1
 obtain ⟨W0, hW0⟩ : ∃ W0, w.alloc (.cells #[.slice q.nA q.nn q.nc, .slice q.sA q.sn q.sc, .slice q.aA q.an q.ac, .slice q.tA q.tn q.tc] 27) = W0 := ⟨_, rfl⟩
 have hBW : Below w.heap.size w W0 := hW0 ▸ (Below.refl _ w).alloc (Nat.le_refl _) _
 have hb0 : QBox q w.heap.size W0 := ⟨hW0 ▸ World.alloc_heap_new _ _⟩
 have HBW := hidp hBW
 have HB0 := hidp hb0
 obtain ⟨x0, x1, x2, x3, l0⟩ := hb0.cells
 clear hBW hb0 hq hw hl hv
 go_enter Tryz.func8, Tryz.ntmps8
 go_wp2_with fail
 refine (qCheck_any q _ (HQu.out _ HBW.out) (HWd.out _ HBW.out)).mono ?_
 rintro e w1 ⟨rfl, hk1⟩
 have hb1 := HB0.out.later hk1
 have hB1 := HBW.out.trans (hk1.mono HBW.out.size)
 have HB1 := hidp hb1
 have HBe1 := hidp hB1
 clear hW0 x0 x1 x2 x3 l0 hB1
 obtain ⟨x0, x1, x2, x3, l0⟩ := hb1.cells
 clear hb1 hk1
 obtain ⟨ck, hck⟩ : ∃ b, checkJ wdJ q = b := ⟨_, rfl⟩
 rw [hck]
 have HCk := hidp hck
 clear hck
 cases ck
 ·have HR : Hid (holdV q l vs = false ∧ holdE q vs = 500) := by show _ ∧ _; unfold holdV holdE; rw [HCk.out]; exact ⟨rfl, rfl⟩
  simp only [okE]
  go_wp2_with fail
  go_ret2
  exact ⟨by rw [HR.out.1, HR.out.2]; rfl, HBe1.out⟩
 simp only [okE]
 by_cases hn : n = q.nn
 rotate_left
 ·have hne : ((n : Int) != (q.nn : Int)) = true := by simp; omega
  have HR : Hid (holdV q l vs = false ∧ holdE q vs = 510) := by
   show _ ∧ _
   unfold holdV holdE
   rw [HCk.out, if_pos rfl, if_neg (by have := HN.out; have := HLen.out.1; omega), decide_eq_false (p := vs.length = q.names.length) (by have := HN.out; have := HLen.out.1; omega)]
   exact ⟨rfl, rfl⟩
  clear hn
  go_wp2_with fail
  go_ret2
  exact ⟨by rw [HR.out.1, HR.out.2]; rfl, HBe1.out⟩
 have hVs := check_vars HCk.out
 have HVs := hidp hVs
 have HEq : Hid (n = q.nn) := hn
 have hne : ((n : Int) != (q.nn : Int)) = false := by simp; omega
 have HE : Hid (holdE q vs = 0) := by
  show _ = _
  unfold holdE
  rw [HCk.out, if_pos rfl, if_pos (by have := HN.out; have := HLen.out.1; omega)]
 have HVV : Hid (holdV q l vs = holdsJ q l vs) := by
  show _ = _
  unfold holdV
  rw [HCk.out, decide_eq_true (p := vs.length = q.names.length) (by have := HN.out; have := HLen.out.1; omega)]; rfl
 have HVar : Hid (∀ y ∈ argsJ q, VarIn y n) := fun y hy hv => by have := HVs.out.2.1 y hy hv; have := HLen.out.1; have := HEq.out; omega
 clear hn hVs
 go_wp2_with fail
 go_loopw [26] (fun i wr => ∃ k : Nat, k ≤ q.an ∧ i = .int .i64 k ∧ QBox q w.heap.size wr ∧ Below w.heap.size w wr ∧ ∀ (j : Nat) a, j < k → q.atoms[j]? = some a → atomJ l vs a = true) (fun i _ => q.an - (intOf i).toNat)
 case atStart => exact ⟨0, by omega, rfl, HB1.out, HBe1.out, fun j s h => by omega⟩
 case round =>
  obtain ⟨k, hk, rfl, hst, hbe, hok⟩ := hrel
  clear x0 x1 x2 x3 l0
  have HST := hidp hst
  have HBe := hidp hbe
  have HOK := hidp hok
  obtain ⟨x0, x1, x2, x3, l0⟩ := hst.cells
  clear hst hok hbe
  by_cases hkn : k < q.an
  ·have hkn' : (k : Int) < q.an := by omega
   obtain ⟨b, off, a, cs, hA, hb, hs, hr, hc⟩ := Rows.get (HQu.out _ HBe.out).2.2.1 hkn
   obtain rfl := hr
   have c0 := hc 0 _ rfl
   have c1 := hc 1 _ rfl
   have c2 := hc 2 _ rfl
   have c3 := hc 3 _ rfl
   have c4 := hc 4 _ rfl
   have c5 := hc 5 _ rfl
   have c6 := hc 6 _ rfl
   have c7 := hc 7 _ rfl
   have c8 := hc 8 _ rfl
   rw [Nat.add_zero] at c0
   have lb := lt_of_cell c0
   have HX := hidp hs
   have hix := ix_Atoms (c := q.ac) hA hkn
   obtain ⟨W5, hW5⟩ : ∃ W5, wr.alloc (.cells #[.int .i64 a.kind, .bool a.s.var, .int .i64 a.s.n, .bool a.o.var, .int .i64 a.o.n, .bool a.v.var, .int .i64 a.v.n, .int .i64 a.term, .int .i64 a.known] 64) = W5 := ⟨_, rfl⟩
   have hs5 : QBox q w.heap.size W5 := hW5 ▸ HST.out.later ((Below.refl _ _).alloc (Nat.le_refl _) _)
   have hb5 : Below w.heap.size w W5 := hW5 ▸ HBe.out.alloc HBe.out.size _
   have HW5 := hidp hW5
   have HS5 := hidp hs5
   have HB5 := hidp hb5
   clear hs hA hc hW5 hs5 hb5
   go_wp2_with fail
   rw [HW5.out]
   refine (atom_any a FA fn fc l A n c vs _ (HFa.out _ HB5.out) (HV.out _ HB5.out) (HVar.out _ (args_atom (List.mem_of_getElem? HX.out) (by simp))) (HVar.out _ (args_atom (List.mem_of_getElem? HX.out) (by simp))) (HVar.out _ (args_atom (List.mem_of_getElem? HX.out) (by simp)))).mono ?_
   rintro e w6 ⟨rfl, hk6⟩
   have hs6 := HS5.out.later hk6
   have hb6 := HB5.out.trans (hk6.mono HB5.out.size)
   obtain ⟨p1, hp1⟩ : ∃ p, atomJ l vs a = p := ⟨_, rfl⟩
   rw [hp1]
   have HP1 := hidp hp1
   have HS6 := hidp hs6
   have HB6 := hidp hb6
   clear hp1 hs6 hb6 hk6 x0 x1 x2 x3 l0 c0 c1 c2 c3 c4 c5 c6 c7 c8 lb
   cases p1
   ·have HR : Hid (holdsJ q l vs = false) := by
     show _ = _
     unfold holdsJ
     rw [Bool.eq_false_iff]
     intro h
     simp only [Bool.and_eq_true, List.all_eq_true] at h
     have := h.1 a (List.mem_of_getElem? HX.out)
     rw [HP1.out] at this; cases this
    go_wp2_with fail
    go_ret2
    exact ⟨by rw [HVV.out, HR.out, HE.out]; rfl, HB6.out⟩
   ·go_wp2_with fail
    go_roundw
    case rel => exact ⟨k + 1, by omega, by go_num, HS6.out, HB6.out, fun j t hj ht => by
     rcases Nat.lt_or_ge j k with h | h
     ·exact HOK.out j t h ht
     ·obtain rfl : j = k := by omega
      rw [HX.out] at ht
      obtain rfl := Option.some.inj ht
      exact HP1.out⟩
    case measure => simp [intOf]; omega
  ·obtain rfl : k = q.an := by omega
   have HOK3 : Hid (q.atoms.all (atomJ l vs) = true) := List.all_eq_true.2 fun a ha => by
    obtain ⟨i, hi⟩ := List.mem_iff_getElem?.1 ha
    exact HOK.out i a (by have := (List.getElem?_eq_some_iff.1 hi).1; have := HLen.out.2.2.1; omega) hi
   have hkk : ¬ ((q.an : Int) < q.an) := by omega
   clear HOK
   go_wp2_with fail
   go_loopw [39] (fun i wr => ∃ k : Nat, k ≤ q.tn ∧ i = .int .i64 k ∧ QBox q w.heap.size wr ∧ Below w.heap.size w wr ∧ ∀ (j : Nat) a, j < k → q.tests[j]? = some a → testJ vs a = true) (fun i _ => q.tn - (intOf i).toNat)
   case atStart => exact ⟨0, by omega, rfl, HST.out, HBe.out, fun j s h => by omega⟩
   case round =>
    rename World => wb
    obtain ⟨k, hk, rfl, hst, hbe, hok⟩ := hrel
    clear x0 x1 x2 x3 l0
    have HST := hidp hst
    have HBe := hidp hbe
    have HOK := hidp hok
    obtain ⟨x0, x1, x2, x3, l0⟩ := hst.cells
    clear hst hok hbe
    by_cases hkn : k < q.tn
    ·have hkn' : (k : Int) < q.tn := by omega
     obtain ⟨b, off, t, cs, hA, hb, hs, hr, hc⟩ := Rows.get (HQu.out _ HBe.out).2.2.2 hkn
     obtain rfl := hr
     have c0 := hc 0 _ rfl
     have c1 := hc 1 _ rfl
     have c2 := hc 2 _ rfl
     have c3 := hc 3 _ rfl
     have c4 := hc 4 _ rfl
     rw [Nat.add_zero] at c0
     have lb := lt_of_cell c0
     have HX := hidp hs
     have hix := ix_Tests (c := q.tc) hA hkn
     obtain ⟨W5, hW5⟩ : ∃ W5, wb.alloc (.cells #[.int .i64 t.op, .bool t.a.var, .int .i64 t.a.n, .bool t.b.var, .int .i64 t.b.n] 67) = W5 := ⟨_, rfl⟩
     have hs5 : QBox q w.heap.size W5 := hW5 ▸ HST.out.later ((Below.refl _ _).alloc (Nat.le_refl _) _)
     have hb5 : Below w.heap.size w W5 := hW5 ▸ HBe.out.alloc HBe.out.size _
     have HW5 := hidp hW5
     have HS5 := hidp hs5
     have HB5 := hidp hb5
     clear hs hA hc hW5 hs5 hb5
     go_wp2_with fail
     rw [HW5.out]
     refine (test_any t A n c vs _ (HV.out _ HB5.out) (HVar.out _ (args_test (List.mem_of_getElem? HX.out) (by simp))) (HVar.out _ (args_test (List.mem_of_getElem? HX.out) (by simp)))).mono ?_
     rintro e w6 ⟨rfl, hk6⟩
     have hs6 := HS5.out.later hk6
     have hb6 := HB5.out.trans (hk6.mono HB5.out.size)
     obtain ⟨p1, hp1⟩ : ∃ p, testJ vs t = p := ⟨_, rfl⟩
     rw [hp1]
     have HP1 := hidp hp1
     have HS6 := hidp hs6
     have HB6 := hidp hb6
     clear hp1 hs6 hb6 hk6 x0 x1 x2 x3 l0 c0 c1 c2 c3 c4 lb
     cases p1
     ·have HR : Hid (holdsJ q l vs = false) := by
       show _ = _
       unfold holdsJ
       rw [Bool.eq_false_iff]
       intro h
       simp only [Bool.and_eq_true, List.all_eq_true] at h
       have := h.2 t (List.mem_of_getElem? HX.out)
       rw [HP1.out] at this; cases this
      go_wp2_with fail
      go_ret2
      exact ⟨by rw [HVV.out, HR.out, HE.out]; rfl, HB6.out⟩
     ·go_wp2_with fail
      go_roundw
      case rel => exact ⟨k + 1, by omega, by go_num, HS6.out, HB6.out, fun j t hj ht => by
       rcases Nat.lt_or_ge j k with h | h
       ·exact HOK.out j t h ht
       ·obtain rfl : j = k := by omega
        rw [HX.out] at ht
        obtain rfl := Option.some.inj ht
        exact HP1.out⟩
      case measure => simp [intOf]; omega
    ·obtain rfl : k = q.tn := by omega
     have HR : Hid (holdsJ q l vs = true) := by
      show _ = _
      unfold holdsJ
      rw [HOK3.out, Bool.true_and]
      exact List.all_eq_true.2 fun a ha => by
       obtain ⟨i, hi⟩ := List.mem_iff_getElem?.1 ha
       exact HOK.out i a (by have := (List.getElem?_eq_some_iff.1 hi).1; have := HLen.out.2.2.2; omega) hi
     have hkk : ¬ ((q.tn : Int) < q.tn) := by omega
     clear HOK
     go_wp2_with fail
     go_ret2
     exact ⟨by rw [HVV.out, HR.out, HE.out]; rfl, HBe.out⟩
end
section
open Go.RowKit
section
variable {P : Program} {ops : Array Oper} {n : Nat} {wk : Bool} {weak frag : Nat → Bool}
def mustB (ops : Array Oper) : Nat → Nat → Nat → Bool
  | 0, _, _ => false
  | f + 1, y, k => (decide (k < y) && (match ops[k]?, ops[y]? with | some ok, some oy => !ok.apart ops oy | _, _ => false)) ||
    (List.range y).any fun k2 => (match ops[k2]?, ops[y]? with | some ok, some oy => !ok.apart ops oy | _, _ => false) && mustB ops f k2 k
theorem must_listed {ops : Array Oper} {listed : Array Bool} (hB : ∀ j oj, ops[j]? = some oj → (∀ e ∈ oj.after, Region.binds .any e = true → e.on < j) ∧ ∀ i oi, i < j → ops[i]? = some oi → (∃ e ∈ oj.after, Region.binds .any e = true ∧ e.on = i) ∨ oi.apart ops oj = true)
    (hcl : ∀ (j : Nat) (oj : Oper), ops[j]? = some oj → listed.getD j false = true → ∀ e ∈ oj.after, Region.binds .any e = true → listed.getD e.on false = true) :
    ∀ (f y k : Nat), mustB ops f y k = true → listed.getD y false = true → listed.getD k false = true := by
  have one : ∀ y k, k < y → (match ops[k]?, ops[y]? with | some ok, some oy => !ok.apart ops oy | _, _ => false) = true → listed.getD y false = true → listed.getD k false = true := by
    intro y k hky h hy
    cases hk : ops[k]? with
    | none => simp [hk] at h
    | some ok =>
      cases hyy : ops[y]? with
      | none => simp [hk, hyy] at h
      | some oy =>
        simp only [hk, hyy, Bool.not_eq_true'] at h
        rcases (hB y oy hyy).2 k ok hky hk with ⟨e, he, hb, hon⟩ | h2
        · have := hcl y oy hyy hy e he hb
          rwa [hon] at this
        · rw [h2] at h; cases h
  intro f
  induction f with
  | zero => intro y k h; simp [mustB] at h
  | succ f ih =>
    intro y k h hy
    simp only [mustB, Bool.or_eq_true, Bool.and_eq_true, decide_eq_true_eq, List.any_eq_true, List.mem_range] at h
    rcases h with ⟨h1, h2⟩ | ⟨k2, h1, h2, h3⟩
    · exact one y k h1 h2 hy
    · exact ih k2 k h3 (one y k2 h1 h2 hy)
def killJ (ops : Array Oper) (weak frag : Nat → Bool) : Bool :=
 let tied := fun (x y : Nat) => match ops[x]?, ops[y]? with
  | some ox, some oy => !ox.apart ops oy
  | _, _ => false
 let waits := fun (x y : Nat) => match ops[x]? with
  | some ox => ox.after.any fun e => Region.binds .any e && e.on == y
  | none => false
 (List.range ops.size).all fun i => !weak i || (List.range ops.size).all fun j => !frag j ||
  ((!decide (j < i) || (List.range ops.size).all fun k => !decide (j < k) || !tied j k || k == i || mustB ops 2 i k) && (!decide (i < j) || tied i j || waits j i))
theorem killJ_spec (h : killJ ops weak frag = true) {i j : Nat} {oi oj : Oper} (hi : ops[i]? = some oi) (hj : ops[j]? = some oj) (hw : weak i = true) (hf : frag j = true) :
  (j < i → ∀ k ok, ops[k]? = some ok → j < k → oj.apart ops ok = false → k = i ∨ mustB ops 2 i k = true) ∧ (i < j → oi.apart ops oj = false ∨ ∃ e ∈ oj.after, Region.binds .any e = true ∧ e.on = i) := by
 simp only [killJ, List.all_eq_true, List.mem_range] at h
 have h1 := h i (Array.getElem?_eq_some_iff.1 hi).1
 rw [hw] at h1
 simp only [Bool.not_true, Bool.false_or, List.all_eq_true, List.mem_range] at h1
 have h2 := h1 j (Array.getElem?_eq_some_iff.1 hj).1
 rw [hf] at h2
 simp only [Bool.not_true, Bool.false_or, Bool.and_eq_true, hi, hj] at h2
 refine ⟨fun hji k ok hk hjk hap => ?_, fun hij => ?_⟩
 ·have h3 := h2.1
  simp only [hji, decide_true, Bool.not_true, Bool.false_or, List.all_eq_true, List.mem_range] at h3
  have h4 := h3 k (Array.getElem?_eq_some_iff.1 hk).1
  simp only [hk, hjk, hap, decide_true, Bool.not_true, Bool.false_or, Bool.not_false, Bool.or_eq_true, beq_iff_eq] at h4
  exact h4
 ·have h3 := h2.2
  simp only [hij, decide_true, Bool.not_true, Bool.false_or, Bool.or_eq_true, Bool.not_eq_true'] at h3
  rcases h3 with h3 | h3
  ·exact .inl h3
  ·refine .inr ?_
   obtain ⟨e, he, h4⟩ := Array.any_eq_true'.1 h3
   simp only [Bool.and_eq_true, beq_iff_eq] at h4
   exact ⟨e, he, h4.1, h4.2⟩
end
end
section
open Go.RowKit
section
variable {P : Program} {ops : Array Oper} {n : Nat} {wk : Bool} {weak frag : Nat → Bool}
def strongB (ops : Array Oper) (weak strong : Nat → Bool) : Bool := (List.range ops.size).all fun k => !strong k || (List.range ops.size).all fun i => !weak i || i == k || behind ops 13 k i
theorem strongB_spec {strong : Nat → Bool} (h : strongB ops weak strong = true) {k p : Nat} (hs : strong k = true) (hp : weak p = true) (hk : k < ops.size) (hpl : p < ops.size) : p = k ∨ behind ops 13 k p = true := by
 simp only [strongB, List.all_eq_true, List.mem_range, Bool.or_eq_true, Bool.not_eq_true', beq_iff_eq] at h
 rcases h k hk with h1 | h1
 ·rw [hs] at h1; cases h1
 ·rcases h1 p hpl with (h2 | h2) | h2
  ·rw [hp] at h2; cases h2
  ·exact .inl h2
  ·exact .inr h2
variable {C Cs : World → Prop} {Q : Act → World → Prop} {a0 : Act} {done : List (Oper × VT)} {later : List Oper} {o : Oper} {strong : Nat → Bool}
end
end
section
open Go.RowKit Go.Shelf Go.Sort
inductive Clo where
 | atom (Ba Bl : Nat)
 | test (Bt : Nat)
instance : Inhabited Clo := ⟨.test 0⟩
def cloV : Clo → Value
 | .atom Ba Bl => .func (.func 105) #[] #[.pointer (some ⟨Ba, 0, none⟩), .pointer (some ⟨Bl, 0, none⟩)]
 | .test Bt => .func (.func 106) #[] #[.pointer (some ⟨Bt, 0, none⟩)]
def cloEnc (x : Clo) : List Value := [cloV x]
theorem cloEnc_len (x : Clo) : (cloEnc x).length = 1 := rfl
theorem cloEnc_one (x : Clo) : ∀ u ∈ cloEnc x, u.oneCell' = true := by
 intro u hu; simp [cloEnc] at hu; subst hu; cases x <;> rfl
def CloFor (FA : Option Addr) (fn fc : Nat) (W : World) : Cnd → Clo → Prop
 | .atom a, .atom Ba Bl => W.heap[Ba]? = some (.cells #[.int .i64 a.kind, .bool a.s.var, .int .i64 a.s.n, .bool a.o.var, .int .i64 a.o.n, .bool a.v.var, .int .i64 a.v.n, .int .i64 a.term, .int .i64 a.known] 64 (0, 0)) ∧ W.heap[Bl]? = some (.cells #[.slice FA fn fc] 28 (0, 0))
 | .test t, .test Bt => W.heap[Bt]? = some (.cells #[.int .i64 t.op, .bool t.a.var, .int .i64 t.a.n, .bool t.b.var, .int .i64 t.b.n] 67 (0, 0))
 | _, _ => False
theorem CloFor.keep {FA : Option Addr} {fn fc : Nat} {W W' : World} {c : Cnd} {x : Clo} (h : CloFor FA fn fc W c x) (hb : ∀ b, b < W.heap.size → (∀ cs, W.heap[b]? ≠ some (.cells cs 135 (0, 0))) → (∀ cs, W.heap[b]? ≠ some (.cells cs 138 (0, 0))) → W'.heap[b]? = W.heap[b]?) : CloFor FA fn fc W' c x := by
 have key : ∀ (b : Nat) (cs : Array Value) (t : TypeId), W.heap[b]? = some (.cells cs t (0, 0)) → t ≠ 135 → t ≠ 138 → W'.heap[b]? = some (.cells cs t (0, 0)) := fun b cs t hh h1 h2 =>
  (hb b (lt_of_heap hh) (fun cs' he => by rw [hh] at he; injection he with he; injection he with _ he; exact h1 he) (fun cs' he => by rw [hh] at he; injection he with he; injection he with _ he; exact h2 he)).trans hh
 cases c <;> cases x <;> simp only [CloFor] at h ⊢
 ·exact ⟨key _ _ _ h.1 (by decide) (by decide), key _ _ _ h.2 (by decide) (by decide)⟩
 ·exact key _ _ _ h (by decide) (by decide)
set_option maxRecDepth 100000 in
set_option maxHeartbeats 2000000 in
theorem clo_any {FA : Option Addr} {fn fc : Nat} {l : List Fc} {A : Option Addr} {n c : Nat} {vs : List Int} {cd : Cnd} {x : Clo} (w : World) (hc : CloFor FA fn fc w cd x) (hl : fSl w w.heap.size FA fn fc l) (hv : iSl w w.heap.size A n c vs)
    (hb : ∀ a, (∃ y, cd = .atom y ∧ (a = y.s ∨ a = y.o ∨ a = y.v)) ∨ (∃ y, cd = .test y ∧ (a = y.a ∨ a = y.b)) → VarIn a n) :
    (∀ Ba Bl, x = .atom Ba Bl → Calls Tryz.prog 105 #[.slice A n c, .pointer (some ⟨Ba, 0, none⟩), .pointer (some ⟨Bl, 0, none⟩)] w fun e w' => e = .returned (.bool (cndJ l vs cd)) ∧ Below w.heap.size w w') ∧
    (∀ Bt, x = .test Bt → Calls Tryz.prog 106 #[.slice A n c, .pointer (some ⟨Bt, 0, none⟩)] w fun e w' => e = .returned (.bool (cndJ l vs cd)) ∧ Below w.heap.size w w') := by
  constructor
  · rintro Ba Bl rfl
    cases cd with
    | test t => exact hc.elim
    | atom a =>
      obtain ⟨h1, h2⟩ := hc
      have x0 := cell_of_heap (o := 0) h1
      have x1 := cell_of_heap (o := 1) h1
      have x2 := cell_of_heap (o := 2) h1
      have x3 := cell_of_heap (o := 3) h1
      have x4 := cell_of_heap (o := 4) h1
      have x5 := cell_of_heap (o := 5) h1
      have x6 := cell_of_heap (o := 6) h1
      have x7 := cell_of_heap (o := 7) h1
      have x8 := cell_of_heap (o := 8) h1
      have y0 := cell_of_heap (o := 0) h2
      simp only [List.getElem?_toArray, List.getElem?_cons_zero, List.getElem?_cons_succ] at x0 x1 x2 x3 x4 x5 x6 x7 x8 y0
      have l1 := lt_of_heap h1
      have l2 := lt_of_heap h2
      have HB1 := hidp (hb a.s (.inl ⟨a, rfl, .inl rfl⟩))
      have HB2 := hidp (hb a.o (.inl ⟨a, rfl, .inr (.inl rfl)⟩))
      have HB3 := hidp (hb a.v (.inl ⟨a, rfl, .inr (.inr rfl)⟩))
      have HFa := hidp hl
      have HV := hidp hv
      clear h1 h2 hb hl hv
      go_enter Tryz.func105, Tryz.ntmps105
      go_wp2_with fail
      refine (atom_any a FA fn fc l A n c vs w HFa.out HV.out HB1.out HB2.out HB3.out).mono ?_
      rintro e w1 ⟨rfl, hk⟩
      go_wp2_with fail
      go_ret
      exact ⟨rfl, hk⟩
  · rintro Bt rfl
    cases cd with
    | atom a => exact hc.elim
    | test t =>
      have h1 : w.heap[Bt]? = some (.cells #[.int .i64 t.op, .bool t.a.var, .int .i64 t.a.n, .bool t.b.var, .int .i64 t.b.n] 67 (0, 0)) := hc
      have x0 := cell_of_heap (o := 0) h1
      have x1 := cell_of_heap (o := 1) h1
      have x2 := cell_of_heap (o := 2) h1
      have x3 := cell_of_heap (o := 3) h1
      have x4 := cell_of_heap (o := 4) h1
      simp only [List.getElem?_toArray, List.getElem?_cons_zero, List.getElem?_cons_succ] at x0 x1 x2 x3 x4
      have l1 := lt_of_heap h1
      have HB1 := hidp (hb t.a (.inr ⟨t, rfl, .inl rfl⟩))
      have HB2 := hidp (hb t.b (.inr ⟨t, rfl, .inr rfl⟩))
      have HV := hidp hv
      clear h1 hb hl hv hc
      go_enter Tryz.func106, Tryz.ntmps106
      go_wp2_with fail
      refine (test_any t A n c vs w HV.out HB1.out HB2.out).mono ?_
      rintro e w1 ⟨rfl, hk⟩
      go_wp2_with fail
      go_ret
      exact ⟨rfl, hk⟩
structure LvSt (FA : Option Addr) (fn fc N base G cap : Nat) (sl : Nat → Value) (dn : Nat → List Cnd) (xs : Nat → List Clo) (W : World) : Prop where
 big : N + 1 ≤ cap
 low : base ≤ G
 row : ∃ cs, W.heap[G]? = some (.cells cs 138 (0, 0)) ∧ ∀ i, i ≤ N → cs[i]? = some (sl i)
 own : ∀ i, i ≤ N → W.ownsRow base 135 1 (sl i) (xs i).length ((xs i).flatMap cloEnc)
 clo : ∀ i, i ≤ N → (xs i).length = (dn i).length ∧ ∀ (j : Nat) x c, (xs i)[j]? = some x → (dn i)[j]? = some c → CloFor FA fn fc W c x
 apart : ∀ i, i ≤ N → ∀ g, (sl i).ownBlock = some g → g ≠ G ∧ ∀ j, j ≤ N → j ≠ i → (sl j).ownBlock ≠ some g
 slices : ∀ i, i ≤ N → ∃ A c, sl i = .slice A (xs i).length c
theorem LvSt.later {FA : Option Addr} {fn fc N base G cap : Nat} {sl : Nat → Value} {dn : Nat → List Cnd} {xs : Nat → List Clo} {W W' : World} (h : LvSt FA fn fc N base G cap sl dn xs W) (hb : Below W.heap.size W W') : LvSt FA fn fc N base G cap sl dn xs W' := by
 obtain ⟨cs, h1, h2⟩ := h.row
 refine ⟨h.big, h.low, ⟨cs, (hb.block _ (lt_of_heap h1)).trans h1, h2⟩, fun i hi => own_keepB (h.own i hi) fun g hg => hb.block g ((h.own i hi).lt g hg).2, fun i hi => ⟨(h.clo i hi).1, fun j x c hx hc => ((h.clo i hi).2 j x c hx hc).keep fun b hb' _ _ => hb.block b hb'⟩, h.apart, h.slices⟩
structure AppSt (FA : Option Addr) (fn fc N base G : Nat) (sl : Nat → Value) (dn : Nat → List Cnd) (xs : Nat → List Clo) (m : Nat) (cd : Cnd) (x : Clo) (v' : Value) (W : World) : Prop where
 row : ∃ cs, W.heap[G]? = some (.cells cs 138 (0, 0)) ∧ ∀ i, i ≤ N → cs[i]? = some (sl i)
 own : ∀ i, i ≤ N → i ≠ m → W.ownsRow base 135 1 (sl i) (xs i).length ((xs i).flatMap cloEnc)
 own' : W.ownsRow base 135 1 v' ((xs m).length + 1) ((xs m ++ [x]).flatMap cloEnc)
 clo : ∀ i, i ≤ N → (xs i).length = (dn i).length ∧ ∀ (j : Nat) x c, (xs i)[j]? = some x → (dn i)[j]? = some c → CloFor FA fn fc W c x
 clo' : CloFor FA fn fc W cd x
 apart' : ∀ g, v'.ownBlock = some g → g ≠ G ∧ ∀ j, j ≤ N → j ≠ m → (sl j).ownBlock ≠ some g
 slice' : ∃ A c, v' = .slice A ((xs m).length + 1) c
theorem fnInfo : (Tryz.prog.info? 135).map (fun i => (i.zero, i.size, i.bytes)) = some (some .nilFunc, 1, 8) := by kernel_rfl
theorem LvSt.app {FA : Option Addr} {fn fc N base G cap m : Nat} {sl : Nat → Value} {dn : Nat → List Cnd} {xs : Nat → List Clo} {cd : Cnd} {x : Clo} {W w8 : World} (h : LvSt FA fn fc N base G cap sl dn xs W) (hb : Below W.heap.size W w8) (hm : m ≤ N) (hlen : (xs m).length ≤ 100000) (hbase : base ≤ W.heap.size)
  {A : Option Addr} {c : Nat} (hx : Rows 1 (Rep.flat cloEnc) w8 w8.heap.size A 1 c [x]) (hc : CloFor FA fn fc w8 cd x) :
  ∃ v' w', (Builtin.append_ #[138, 138] 138 #[sl m, .slice A 1 c]).run Tryz.prog w8 = .ok v' w' ∧ Below base w8 w' ∧ AppSt FA fn fc N base G sl dn xs m cd x v' w' := by
 obtain ⟨i0, hi, hz, hs, hbb⟩ := info_parts fnInfo
 have h8 := h.later hb
 obtain ⟨cs, g1, g2⟩ := h8.row
 obtain ⟨v', w', hrun, hown', hg, hat⟩ := run_append_rows (P := Tryz.prog) (ty := 138) (enc := cloEnc) Tryz.underlying138 hi hz hs hbb rfl cloEnc_len (by decide) cloEnc_one (h8.own m hm) hx (by omega) (by omega) (by have := hb.size; omega)
 have hbl : ∀ g, (sl m).ownBlock = some g → base ≤ g := fun g hg => ((h8.own m hm).lt g hg).1
 have hkeep : ∀ b, b < w8.heap.size → (sl m).ownBlock ≠ some b → w'.heap[b]? = w8.heap[b]? := fun b hb' hne => hg.block b hb' (fun e => hne e.symm)
 have hty : ∀ b, (sl m).ownBlock = some b → ∃ cs, w8.heap[b]? = some (.cells cs 135 (0, 0)) := fun b hb' => by
  rcases (h8.own m hm).2 with ⟨e1, _⟩ | ⟨g, cap', cs', hv, hg', hh, _⟩
  ·rw [e1] at hb'; cases hb'
  ·rw [hv] at hb'
   injection hb' with hb'
   subst hb'
   exact ⟨cs', hh⟩
 have hclo : ∀ {c : Cnd} {y : Clo}, CloFor FA fn fc w8 c y → CloFor FA fn fc w' c y := fun hcy => hcy.keep fun b hb' hn1 _ => hkeep b hb' fun e => by
  obtain ⟨cs', hh⟩ := hty b e
  exact hn1 cs' hh
 refine ⟨v', w', hrun, (Below.refl _ _).grown hg (by have := hb.size; omega) (fun g e => hbl g e), ⟨⟨cs, (hkeep G (lt_of_heap g1) (fun e => (h8.apart m hm G e).1 rfl)).trans g1, g2⟩, fun i hi hne => own_keepB (h8.own i hi) fun g hg' => hkeep g ((h8.own i hi).lt g hg').2 (fun e => (h8.apart m hm g e).2 i hi hne hg'), hown', fun i hi => ⟨(h8.clo i hi).1, fun j y c hy hcc => hclo ((h8.clo i hi).2 j y c hy hcc)⟩, hclo hc, fun g hg' => ?_, ?_⟩⟩
 ·rcases hat with h2 | h2
  ·rw [h2] at hg'; exact h8.apart m hm g hg'
  ·rw [h2] at hg'
   injection hg' with hg'
   subst hg'
   refine ⟨fun e => ?_, fun j hj hne e => ?_⟩
   ·have := lt_of_heap g1; omega
   ·have := ((h8.own j hj).lt _ e).2; omega
 ·obtain ⟨A', c', rfl, _⟩ := own_rows cloEnc_len (by decide) hown'
  exact ⟨A', c', rfl⟩
theorem heap_setR {w : World} {b : Nat} {cs : Array Value} {t : TypeId} {fr : Nat × Nat} (h : w.heap[b]? = some (.cells cs t fr)) (o : Nat) (u : Value) : (w.setCell ⟨b, o, none⟩ u).heap[b]? = some (.cells (cs.setIfInBounds o u) t fr) := by
 simp [World.setCell, Array.getElem?_modify, h]
def upd {α : Type} (f : Nat → α) (m : Nat) (a : α) : Nat → α := fun i => if i = m then a else f i
theorem upd_same {α : Type} (f : Nat → α) (m : Nat) (a : α) : upd f m a m = a := if_pos rfl
theorem upd_ne {α : Type} (f : Nat → α) {m i : Nat} (a : α) (h : i ≠ m) : upd f m a i = f i := if_neg h
theorem AppSt.store {FA : Option Addr} {fn fc N base G cap m : Nat} {sl : Nat → Value} {dn : Nat → List Cnd} {xs : Nat → List Clo} {cd : Cnd} {x : Clo} {v' : Value} {W : World} (h : AppSt FA fn fc N base G sl dn xs m cd x v' W) (hm : m ≤ N) (hcap : N + 1 ≤ cap) (hG : base ≤ G)
  (hap : ∀ i, i ≤ N → ∀ g, (sl i).ownBlock = some g → g ≠ G ∧ ∀ j, j ≤ N → j ≠ i → (sl j).ownBlock ≠ some g) (hsl : ∀ i, i ≤ N → ∃ A c, sl i = .slice A (xs i).length c) :
  LvSt FA fn fc N base G cap (upd sl m v') (upd dn m (dn m ++ [cd])) (upd xs m (xs m ++ [x])) (W.setCell ⟨G, m, none⟩ v') := by
 obtain ⟨cs, h1, h2⟩ := h.row
 have hGW := lt_of_heap h1
 have hnew : (W.setCell ⟨G, m, none⟩ v').heap[G]? = some (.cells (cs.setIfInBounds m v') 138 (0, 0)) := heap_setR h1 m v'
 have hother : ∀ b, b ≠ G → (W.setCell ⟨G, m, none⟩ v').heap[b]? = W.heap[b]? := fun b hne => heap_set_ne rfl hne m v'
 have hclo : ∀ {c : Cnd} {y : Clo}, CloFor FA fn fc W c y → CloFor FA fn fc (W.setCell ⟨G, m, none⟩ v') c y := fun hcy => hcy.keep fun b _ _ hn2 => hother b fun e => by subst e; exact hn2 cs h1
 refine ⟨hcap, hG, ⟨_, hnew, fun i hi => ?_⟩, fun i hi => ?_, fun i hi => ?_, fun i hi g hg => ?_, fun i hi => ?_⟩
 ·by_cases him : i = m
  ·subst him
   rw [upd_same]
   have := (Array.getElem?_eq_some_iff.1 (h2 i hi)).1
   simp [this]
  ·rw [upd_ne _ _ him, Array.getElem?_setIfInBounds_ne (Ne.symm him)]
   exact h2 i hi
 ·by_cases him : i = m
  ·subst him
   rw [upd_same, upd_same]
   have := own_keepB h.own' fun g hg => hother g (h.apart' g hg).1
   simpa using this
  ·rw [upd_ne _ _ him, upd_ne _ _ him]
   exact own_keepB (h.own i hi him) fun g hg => hother g (hap i hi g hg).1
 ·by_cases him : i = m
  ·subst him
   rw [upd_same, upd_same]
   refine ⟨by simp [(h.clo i hi).1], fun j y c hy hc => ?_⟩
   have hl := (h.clo i hi).1
   rcases Nat.lt_or_ge j (xs i).length with hj | hj
   ·rw [List.getElem?_append_left hj] at hy
    rw [List.getElem?_append_left (by omega)] at hc
    exact hclo ((h.clo i hi).2 j y c hy hc)
   ·rw [List.getElem?_append_right hj] at hy
    rw [List.getElem?_append_right (by omega), ← hl] at hc
    rcases hjj : j - (xs i).length with _ | z
    ·rw [hjj] at hy hc
     obtain rfl := Option.some.inj hy
     obtain rfl := Option.some.inj hc
     exact hclo h.clo'
    ·rw [hjj] at hy; simp at hy
  ·rw [upd_ne _ _ him, upd_ne _ _ him]
   exact ⟨(h.clo i hi).1, fun j y c hy hc => hclo ((h.clo i hi).2 j y c hy hc)⟩
 ·by_cases him : i = m
  ·subst him
   rw [upd_same] at hg
   obtain ⟨h3, h4⟩ := h.apart' g hg
   exact ⟨h3, fun j hj hne => by rw [upd_ne _ _ hne]; exact h4 j hj hne⟩
  ·rw [upd_ne _ _ him] at hg
   obtain ⟨h3, h4⟩ := hap i hi g hg
   refine ⟨h3, fun j hj hne => ?_⟩
   by_cases hjm : j = m
   ·subst hjm
    rw [upd_same]
    intro e
    exact (h.apart' g e).2 i hi him hg
   ·rw [upd_ne _ _ hjm]; exact h4 j hj hne
 ·by_cases him : i = m
  ·subst him
   rw [upd_same, upd_same]
   obtain ⟨A, c, e⟩ := h.slice'
   exact ⟨A, c, by rw [e]; simp⟩
  ·rw [upd_ne _ _ him, upd_ne _ _ him]; exact hsl i hi
end
end Go.Proofs.YtbegdcjofnfkiaaGreatDoor
