/- Several texts in one: K4 K5 K6 K7 K8. -/
import Derived.Test.YtbegdcjofnfkiaaGreatDoorK3
import Derived.Test.YtbegdcjofnfkiaaGreatDoorJ9
import Derived.Test.YtbegdcjofnfkiaaGreatDoorM5
import Derived.Test.YtbegdcjofnfkiaaGreatDoorJ17
import Derived.Test.YtbegdcjofnfkiaaGreatDoorJ19
import Derived.Test.YtbegdcjofnfkiaaGreatDoorJ21
import Derived.Test.YtbegdcjofnfkiaaGreatDoorJ22
import Derived.Test.YtbegdcjofnfkiaaGreatDoorK2
import Derived.Test.YtbegdcjofnfkiaaGreatDoorRelQS
import Derived.Test.YtbegdcjofnfkiaaGreatDoorJN
import Derived.Test.YtbegdcjofnfkiaaGreatDoorJ26
import Derived.Test.YtbegdcjofnfkiaaGreatDoorJ20
section
/- The reference's value, fulfil, Holds (printed by tools/gen123.py). -/
namespace Go.Proofs.YtbegdcjofnfkiaaGreatDoor
open Go.RowKit Go.Shelf Go.Sort
set_option maxHeartbeats 1000000 in
theorem r51value_any (a : Ar) (A : Option Addr) (n c : Nat) (vs : List Int) (w : World) (hv : iSl w w.heap.size A n c vs) (ha : VarIn a n) :
    Calls Tryz.prog 71 #[.agg #[.bool a.var, .int .i64 a.n], .slice A n c] w fun e w' => e = .returned (.int .i64 (valJ a vs)) ∧ Below w.heap.size w w' := by
  obtain ⟨var, m⟩ := a
  have hnc := hv.2.1
  have hcc := hv.2.2.1
  cases var
  · go_enter Tryz.func71, Tryz.ntmps71
    go_wp2_with fail
    go_ret
    exact ⟨rfl, (Below.refl _ _).alloc (Nat.le_refl _) _⟩
  · obtain ⟨h0, h1⟩ := ha rfl
    obtain ⟨k, rfl⟩ : ∃ k : Nat, m = k := ⟨m.toNat, by simp only at h0; omega⟩
    have hk : k < n := by simp only at h1; omega
    obtain ⟨b, off, x, rfl, hb, hx, c0⟩ := iSl.get hv hk
    have HX : Hid (valJ ⟨true, k⟩ vs = x) := by
      show _ = _
      simp [valJ, List.getD_eq_getElem?_getD, hx]
    have hk' : (k : Int) < n := by omega
    clear hv ha hx h0 h1
    dsimp only
    go_enter Tryz.func71, Tryz.ntmps71
    go_wp2_with fail
    go_ret
    exact ⟨by rw [HX.out]; rfl, (Below.refl _ _).alloc (Nat.le_refl _) _⟩
theorem check_teOk {wd : ByteArray → Int} {q : Qu} (h : checkJ wd q = true) : ∀ t ∈ q.tests, -2 ≤ t.op ∧ t.op ≤ 1 := (check_vars h).2.2
set_option maxRecDepth 100000 in
set_option maxHeartbeats 8000000 in
theorem r51fulfil_any (q : Qu) (FA : Option Addr) (fn fc : Nat) (l : List Fc) (A : Option Addr) (n c : Nat) (vs : List Int) (w : World) (hq : QuIn q w w.heap.size) (hl : fSl w w.heap.size FA fn fc l) (hv : iSl w w.heap.size A n c vs) (hvar : ∀ y ∈ argsJ q, VarIn y n) (hte : ∀ t ∈ q.tests, -2 ≤ t.op ∧ t.op ≤ 1) :
    Calls Tryz.prog 28 #[.agg #[.slice q.nA q.nn q.nc, .slice q.sA q.sn q.sc, .slice q.aA q.an q.ac, .slice q.tA q.tn q.tc], .slice FA fn fc, .slice A n c] w fun e w' => e = .returned (.bool (holdsJ q l vs)) ∧ Below w.heap.size w w' := by
  have HQu : Hid (∀ W, Below w.heap.size w W → QuIn q W W.heap.size) := fun W hb => hq.keep hb.size hb.block
  have HFa : Hid (∀ W, Below w.heap.size w W → fSl W W.heap.size FA fn fc l) := fun W h => hl.keep (Rep.flat_stable _) h.size h.block
  have HV : Hid (∀ W, Below w.heap.size w W → iSl W W.heap.size A n c vs) := fun W h => hv.keep (Rep.flat_stable _) h.size h.block
  have HLen : Hid (q.nn = q.names.length ∧ q.sn = q.shows.length ∧ q.an = q.atoms.length ∧ q.tn = q.tests.length) := ⟨hq.1.1, hq.2.1.1, hq.2.2.1.1, hq.2.2.2.1⟩
  have HCV : Hid (∀ (y : Ar) W, VarIn y n → Below w.heap.size w W → Calls Tryz.prog 71 #[.agg #[.bool y.var, .int .i64 y.n], .slice A n c] W fun e w' => e = .returned (.int .i64 (valJ y vs)) ∧ Below W.heap.size W w') := fun y W hy h => r51value_any y A n c vs W (HV.out W h) hy
  have HVar := hidp hvar
  have HTe := hidp hte
  have haq := hq.2.2.1.2.1
  have hac := hq.2.2.1.2.2.1
  have htq := hq.2.2.2.2.1
  have htc := hq.2.2.2.2.2.1
  obtain ⟨W0, hW0⟩ : ∃ W0, w.alloc (.cells #[.slice q.nA q.nn q.nc, .slice q.sA q.sn q.sc, .slice q.aA q.an q.ac, .slice q.tA q.tn q.tc] 27) = W0 := ⟨_, rfl⟩
  have hBW : Below w.heap.size w W0 := hW0 ▸ (Below.refl _ w).alloc (Nat.le_refl _) _
  have hb0 : QBox q w.heap.size W0 := ⟨hW0 ▸ World.alloc_heap_new _ _⟩
  have HBW := hidp hBW
  have HB0 := hidp hb0
  have HW0 := hidp hW0
  obtain ⟨x0, x1, x2, x3, l0⟩ := hb0.cells
  clear hBW hb0 hq hl hv hvar hte hW0
  go_enter Tryz.func28, Tryz.ntmps28
  go_wp2_with fail
  rw [HW0.out]
  clear x0 x1 x2 x3 l0
  go_loopw [7] (fun i wr => ∃ k : Nat, k ≤ q.an ∧ i = .int .i64 k ∧ QBox q w.heap.size wr ∧ Below w.heap.size w wr ∧ ∀ (j : Nat) a, j < k → q.atoms[j]? = some a → atomJ l vs a = true) (fun i _ => q.an - (intOf i).toNat)
  case atStart => exact ⟨0, by omega, rfl, HB0.out, HBW.out, fun j s h => by omega⟩
  case round =>
  obtain ⟨k, hk, rfl, hst, hbe, hok⟩ := hrel
  have HST := hidp hst
  have HBe := hidp hbe
  have HOK := hidp hok
  obtain ⟨x0, x1, x2, x3, l0⟩ := hst.cells
  clear hst hok hbe
  by_cases hkn : k < q.an
  · have hkn' : (k : Int) < q.an := by omega
    obtain ⟨b, off, a, hA, _, hs, c0, c1, c2, c3, c4, c5, c6, c7, c8⟩ := am_getK (HQu.out _ HBe.out).2.2.1 hkn
    have lb := lt_of_cell c0
    have HX := hidp hs
    have hix := ix_Atoms (c := q.ac) hA hkn
    obtain ⟨vS, hvS⟩ : ∃ v, valJ a.s vs = v := ⟨_, rfl⟩
    obtain ⟨vO, hvO⟩ : ∃ v, valJ a.o vs = v := ⟨_, rfl⟩
    obtain ⟨vV, hvV⟩ : ∃ v, valJ a.v vs = v := ⟨_, rfl⟩
    obtain ⟨at1, hat1⟩ : ∃ z, atF l ⟨a.kind, vS, vO⟩ a.term a.known = z := ⟨_, rfl⟩
    have HAT := hidp hat1
    have HT : Hid (atomJ l vs a = decide (at1 = some vV)) := by show _ = _; unfold atomJ; rw [hvS, hvO, hvV, hat1]
    have HCS : Hid (∀ W, Below w.heap.size w W → Calls Tryz.prog 71 #[.agg #[.bool a.s.var, .int .i64 a.s.n], .slice A n c] W fun e w' => e = .returned (.int .i64 vS) ∧ Below W.heap.size W w') := fun W h => hvS ▸ HCV.out a.s W (HVar.out _ (args_atom (List.mem_of_getElem? hs) (by simp))) h
    have HCO : Hid (∀ W, Below w.heap.size w W → Calls Tryz.prog 71 #[.agg #[.bool a.o.var, .int .i64 a.o.n], .slice A n c] W fun e w' => e = .returned (.int .i64 vO) ∧ Below W.heap.size W w') := fun W h => hvO ▸ HCV.out a.o W (HVar.out _ (args_atom (List.mem_of_getElem? hs) (by simp))) h
    have HCW : Hid (∀ W, Below w.heap.size w W → Calls Tryz.prog 71 #[.agg #[.bool a.v.var, .int .i64 a.v.n], .slice A n c] W fun e w' => e = .returned (.int .i64 vV) ∧ Below W.heap.size W w') := fun W h => hvV ▸ HCV.out a.v W (HVar.out _ (args_atom (List.mem_of_getElem? hs) (by simp))) h
    obtain ⟨W5, hW5⟩ : ∃ W5, wr.alloc (.cells #[.int .i64 a.kind, .bool a.s.var, .int .i64 a.s.n, .bool a.o.var, .int .i64 a.o.n, .bool a.v.var, .int .i64 a.v.n, .int .i64 a.term, .int .i64 a.known] 64) = W5 := ⟨_, rfl⟩
    have g5 : W5.heap[wr.heap.size]? = some (.cells #[.int .i64 a.kind, .bool a.s.var, .int .i64 a.s.n, .bool a.o.var, .int .i64 a.o.n, .bool a.v.var, .int .i64 a.v.n, .int .i64 a.term, .int .i64 a.known] 64 (0, 0)) := hW5 ▸ World.alloc_heap_new _ _
    have hs5 : QBox q w.heap.size W5 := hW5 ▸ HST.out.later ((Below.refl _ _).alloc (Nat.le_refl _) _)
    have hb5 : Below w.heap.size w W5 := hW5 ▸ HBe.out.alloc HBe.out.size _
    have HW5 := hidp hW5
    have HS5 := hidp hs5
    have HB5 := hidp hb5
    have HG5 := hidp g5
    clear hs hA hW5 hs5 hb5 g5 hvS hvO hvV hat1
    go_wp2_with fail
    rw [HW5.out]
    clear x0 x1 x2 x3 l0 c0 c1 c2 c3 c4 c5 c6 c7 c8 lb hix
    have y0 := cell_of_heap (o := 0) HG5.out
    have y1 := cell_of_heap (o := 1) HG5.out
    have y2 := cell_of_heap (o := 2) HG5.out
    have y3 := cell_of_heap (o := 3) HG5.out
    have y4 := cell_of_heap (o := 4) HG5.out
    have l5 := lt_of_heap HG5.out
    simp only [List.getElem?_toArray, List.getElem?_cons_zero, List.getElem?_cons_succ] at y0 y1 y2 y3 y4
    refine wp_region_S W5.heap.size 12 (fun _ => false) (Nat.le_refl _) (by kernel_rfl) (by kernel_rfl) (by kernel_rfl) ?_
    dsimp only [List.take, List.drop]
    apply relS_det (mask := [])
    · rfl
    · kernel_rfl
    · kernel_rfl
    · dsimp only [oblS]
      rintro w9 h9
      go_simp
      exact ⟨Below.refl _ _, rfl⟩
    dsimp only [List.nil_append, List.cons_append]
    apply relS_det (mask := [true]) (x := .int .i64 a.kind)
    · rfl
    · kernel_rfl
    · kernel_rfl
    · dsimp only [oblS]
      rintro w9 h9
      have hc9 := (bcell h9).1
      go_simp
      exact ⟨Below.refl _ _, rfl⟩
    dsimp only [List.nil_append, List.cons_append]
    apply relS_det (mask := [false, false])
    · rfl
    · kernel_rfl
    · kernel_rfl
    · dsimp only [oblS]
      rintro w9 h9
      go_simp
      exact ⟨Below.refl _ _, rfl⟩
    dsimp only [List.nil_append, List.cons_append]
    apply relS_det (mask := [false, false, true]) (x := .agg #[.bool a.s.var, .int .i64 a.s.n])
    · rfl
    · kernel_rfl
    · kernel_rfl
    · dsimp only [oblS]
      rintro w9 h9
      have hc9 := (bcell h9).1
      go_simp
      exact ⟨Below.refl _ _, rfl⟩
    dsimp only [List.nil_append, List.cons_append]
    apply relS_det (mask := [false, false, false, false])
    · rfl
    · kernel_rfl
    · kernel_rfl
    · dsimp only [oblS]
      rintro w9 h9
      go_simp
      exact ⟨Below.refl _ _, rfl⟩
    dsimp only [List.nil_append, List.cons_append]
    apply relS_det (mask := [false, false, false, true, true]) (x := .int .i64 vS)
    · rfl
    · kernel_rfl
    · kernel_rfl
    · dsimp only [oblS]
      rintro w9 h9
      go_simp
      refine (HCS.out _ (HB5.out.trans (h9.mono HB5.out.size))).mono ?_
      rintro e w7 ⟨rfl, hb7⟩
      exact ⟨_, rfl, hb7, rfl⟩
    dsimp only [List.nil_append, List.cons_append]
    apply relS_det (mask := [false, false, false, false, false, false])
    · rfl
    · kernel_rfl
    · kernel_rfl
    · dsimp only [oblS]
      rintro w9 h9
      go_simp
      exact ⟨Below.refl _ _, rfl⟩
    dsimp only [List.nil_append, List.cons_append]
    apply relS_det (mask := [false, false, false, false, false, false, true]) (x := .agg #[.bool a.o.var, .int .i64 a.o.n])
    · rfl
    · kernel_rfl
    · kernel_rfl
    · dsimp only [oblS]
      rintro w9 h9
      have hc9 := (bcell h9).1
      go_simp
      exact ⟨Below.refl _ _, rfl⟩
    dsimp only [List.nil_append, List.cons_append]
    apply relS_det (mask := [false, false, false, false, false, false, false, false])
    · rfl
    · kernel_rfl
    · kernel_rfl
    · dsimp only [oblS]
      rintro w9 h9
      go_simp
      exact ⟨Below.refl _ _, rfl⟩
    dsimp only [List.nil_append, List.cons_append]
    apply relS_det (mask := [false, false, false, false, false, false, false, true, true]) (x := .int .i64 vO)
    · rfl
    · kernel_rfl
    · kernel_rfl
    · dsimp only [oblS]
      rintro w9 h9
      go_simp
      refine (HCO.out _ (HB5.out.trans (h9.mono HB5.out.size))).mono ?_
      rintro e w7 ⟨rfl, hb7⟩
      exact ⟨_, rfl, hb7, rfl⟩
    dsimp only [List.nil_append, List.cons_append]
    apply relS_det (mask := [false, true, false, false, false, true, false, false, false, true]) (x := .agg #[.int .i64 a.kind, .int .i64 vS, .int .i64 vO])
    · rfl
    · kernel_rfl
    · kernel_rfl
    · dsimp only [oblS]
      rintro w9 h9
      go_simp
      exact ⟨Below.refl _ _, rfl⟩
    dsimp only [List.nil_append, List.cons_append]
    apply relS_any (mask := [false, false, false, false, false, false, false, false, false, false, false]) (T := fun v w => ∃ b, v = .pointer (some ⟨b, 0, none⟩) ∧ W5.heap.size ≤ b ∧ w.heap[b]? = some (.cells #[.int .i64 0, .int .i64 0, .int .i64 0] 50 (0, 0))) (hT := fun v w w' hb ⟨b, hv, hl, hh⟩ => ⟨b, hv, hl, (hb.block b (lt_of_heap hh)).trans hh⟩)
    · rfl
    · kernel_rfl
    · kernel_rfl
    · dsimp only [oblS]
      rintro w9 h9 T' hT'
      go_simp
      exact ⟨(Below.refl _ _).alloc (Nat.le_refl _) _, hT' _ _ ⟨_, rfl, h9.size, World.alloc_heap_new _ _⟩⟩
    dsimp only [List.nil_append, List.cons_append]
    refine relS_end (by rfl) ?_
    dsimp only [finS]
    rintro v9 w8 ⟨hb8, ⟨Bk, rfl, hBk, hgk⟩⟩
    have fk8 := frozen_of_heap (o := 0) hgk
    have lk8 := lt_of_heap hgk
    clear y0 y1 y2 y3 y4
    have hb89 := below_setRow hb8 hBk (putAt #[.int .i64 0, .int .i64 0, .int .i64 0] 0 [.int .i64 a.kind, .int .i64 vS, .int .i64 vO])
    have hk9 := setRow_heap w8 Bk _ (putAt #[.int .i64 0, .int .i64 0, .int .i64 0] 0 [.int .i64 a.kind, .int .i64 vS, .int .i64 vO]) _ _ hgk
    have g9 := (hb89.block _ l5).trans HG5.out
    obtain ⟨W9, hW9⟩ : ∃ W9, w8.setRow Bk (putAt #[.int .i64 0, .int .i64 0, .int .i64 0] 0 [.int .i64 a.kind, .int .i64 vS, .int .i64 vO]) = W9 := ⟨_, rfl⟩
    rw [hW9] at hb89 hk9 g9
    have hk9' : W9.heap[Bk]? = some (.cells #[.int .i64 a.kind, .int .i64 vS, .int .i64 vO] 50 (0, 0)) := hk9
    have HB9 := hidp (HB5.out.trans (hb89.mono HB5.out.size))
    have HS9 := hidp (HS5.out.later hb89)
    have HG9 := hidp g9
    have HW9 := hidp hW9
    have z7 := cell_of_heap (o := 7) g9
    have z8 := cell_of_heap (o := 8) g9
    have l8 := lt_of_heap g9
    have k0 := cell_of_heap (o := 0) hk9'
    have k1 := cell_of_heap (o := 1) hk9'
    have k2 := cell_of_heap (o := 2) hk9'
    have lk9 := lt_of_heap hk9'
    simp only [List.getElem?_toArray, List.getElem?_cons_zero, List.getElem?_cons_succ] at z7 z8 k0 k1 k2
    clear l5 hb8 hW9 hb89 g9 hk9 hk9' fk8 hBk
    go_simp
    refine wpList_store_at (vs := [.int .i64 a.kind, .int .i64 vS, .int .i64 vO]) 50 (.tmp 9) (.tmp 38) rfl rfl rfl rfl hgk (by kernel_rfl) (by simp) (by intro v hv; simp at hv; rcases hv with rfl | rfl | rfl <;> rfl) ?_
    rw [HW9.out]
    go_wp2_with fail
    clear k0 k1 k2 lk9 lk8 hgk
    refine (rAt_any FA fn fc l ⟨a.kind, vS, vO⟩ a.term a.known _ (HFa.out _ HB9.out)).mono ?_
    rintro e w7 ⟨rfl, hk7⟩
    have HB7 := hidp (HB9.out.trans (hk7.mono HB9.out.size))
    have HS7 := hidp (HS9.out.later hk7)
    have g7 := (hk7.block _ (lt_of_heap HG9.out)).trans HG9.out
    have z5 := cell_of_heap (o := 5) g7
    have z6 := cell_of_heap (o := 6) g7
    have l7 := lt_of_heap g7
    simp only [List.getElem?_toArray, List.getElem?_cons_zero, List.getElem?_cons_succ] at z5 z6
    clear z7 z8 l8 hk7 g7
    rw [HAT.out]
    obtain ⟨ok, hok⟩ : ∃ b, at1.isSome = b := ⟨_, rfl⟩
    obtain ⟨v1, hv1⟩ : ∃ v, at1.getD 0 = v := ⟨_, rfl⟩
    obtain ⟨e1, he1⟩ : ∃ b, (v1 != vV) = b := ⟨_, rfl⟩
    rw [hok, hv1]
    have HR : Hid (atomJ l vs a = (ok && !e1)) := by
      show _ = _
      rw [HT.out, ← hok, ← he1, ← hv1]
      cases at1 with
      | none => simp
      | some z => by_cases h : z = vV <;> simp [h]
    have HE1 := hidp he1
    clear hok hv1
    have HNO : Hid (atomJ l vs a = false → holdsJ q l vs = false) := by
      intro hno
      unfold holdsJ
      rw [Bool.eq_false_iff]
      intro h
      simp only [Bool.and_eq_true, List.all_eq_true] at h
      have := h.1 a (List.mem_of_getElem? HX.out)
      rw [hno] at this; cases this
    cases ok
    · have HF := hidp (HNO.out (by rw [HR.out]; rfl))
      clear he1
      go_wp2_with fail
      go_ret
      exact ⟨by rw [HF.out]; rfl, HB7.out⟩
    go_wp2_with fail
    refine (HCW.out _ HB7.out).mono ?_
    rintro e w6 ⟨rfl, hk6⟩
    have HB6 := hidp (HB7.out.trans (hk6.mono HB7.out.size))
    have HS6 := hidp (HS7.out.later hk6)
    clear z5 z6 l7 hk6
    cases e1
    · go_wp2_with fail
      go_roundw
      case rel => exact ⟨k + 1, by omega, by go_num, HS6.out, HB6.out, fun j t hj ht => by
        rcases Nat.lt_or_ge j k with h | h
        · exact HOK.out j t h ht
        · obtain rfl : j = k := by omega
          rw [HX.out] at ht
          obtain rfl := Option.some.inj ht
          rw [HR.out]; rfl⟩
      case measure => simp [intOf]; omega
    · have HF := hidp (HNO.out (by rw [HR.out]; rfl))
      go_wp2_with fail
      go_ret
      exact ⟨by rw [HF.out]; rfl, HB6.out⟩
  have hke : k = q.an := by omega
  subst hke
  have hkk : ¬ ((q.an : Int) < q.an) := by omega
  have HOK3 : Hid (q.atoms.all (atomJ l vs) = true) := List.all_eq_true.2 fun a ha => by
    obtain ⟨i, hi⟩ := List.mem_iff_getElem?.1 ha
    exact HOK.out i a (by have := (List.getElem?_eq_some_iff.1 hi).1; have := HLen.out.2.2.1; omega) hi
  clear HOK
  rename World => wA
  go_wp2_with fail
  clear x0 x1 x2 x3 l0
  go_loopw [12] (fun i wr => ∃ k : Nat, k ≤ q.tn ∧ i = .int .i64 k ∧ QBox q w.heap.size wr ∧ Below w.heap.size w wr ∧ ∀ (j : Nat) a, j < k → q.tests[j]? = some a → testJ vs a = true) (fun i _ => q.tn - (intOf i).toNat)
  case atStart => exact ⟨0, by omega, rfl, HST.out, HBe.out, fun j s h => by omega⟩
  case round =>
  obtain ⟨k, hk, rfl, hst, hbe, hok⟩ := hrel
  have HST2 := hidp hst
  have HBe2 := hidp hbe
  have HOK := hidp hok
  obtain ⟨x0, x1, x2, x3, l0⟩ := hst.cells
  clear hst hok hbe HST HBe
  by_cases hkn : k < q.tn
  · have hkn' : (k : Int) < q.tn := by omega
    obtain ⟨b, off, t, hA, _, hs, c0, c1, c2, c3, c4⟩ := te_getK (HQu.out _ HBe2.out).2.2.2 hkn
    have lb := lt_of_cell c0
    have HX := hidp hs
    have hix := ix_Tests (c := q.tc) hA hkn
    obtain ⟨va, hva⟩ : ∃ v, valJ t.a vs = v := ⟨_, rfl⟩
    obtain ⟨vb, hvb⟩ : ∃ v, valJ t.b vs = v := ⟨_, rfl⟩
    have HT : Hid (testJ vs t = opJ t.op va vb) := by show _ = _; unfold testJ; rw [hva, hvb]
    have HCA : Hid (∀ W, Below w.heap.size w W → Calls Tryz.prog 71 #[.agg #[.bool t.a.var, .int .i64 t.a.n], .slice A n c] W fun e w' => e = .returned (.int .i64 va) ∧ Below W.heap.size W w') := fun W h => hva ▸ HCV.out t.a W (HVar.out _ (args_test (List.mem_of_getElem? hs) (by simp))) h
    have HCB : Hid (∀ W, Below w.heap.size w W → Calls Tryz.prog 71 #[.agg #[.bool t.b.var, .int .i64 t.b.n], .slice A n c] W fun e w' => e = .returned (.int .i64 vb) ∧ Below W.heap.size W w') := fun W h => hvb ▸ HCV.out t.b W (HVar.out _ (args_test (List.mem_of_getElem? hs) (by simp))) h
    have HOp := hidp (HTe.out t (List.mem_of_getElem? hs))
    have HNO : Hid (testJ vs t = false → holdsJ q l vs = false) := by
      intro hno
      unfold holdsJ
      rw [Bool.eq_false_iff]
      intro h
      simp only [Bool.and_eq_true, List.all_eq_true] at h
      have := h.2 t (List.mem_of_getElem? HX.out)
      rw [hno] at this; cases this
    obtain ⟨W5, hW5⟩ : ∃ W5, wr.alloc (.cells #[.int .i64 t.op, .bool t.a.var, .int .i64 t.a.n, .bool t.b.var, .int .i64 t.b.n] 67) = W5 := ⟨_, rfl⟩
    have g5 : W5.heap[wr.heap.size]? = some (.cells #[.int .i64 t.op, .bool t.a.var, .int .i64 t.a.n, .bool t.b.var, .int .i64 t.b.n] 67 (0, 0)) := hW5 ▸ World.alloc_heap_new _ _
    have hs5 : QBox q w.heap.size W5 := hW5 ▸ HST2.out.later ((Below.refl _ _).alloc (Nat.le_refl _) _)
    have hb5 : Below w.heap.size w W5 := hW5 ▸ HBe2.out.alloc HBe2.out.size _
    have HW5 := hidp hW5
    have HS5 := hidp hs5
    have HB5 := hidp hb5
    have HG5 := hidp g5
    clear hs hA hW5 hs5 hb5 g5 hva hvb
    go_wp2_with fail
    rw [HW5.out]
    refine (HCA.out _ HB5.out).mono ?_
    rintro e w6 ⟨rfl, hk6⟩
    have HB6 := hidp (HB5.out.trans (hk6.mono HB5.out.size))
    have HS6 := hidp (HS5.out.later hk6)
    have HG6 := hidp ((hk6.block _ (lt_of_heap HG5.out)).trans HG5.out)
    clear x0 x1 x2 x3 l0 c0 c1 c2 c3 c4 lb hix hk6
    have y3 := cell_of_heap (o := 3) HG6.out
    have y4 := cell_of_heap (o := 4) HG6.out
    have l6 := lt_of_heap HG6.out
    simp only [List.getElem?_toArray, List.getElem?_cons_zero, List.getElem?_cons_succ] at y3 y4
    go_wp2_with fail
    refine (HCB.out _ HB6.out).mono ?_
    rintro e w7 ⟨rfl, hk7⟩
    have HB7 := hidp (HB6.out.trans (hk7.mono HB6.out.size))
    have HS7 := hidp (HS6.out.later hk7)
    have g7 := (hk7.block _ (lt_of_heap HG6.out)).trans HG6.out
    clear y3 y4 l6 hk7
    have y0 := cell_of_heap (o := 0) g7
    have l7 := lt_of_heap g7
    simp only [List.getElem?_toArray, List.getElem?_cons_zero] at y0
    clear g7
    have HGO : Hid (testJ vs t = true → ∀ (j : Nat) a, j < k + 1 → q.tests[j]? = some a → testJ vs a = true) := fun hyes j a hj ha => by
      rcases Nat.lt_or_ge j k with h | h
      · exact HOK.out j a h ha
      · obtain rfl : j = k := by omega
        rw [HX.out] at ha
        obtain rfl := Option.some.inj ha
        exact hyes
    obtain ⟨op, hop⟩ : ∃ z, t.op = z := ⟨_, rfl⟩
    rw [hop] at y0 HT HOp
    have hop4 : op = -2 ∨ op = -1 ∨ op = 0 ∨ op = 1 := by have := HOp.out; omega
    clear hop HOp
    rcases hop4 with rfl | rfl | rfl | rfl
    · obtain ⟨d, hd⟩ : ∃ d, decide (va ≥ vb) = d := ⟨_, rfl⟩
      have HRT : Hid (testJ vs t = !d) := by
        show _ = _
        rw [HT.out, ← hd]
        show decide (va < vb) = _
        rw [Bool.eq_iff_iff]; simp
      cases d
      · have HG := hidp (HGO.out (by rw [HRT.out]; rfl))
        go_wp2_with fail
        go_roundw
        case rel => exact ⟨k + 1, by omega, by go_num, HS7.out, HB7.out, HG.out⟩
        case measure => simp [intOf]; omega
      · have HF := hidp (HNO.out (by rw [HRT.out]; rfl))
        go_wp2_with fail
        go_ret
        exact ⟨by rw [HF.out]; rfl, HB7.out⟩
    · obtain ⟨d, hd⟩ : ∃ d, decide (va > vb) = d := ⟨_, rfl⟩
      have HRT : Hid (testJ vs t = !d) := by
        show _ = _
        rw [HT.out, ← hd]
        show decide (va ≤ vb) = _
        rw [Bool.eq_iff_iff]; simp
      cases d
      · have HG := hidp (HGO.out (by rw [HRT.out]; rfl))
        go_wp2_with fail
        go_roundw
        case rel => exact ⟨k + 1, by omega, by go_num, HS7.out, HB7.out, HG.out⟩
        case measure => simp [intOf]; omega
      · have HF := hidp (HNO.out (by rw [HRT.out]; rfl))
        go_wp2_with fail
        go_ret
        exact ⟨by rw [HF.out]; rfl, HB7.out⟩
    · obtain ⟨d, hd⟩ : ∃ d, (va != vb) = d := ⟨_, rfl⟩
      have HRT : Hid (testJ vs t = !d) := by
        show _ = _
        rw [HT.out, ← hd]
        show decide (va = vb) = _
        rw [Bool.eq_iff_iff]; simp
      cases d
      · have HG := hidp (HGO.out (by rw [HRT.out]; rfl))
        go_wp2_with fail
        go_roundw
        case rel => exact ⟨k + 1, by omega, by go_num, HS7.out, HB7.out, HG.out⟩
        case measure => simp [intOf]; omega
      · have HF := hidp (HNO.out (by rw [HRT.out]; rfl))
        go_wp2_with fail
        go_ret
        exact ⟨by rw [HF.out]; rfl, HB7.out⟩
    · obtain ⟨d, hd⟩ : ∃ d, (va == vb) = d := ⟨_, rfl⟩
      have HRT : Hid (testJ vs t = !d) := by
        show _ = _
        rw [HT.out, ← hd]
        show decide (va ≠ vb) = _
        rw [Bool.eq_iff_iff]; simp
      cases d
      · have HG := hidp (HGO.out (by rw [HRT.out]; rfl))
        go_wp2_with fail
        go_roundw
        case rel => exact ⟨k + 1, by omega, by go_num, HS7.out, HB7.out, HG.out⟩
        case measure => simp [intOf]; omega
      · have HF := hidp (HNO.out (by rw [HRT.out]; rfl))
        go_wp2_with fail
        go_ret
        exact ⟨by rw [HF.out]; rfl, HB7.out⟩
  have hke : k = q.tn := by omega
  subst hke
  have hkk : ¬ ((q.tn : Int) < q.tn) := by omega
  have HR : Hid (holdsJ q l vs = true) := by
    show _ = _
    unfold holdsJ
    rw [HOK3.out, Bool.true_and]
    exact List.all_eq_true.2 fun a ha => by
      obtain ⟨i, hi⟩ := List.mem_iff_getElem?.1 ha
      exact HOK.out i a (by have := (List.getElem?_eq_some_iff.1 hi).1; have := HLen.out.2.2.2; omega) hi
  clear HOK
  go_wp2_with fail
  go_ret
  exact ⟨by rw [HR.out]; rfl, HBe2.out⟩
set_option maxRecDepth 100000 in
set_option maxHeartbeats 4000000 in
theorem r51Holds_any (q : Qu) (FA : Option Addr) (fn fc : Nat) (l : List Fc) (A : Option Addr) (n c : Nat) (vs : List Int) (w : World) (hq : QuIn q w w.heap.size) (hl : fSl w w.heap.size FA fn fc l) (hv : iSl w w.heap.size A n c vs) :
    Calls Tryz.prog 9 #[.agg #[.slice q.nA q.nn q.nc, .slice q.sA q.sn q.sc, .slice q.aA q.an q.ac, .slice q.tA q.tn q.tc], .slice FA fn fc, .slice A n c] w fun e w' => e = .returned (.tuple #[.bool (holdV q l vs), .int .i64 (holdE q vs)]) ∧ Below w.heap.size w w' := by
  have HQu : Hid (∀ W, Below w.heap.size w W → QuIn q W W.heap.size) := fun W hb => hq.keep hb.size hb.block
  have HFa : Hid (∀ W, Below w.heap.size w W → fSl W W.heap.size FA fn fc l) := fun W h => hl.keep (Rep.flat_stable _) h.size h.block
  have HV : Hid (∀ W, Below w.heap.size w W → iSl W W.heap.size A n c vs) := fun W h => hv.keep (Rep.flat_stable _) h.size h.block
  have HN := hidp hv.1
  have HLen : Hid (q.nn = q.names.length ∧ q.sn = q.shows.length ∧ q.an = q.atoms.length ∧ q.tn = q.tests.length) := ⟨hq.1.1, hq.2.1.1, hq.2.2.1.1, hq.2.2.2.1⟩
  obtain ⟨W0, hW0⟩ : ∃ W0, w.alloc (.cells #[.slice q.nA q.nn q.nc, .slice q.sA q.sn q.sc, .slice q.aA q.an q.ac, .slice q.tA q.tn q.tc] 27) = W0 := ⟨_, rfl⟩
  have hBW : Below w.heap.size w W0 := hW0 ▸ (Below.refl _ w).alloc (Nat.le_refl _) _
  have hb0 : QBox q w.heap.size W0 := ⟨hW0 ▸ World.alloc_heap_new _ _⟩
  have HBW := hidp hBW
  have HB0 := hidp hb0
  obtain ⟨x0, x1, x2, x3, l0⟩ := hb0.cells
  clear hBW hb0 hq hl hv
  go_enter Tryz.func9, Tryz.ntmps9
  go_wp2_with fail
  refine (r50Check_any q _ (HQu.out _ HBW.out)).mono ?_
  rintro e w1 ⟨rfl, hk1⟩
  have hb1 := HB0.out.later hk1
  have hB1 := HBW.out.trans (hk1.mono HBW.out.size)
  have HB1 := hidp hb1
  have HBe1 := hidp hB1
  clear hW0 x0 x1 x2 x3 l0 hB1
  obtain ⟨x0, x1, x2, x3, l0⟩ := hb1.cells
  clear hb1 hk1
  obtain ⟨ck, hck⟩ : ∃ b, checkJ wdJ q = b := ⟨_, rfl⟩
  rw [hck]
  have HCk := hidp hck
  clear hck
  cases ck
  · have HR : Hid (holdV q l vs = false ∧ holdE q vs = 500) := by show _ ∧ _; unfold holdV holdE; rw [HCk.out]; exact ⟨rfl, rfl⟩
    simp only [okE]
    go_wp2_with fail
    go_ret2
    exact ⟨by rw [HR.out.1, HR.out.2]; rfl, HBe1.out⟩
  simp only [okE]
  by_cases hn : n = q.nn
  rotate_left
  · have hne : ((n : Int) != (q.nn : Int)) = true := by simp; omega
    have HR : Hid (holdV q l vs = false ∧ holdE q vs = 510) := by
      show _ ∧ _
      unfold holdV holdE
      rw [HCk.out, if_pos rfl, if_neg (by have := HN.out; have := HLen.out.1; omega), decide_eq_false (p := vs.length = q.names.length) (by have := HN.out; have := HLen.out.1; omega)]
      exact ⟨rfl, rfl⟩
    clear hn
    go_wp2_with fail
    go_ret2
    exact ⟨by rw [HR.out.1, HR.out.2]; rfl, HBe1.out⟩
  have hVs := check_vars HCk.out
  have HVs := hidp hVs
  have HEq : Hid (n = q.nn) := hn
  have hne : ((n : Int) != (q.nn : Int)) = false := by simp; omega
  have HE : Hid (holdE q vs = 0) := by
    show _ = _
    unfold holdE
    rw [HCk.out, if_pos rfl, if_pos (by have := HN.out; have := HLen.out.1; omega)]
  have HVV : Hid (holdV q l vs = holdsJ q l vs) := by
    show _ = _
    unfold holdV
    rw [HCk.out, decide_eq_true (p := vs.length = q.names.length) (by have := HN.out; have := HLen.out.1; omega)]; rfl
  have HVar : Hid (∀ y ∈ argsJ q, VarIn y n) := fun y hy hv => by have := HVs.out.2.1 y hy hv; have := HLen.out.1; have := HEq.out; omega
  have HTe : Hid (∀ t ∈ q.tests, -2 ≤ t.op ∧ t.op ≤ 1) := check_teOk HCk.out
  clear hn hVs
  go_wp2_with fail
  refine (r51fulfil_any q FA fn fc l A n c vs _ (HQu.out _ HBe1.out) (HFa.out _ HBe1.out) (HV.out _ HBe1.out) HVar.out HTe.out).mono ?_
  rintro e w6 ⟨rfl, hk6⟩
  have HB6 := hidp (HBe1.out.trans (hk6.mono HBe1.out.size))
  clear x0 x1 x2 x3 l0 hk6
  go_wp2_with fail
  go_ret2
  exact ⟨by rw [HVV.out, HE.out]; rfl, HB6.out⟩
end Go.Proofs.YtbegdcjofnfkiaaGreatDoor

end
section
/- The reference's row: a row laid in order (K5). -/
namespace Go.Proofs.YtbegdcjofnfkiaaGreatDoor
open Go.RowKit Go.Shelf Go.Sort

/-- Rows are handed back. -/
def RPostJ (ls : List (List Int)) (w : World) (e : Ending) (w' : World) : Prop := ∃ A n c, e = .returned (.slice A n c) ∧ RowsIn w' A n c ls ∧ Below w.heap.size w w'
def LtUpX (l : List (List Int)) (k : List Int) (q : Nat) : Prop := ∀ (i : Nat) (x : List Int), i < q → l[i]? = some x → lexJ x k = true
theorem LtUpX.step {l : List (List Int)} {k x : List Int} {q : Nat} (h : LtUpX l k q) (hx : l[q]? = some x) (hl : lexJ x k = true) : LtUpX l k (q + 1) := by
  intro i y hi hy
  rcases Nat.lt_or_ge i q with h1 | h1
  · exact h i y h1 hy
  · obtain rfl : i = q := by omega
    rw [hx] at hy; cases hy; exact hl
theorem insX_found {x y : List Int} {l : List (List Int)} {q : Nat} (hu : LtUpX l x q) (hy : l[q]? = some y) (h1 : lexJ y x = false) (h2 : lexJ x y = false) (hq : q ≤ l.length) : ins lexJ x l = l := by
  have e : y = x := by
    rcases lexJ_tri x y with h | h | h
    · rw [h] at h2; cases h2
    · exact h.symm
    · rw [h] at h1; cases h1
  subst e
  rw [ins_at y l q (fun j z hj hz => hu j z hj hz) (fun z hz => by rw [hy] at hz; cases hz; exact h1) hq, if_pos hy]
theorem insX_new {x : List Int} {l : List (List Int)} {q : Nat} (hu : LtUpX l x q) (hy : ∀ y, l[q]? = some y → lexJ x y = true) (hq : q ≤ l.length) : ins lexJ x l = l.take q ++ ([x] ++ l.drop q) := by
  rw [ins_at x l q (fun j z hj hz => hu j z hj hz) (fun z hz => linX.asymm (hy z hz)) hq, if_neg]
  · rfl
  · intro h; have := hy x h; rw [lexJ_irr] at this; cases this
set_option maxRecDepth 100000 in
set_option maxHeartbeats 4000000 in
theorem r51row_any (A B : Option Addr) (n c cb : Nat) (ls : List (List Int)) (x : List Int) (w : World) (hr : RowsIn w A n c ls) (hm : ∀ r ∈ ls, r.length = x.length) (hx : iSl w w.heap.size B x.length cb x) (hn : n ≤ 1000000) :
    Calls Tryz.prog 82 #[.slice A n c, .slice B x.length cb] w (RPostJ (ins lexJ x ls) w) := by
  obtain ⟨i0, hi, hz, hs, hbb⟩ := info_parts intsInfo
  have HM := hidp hm
  have HLs := hidp hr.len.1
  have HX := hidp hx
  have hcap := hr.len.2.2
  have hlen := hr.len.2.1
  have HRw := hidp hr
  clear hr hm hx
  go_enter Tryz.func82, Tryz.ntmps82
  go_wp2_with fail
  go_loopw [5] (fun j wr => ∃ q : Nat, q ≤ n ∧ j = .int .i64 q ∧ LtUpX ls x q ∧ Below w.heap.size w wr) (fun j _ => n - (intOf j).toNat)
  case atStart => exact ⟨0, by omega, rfl, fun i y h => by omega, Below.refl _ _⟩
  case round =>
  obtain ⟨q, hq, rfl, hup, hbe⟩ := hrel
  have HU := hidp hup
  have HBe := hidp hbe
  clear hup hbe
  by_cases hqn : q < n
  · have hqn' : (q : Int) < n := by omega
    obtain ⟨b, off, Bq, mc, y, hA, hy, c0, hyr⟩ := (HRw.out.keep HBe.out).get hqn
    have hix := fun W => ix_intss (c := c) hA hqn W
    rw [HM.out y (List.mem_of_getElem? hy)] at c0 hyr
    have lb := lt_of_cell c0
    have HY := hidp hy
    have HYr : Hid (∀ W, Below wr.heap.size wr W → iSl W W.heap.size Bq x.length mc y) := fun W h => hyr.keep (Rep.flat_stable _) h.size h.block
    have HXr : Hid (∀ W, Below w.heap.size w W → iSl W W.heap.size B x.length cb x) := fun W h => HX.out.keep (Rep.flat_stable _) h.size h.block
    have HC0 := hidp c0
    clear hy hyr hA
    go_wp2_with fail
    refine (less_any Bq B x.length mc cb y x _ (HYr.out _ (Below.refl _ _)) (HXr.out _ HBe.out)).mono ?_
    rintro e w5 ⟨rfl, hk5⟩
    have HK5 := hidp hk5
    have HB5 := hidp (HBe.out.trans (hk5.mono HBe.out.size))
    have d0 := ((bcell hk5).1 _ _ lb).trans c0
    have lb5 := lt_of_cell d0
    obtain ⟨p1, hp1⟩ : ∃ b, lexJ y x = b := ⟨_, rfl⟩
    rw [hp1]
    have HP1 := hidp hp1
    clear hp1 c0 lb hk5
    cases p1
    rotate_left
    · go_wp2_with fail
      go_roundw
      case rel => exact ⟨q + 1, by omega, by go_num, HU.out.step HY.out HP1.out, HB5.out⟩
      case measure => simp [intOf]; omega
    go_wp2_with fail
    refine (less_any B Bq x.length cb mc x y _ (HXr.out _ HB5.out) (HYr.out _ HK5.out)).mono ?_
    rintro e w6 ⟨rfl, hk6⟩
    have HB6 := hidp (HB5.out.trans (hk6.mono HB5.out.size))
    obtain ⟨p2, hp2⟩ : ∃ b, lexJ x y = b := ⟨_, rfl⟩
    rw [hp2]
    have HP2 := hidp hp2
    clear hp2 d0 lb5 hk6 hix
    cases p2
    · have HW : Hid (ins lexJ x ls = ls) := insX_found HU.out HY.out HP1.out HP2.out (by rw [← HLs.out]; exact hq)
      go_wp2_with fail
      go_ret
      exact ⟨_, n, c, rfl, by rw [HW.out]; exact HRw.out.keep HB6.out, HB6.out⟩
    have HW : Hid (ins lexJ x ls = ls.take q ++ ([x] ++ ls.drop q)) := insX_new HU.out (fun z hz => by rw [HY.out] at hz; cases hz; exact HP2.out) (by rw [← HLs.out]; exact hq)
    obtain ⟨rs, hrs, hR, hrI⟩ := HRw.out.keep HB6.out
    have hcut := fun W => run_cut_low (P := Tryz.prog) W Tryz.underlying37 hi A n c q .i64 (q : Int) rfl hq
    rw [hs] at hcut
    have hqc : q ≤ c := by omega
    have hrc := hR.cut (m := q) hq
    have hrt := hR.take (m := q) hq
    generalize cutA A c q 1 = A2 at hcut hrc
    obtain ⟨W1, hW1⟩ : ∃ W1, w6.alloc (.cells #[.slice B x.length cb] 23) = W1 := ⟨_, rfl⟩
    have hb1 : Below w6.heap.size w6 W1 := by rw [← hW1]; exact (Below.refl _ _).alloc (Nat.le_refl _) _
    have h1 : W1.heap[w6.heap.size]? = some (.cells #[.slice B x.length cb] 23 (0, 0)) := by rw [← hW1]; exact World.alloc_heap_new _ _
    have r5 : Rows 1 (Rep.flat rwEnc) W1 W1.heap.size (some ⟨w6.heap.size, 0, none⟩) 1 1 [⟨B, cb, x⟩] := rows_of_heap (l := [(⟨B, cb, x⟩ : Rw)]) rwEnc_len h1 (Nat.le_refl _) (by decide) rfl
    obtain ⟨A6, c6, w7, hrun6, r6, hb6⟩ := run_append_clipR (P := Tryz.prog) (ty := 37) Tryz.underlying37 hi hz hs hbb rfl rwEnc_len (by decide) rwEnc_one r5 (Nat.le_refl _) (hrc.keep (Rep.flat_stable _) hb1.size hb1.block) (by omega) (by omega)
    have hn6 : 1 + (n - q) ≤ 1000001 := by omega
    obtain ⟨A8, c8, w8, hrun8, r8, hb8⟩ := run_append_clipR (P := Tryz.prog) (ty := 37) Tryz.underlying37 hi hz hs hbb rfl rwEnc_len (by decide) rwEnc_one ((hrt.keep (Rep.flat_stable _) hb1.size hb1.block).keep (Rep.flat_stable _) hb6.size hb6.block) (Nat.le_refl _) r6 (by omega) (by omega)
    have hbw := hb1.trans ((hb6.mono hb1.size).trans (hb8.mono (Nat.le_trans hb1.size hb6.size)))
    have HR6 := hidp hrun6
    have HR8 := hidp hrun8
    have HB8 := hidp (HB6.out.trans (hbw.mono (HB6.out).size))
    have HRes : Hid (RowsIn w8 A8 (q + (1 + (n - q))) c8 (ins lexJ x ls)) := by
      show RowsIn _ _ _ _ _
      rw [HW.out]
      refine ⟨_, ?_, r8, ?_⟩
      · rw [List.map_append, List.map_append, List.map_take, List.map_drop, hrs]; rfl
      · intro r hr
        rcases List.mem_append.1 hr with hr | hr
        · exact (hrI r (List.mem_of_mem_take hr)).keep (Rep.flat_stable _) hbw.size hbw.block
        · rcases List.mem_append.1 hr with hr | hr
          · obtain rfl := List.mem_singleton.1 hr
            exact (HX.out.keep (Rep.flat_stable _) (HB6.out).size (HB6.out).block).keep (Rep.flat_stable _) hbw.size hbw.block
          · exact (hrI r (List.mem_of_mem_drop hr)).keep (Rep.flat_stable _) hbw.size hbw.block
    have hcl6 := r6.2.2.1
    have hcn6 := r6.2.1
    have HW1 := hidp hW1
    clear hrun6 hrun8 r8 r6 r5 h1 hb1 hrc hrt hW1 hb6 hb8 hbw hrI hR hrs
    go_wp2_with (at_builtin; (try rw [HW1.out]); first | refine wpList_append_known rfl (.tmp 36) (.tmp 39) 37 rfl rfl rfl HR6.out ?_ | refine wpList_append_known rfl (.tmp 44) (.tmp 45) 37 rfl rfl rfl HR8.out ?_)
    go_ret
    exact ⟨A8, _, c8, rfl, HRes.out, HB8.out⟩
  obtain rfl : q = n := by omega
  have hkk : ¬ ((q : Int) < q) := by omega
  have HW : Hid (ins lexJ x ls = ls.take q ++ ([x] ++ ls.drop q)) := insX_new HU.out (fun z hz => by rw [List.getElem?_eq_none (by rw [← HLs.out]; exact Nat.le_refl _)] at hz; cases hz) (by rw [← HLs.out]; exact hq)
  obtain ⟨rs, hrs, hR, hrI⟩ := HRw.out.keep HBe.out
  have hcut := fun W => run_cut_low (P := Tryz.prog) W Tryz.underlying37 hi A q c q .i64 (q : Int) rfl hq
  rw [hs] at hcut
  have hqc : q ≤ c := by omega
  have hrc := hR.cut (m := q) hq
  have hrt := hR.take (m := q) hq
  simp only [Nat.sub_self] at hcut hrc
  generalize cutA A c q 1 = A2 at hcut hrc
  obtain ⟨W1, hW1⟩ : ∃ W1, wr.alloc (.cells #[.slice B x.length cb] 23) = W1 := ⟨_, rfl⟩
  have hb1 : Below wr.heap.size wr W1 := by rw [← hW1]; exact (Below.refl _ _).alloc (Nat.le_refl _) _
  have h1 : W1.heap[wr.heap.size]? = some (.cells #[.slice B x.length cb] 23 (0, 0)) := by rw [← hW1]; exact World.alloc_heap_new _ _
  have r5 : Rows 1 (Rep.flat rwEnc) W1 W1.heap.size (some ⟨wr.heap.size, 0, none⟩) 1 1 [⟨B, cb, x⟩] := rows_of_heap (l := [(⟨B, cb, x⟩ : Rw)]) rwEnc_len h1 (Nat.le_refl _) (by decide) rfl
  obtain ⟨A6, c6, w7, hrun6, r6, hb6⟩ := run_append_clipR (P := Tryz.prog) (ty := 37) Tryz.underlying37 hi hz hs hbb rfl rwEnc_len (by decide) rwEnc_one r5 (Nat.le_refl _) (hrc.keep (Rep.flat_stable _) hb1.size hb1.block) (by omega) (by omega)
  simp only [Nat.add_zero] at hrun6 r6
  have hn6 : 1 + (q - q) ≤ 1000001 := by omega
  obtain ⟨A8, c8, w8, hrun8, r8, hb8⟩ := run_append_clipR (P := Tryz.prog) (ty := 37) Tryz.underlying37 hi hz hs hbb rfl rwEnc_len (by decide) rwEnc_one ((hrt.keep (Rep.flat_stable _) hb1.size hb1.block).keep (Rep.flat_stable _) hb6.size hb6.block) (Nat.le_refl _) r6 (by omega) (by omega)
  have hbw := hb1.trans ((hb6.mono hb1.size).trans (hb8.mono (Nat.le_trans hb1.size hb6.size)))
  have HR6 := hidp hrun6
  have HR8 := hidp hrun8
  have HB8 := hidp (HBe.out.trans (hbw.mono (HBe.out).size))
  have HRes : Hid (RowsIn w8 A8 (q + 1) c8 (ins lexJ x ls)) := by
    show RowsIn _ _ _ _ _
    rw [HW.out]
    refine ⟨_, ?_, r8, ?_⟩
    · rw [List.map_append, List.map_append, List.map_take, List.map_drop, hrs]; rfl
    · intro r hr
      rcases List.mem_append.1 hr with hr | hr
      · exact (hrI r (List.mem_of_mem_take hr)).keep (Rep.flat_stable _) hbw.size hbw.block
      · rcases List.mem_append.1 hr with hr | hr
        · obtain rfl := List.mem_singleton.1 hr
          exact (HX.out.keep (Rep.flat_stable _) (HBe.out).size (HBe.out).block).keep (Rep.flat_stable _) hbw.size hbw.block
        · exact (hrI r (List.mem_of_mem_drop hr)).keep (Rep.flat_stable _) hbw.size hbw.block
  have hcl6 := r6.2.2.1
  have hcn6 := r6.2.1
  have HW1 := hidp hW1
  clear hrun6 hrun8 r8 r6 r5 h1 hb1 hrc hrt hW1 hb6 hb8 hbw hrI hR hrs
  go_wp2_with (at_builtin; (try rw [HW1.out]); first | refine wpList_append_known rfl (.tmp 36) (.tmp 39) 37 rfl rfl rfl HR6.out ?_ | refine wpList_append_known rfl (.tmp 44) (.tmp 45) 37 rfl rfl rfl HR8.out ?_)
  go_ret
  exact ⟨A8, _, c8, rfl, HRes.out, HB8.out⟩
end Go.Proofs.YtbegdcjofnfkiaaGreatDoor

end
section
/- The reference's all: every value tried (printed by tools/gen125.py). -/
namespace Go.Proofs.YtbegdcjofnfkiaaGreatDoor
open Go.RowKit Go.Shelf Go.Sort
theorem run_append_emptyK {α : Type} {k : Nat} {e : TypeId} {enc : α → List Value} {w : World} {P : Program} {t ty : TypeId} {i : TypeInfo} {z : Value} {bytes base n₁ m c' g : Nat} {A' : Option Addr} {s : List α} (ht : P.underlying t = some (.slice e)) (hi : P.info? e = some i) (hz : i.zero = some z) (hsize : i.size = k) (hby : i.bytes = bytes) (hzs : z.cells.size = k)
    (hk : ∀ x, (enc x).length = k) (h0 : 0 < k) (h1 : ∀ x, ∀ u ∈ enc x, u.oneCell' = true) (hg : w.heap[g]? = some (.cells #[] e (0, 0))) (hbase : base ≤ g) (hs : Rows k (Rep.flat enc) w n₁ A' m c' s) (hn : m * bytes ≤ 140737488355328) (hnm : m ≤ 9223372036854775807) :
    ∃ v' w', (Builtin.append_ #[t, t] ty #[.slice (some ⟨g, 0, none⟩) 0 0, .slice A' m c']).run P w = .ok v' w' ∧ w'.ownsRow base e k v' m (s.flatMap enc) ∧ Below w.heap.size w w' := by
  have hgl := lt_of_heap hg
  rcases Nat.eq_zero_or_pos m with hm | hm
  · subst hm
    have hs0 : s = [] := List.eq_nil_of_length_eq_zero hs.1.symm
    subst hs0
    exact ⟨_, w, run_append_none ht hi (fun h => by cases h) (Nat.le_refl _), ⟨by simp, .inr ⟨g, 0, #[], rfl, hbase, hg, Nat.le_refl _, by unfold maxLen; omega, by simp, by simp⟩⟩, Below.refl _ _⟩
  · obtain ⟨v', w', hrun, hown, hb⟩ := run_append_clip (P := P) (ty := ty) (n := 0) (c := 0) (l := ([] : List α)) (A := some ⟨g, 0, none⟩) (n₀ := w.heap.size) ht hi hz hsize hby hzs hk h0 h1 (Rows.nil (by omega)) hs hm (by rw [Nat.zero_add]; exact hn) (by omega)
    rw [Nat.zero_add, List.nil_append] at hown
    exact ⟨v', w', hrun, own_lower hown (by omega), hb⟩
def insAll (ls xs : List (List Int)) : List (List Int) := xs.foldl (fun s x => ins lexJ x s) ls
theorem insAll_app (ls xs ys : List (List Int)) : insAll ls (xs ++ ys) = insAll (insAll ls xs) ys := by unfold insAll; rw [List.foldl_append]
theorem insAll_len : ∀ (xs ls : List (List Int)), (insAll ls xs).length ≤ ls.length + xs.length
  | [], ls => by simp [insAll]
  | x :: xs, ls => by
    have h := insAll_len xs (ins lexJ x ls)
    have h2 := ins_len (lt := lexJ) x ls
    rw [List.length_cons]
    show (insAll (ins lexJ x ls) xs).length ≤ _
    omega
theorem insAll_rows {m : Nat} : ∀ (xs ls : List (List Int)), (∀ r ∈ ls, r.length = m) → (∀ r ∈ xs, r.length = m) → ∀ r ∈ insAll ls xs, r.length = m
  | [], ls, h, _ => h
  | x :: xs, ls, h, h2 => insAll_rows xs (ins lexJ x ls) (fun r hr => by
      rcases (ins_mem (lt := lexJ) x ls r).1 hr with rfl | hr
      · exact h2 _ (List.mem_cons_self ..)
      · exact h r hr) fun r hr => h2 r (List.mem_cons_of_mem _ hr)
theorem allJ_len (q : Qu) (l : List Fc) (D : List Int) : ∀ (k : Nat) (vs : List Int), (allJ q l D k vs).length ≤ D.length ^ k
  | 0, vs => by unfold allJ; split <;> simp
  | k + 1, vs => by
    unfold allJ
    rw [Nat.pow_succ, Nat.mul_comm]
    have : ∀ E : List Int, (E.flatMap fun n => allJ q l D k (vs ++ [n])).length ≤ E.length * D.length ^ k := by
      intro E
      induction E with
      | nil => simp
      | cons n E ih =>
        rw [List.flatMap_cons, List.length_append, List.length_cons, Nat.succ_mul]
        have := allJ_len q l D k (vs ++ [n])
        omega
    exact this D
theorem flat_bound {α : Type} {F : Int → List α} {m : Nat} (h : ∀ n, (F n).length ≤ m) : ∀ E : List Int, (E.flatMap F).length ≤ E.length * m
  | [] => by simp
  | n :: E => by
    rw [List.flatMap_cons, List.length_append, List.length_cons, Nat.succ_mul]
    have := h n
    have := flat_bound h E
    omega
theorem check_nn {q : Qu} (h : checkJ wdJ q = true) : q.names.length ≤ 8 := by
  simp only [checkJ, sizesJ, inB, Bool.and_eq_true, decide_eq_true_eq] at h
  omega
theorem check_sn {q : Qu} (h : checkJ wdJ q = true) : q.shows.length ≤ 8 := by
  simp only [checkJ, sizesJ, inB, Bool.and_eq_true, decide_eq_true_eq] at h
  omega
theorem all_show {q : Qu} {l : List (List Int)} : ∀ r ∈ l.map (showJ q), r.length = q.shows.length := by
  intro r hr
  obtain ⟨x, _, rfl⟩ := List.mem_map.1 hr
  exact showJ_len q x
set_option maxRecDepth 100000 in
set_option maxHeartbeats 8000000 in
theorem r51all_any (q : Qu) (FA : Option Addr) (fn fc : Nat) (l : List Fc) (DA : Option Addr) (dn dc : Nat) (D : List Int) (hck : checkJ wdJ q = true) :
    ∀ (k : Nat) (A : Option Addr) (n c : Nat) (vs : List Int) (RA : Option Addr) (rn rc : Nat) (ls : List (List Int)) (w : World), QuIn q w w.heap.size → fSl w w.heap.size FA fn fc l → iSl w w.heap.size DA dn dc D → iSl w w.heap.size A n c vs → RowsIn w RA rn rc ls → (∀ r ∈ ls, r.length = q.shows.length) → n + k = q.nn → ls.length + dn ^ k ≤ 1000000 →
      Calls Tryz.prog 35 #[.agg #[.slice q.nA q.nn q.nc, .slice q.sA q.sn q.sc, .slice q.aA q.an q.ac, .slice q.tA q.tn q.tc], .slice FA fn fc, .slice DA dn dc, .slice A n c, .slice RA rn rc] w (RPostJ (insAll ls ((allJ q l D k vs).map (showJ q))) w) := by
  have HCk := hidp hck
  have HVs := hidp (check_vars hck)
  have HTe : Hid (∀ t ∈ q.tests, -2 ≤ t.op ∧ t.op ≤ 1) := check_teOk hck
  clear hck
  intro k
  induction k with
  | zero =>
    intro A n c vs RA rn rc ls w hq hl hd hv hr hm hn hbnd
    obtain ⟨i0, hi, hz, hss, hbb⟩ := info_parts iInfo
    have HQu : Hid (∀ W, Below w.heap.size w W → QuIn q W W.heap.size) := fun W hb => hq.keep hb.size hb.block
    have HFa : Hid (∀ W, Below w.heap.size w W → fSl W W.heap.size FA fn fc l) := fun W h => hl.keep (Rep.flat_stable _) h.size h.block
    have HV : Hid (∀ W, Below w.heap.size w W → iSl W W.heap.size A n c vs) := fun W h => hv.keep (Rep.flat_stable _) h.size h.block
    have HRw := hidp hr
    have HM := hidp hm
    have HNv := hidp hv.1
    have HNn := hidp hn
    have HBnd := hidp hbnd
    have HSn : Hid (q.sn = q.shows.length) := hq.2.1.1
    have HNm : Hid (q.nn = q.names.length) := hq.1.1
    have HVar : Hid (∀ y ∈ argsJ q, VarIn y n) := fun y hy hv => by have := HVs.out.2.1 y hy hv; have := HNm.out; have := HNn.out; omega
    have HR : Hid (∀ i ∈ q.shows, 0 ≤ i ∧ i < n) := fun i hi => by have := HVs.out.1 i hi; have := HNm.out; have := HNn.out; omega
    have hs8 : q.sn ≤ 8 := by have := check_sn HCk.out; have := HSn.out; omega
    have hsc := hq.2.1.2.1
    have hscc := hq.2.1.2.2.1
    have hnc := hv.2.1
    have hcc := hv.2.2.1
    have hlt : ¬ ((n : Int) < q.nn) := by omega
    obtain ⟨W0, hW0⟩ : ∃ W0, w.alloc (.cells #[.slice q.nA q.nn q.nc, .slice q.sA q.sn q.sc, .slice q.aA q.an q.ac, .slice q.tA q.tn q.tc] 27) = W0 := ⟨_, rfl⟩
    have hBW : Below w.heap.size w W0 := hW0 ▸ (Below.refl _ w).alloc (Nat.le_refl _) _
    have hb0 : QBox q w.heap.size W0 := ⟨hW0 ▸ World.alloc_heap_new _ _⟩
    have HBW := hidp hBW
    have HB0 := hidp hb0
    have HW0 := hidp hW0
    obtain ⟨x0, x1, x2, x3, l0⟩ := hb0.cells
    clear hBW hb0 hq hl hv hr hm hn hbnd hd hW0
    go_enter Tryz.func35, Tryz.ntmps35
    go_wp2_with fail
    rw [HW0.out]
    refine (r51fulfil_any q FA fn fc l A n c vs _ (HQu.out _ HBW.out) (HFa.out _ HBW.out) (HV.out _ HBW.out) HVar.out HTe.out).mono ?_
    rintro e w1 ⟨rfl, hk1⟩
    have HB1 := hidp (HBW.out.trans (hk1.mono HBW.out.size))
    have hb1 := HB0.out.later hk1
    have HQ1 := hidp hb1
    clear x0 x1 x2 x3 l0 hk1
    obtain ⟨x0, x1, x2, x3, l0⟩ := hb1.cells
    clear hb1
    obtain ⟨ok, hok⟩ : ∃ b, holdsJ q l vs = b := ⟨_, rfl⟩
    rw [hok]
    have HOk := hidp hok
    clear hok
    cases ok
    · have HE : Hid (insAll ls ((allJ q l D 0 vs).map (showJ q)) = ls) := by show _ = _; unfold allJ; rw [HOk.out]; rfl
      go_wp2_with fail
      go_ret
      exact ⟨_, _, _, rfl, by rw [HE.out]; exact HRw.out.keep HB1.out, HB1.out⟩
    have HE : Hid (insAll ls ((allJ q l D 0 vs).map (showJ q)) = ins lexJ (showJ q vs) ls) := by show _ = _; unfold allJ; rw [HOk.out]; rfl
    clear x0 x1 x2 x3 l0
    go_wp2_with fail
    go_loopw [12, 13] (fun v i wr => ∃ (k : Nat) (v9 : Value), k ≤ q.sn ∧ i = .int .i64 k ∧ v = v9 ∧ wr.ownsRow w1.heap.size 3 1 v9 k ((showP q vs k).flatMap iEnc) ∧ QBox q w.heap.size wr ∧ Below w1.heap.size w1 wr) (fun _ i _ => q.sn - (intOf i).toNat)
    case atStart => exact ⟨0, _, by omega, rfl, rfl, own_empty w1 w1.heap.size 1 3 (Nat.le_refl _), HQ1.out.later ((Below.refl _ _).alloc (Nat.le_refl _) _), (Below.refl _ _).alloc (Nat.le_refl _) _⟩
    case round =>
    obtain ⟨k, v9, hk, rfl, rfl, hown, hqb, hbe⟩ := hrel
    obtain ⟨x0, x1, x2, x3, l0⟩ := hqb.cells
    have hbw := HB1.out.trans (hbe.mono HB1.out.size)
    by_cases hks : k < q.sn
    · obtain ⟨bs, os, sh, hA, _, hsh, c0⟩ := iSl.get (HQu.out wr hbw).2.1 hks
      have hshr := HR.out sh (List.mem_of_getElem? hsh)
      obtain ⟨shn, rfl⟩ : ∃ n : Nat, sh = n := ⟨sh.toNat, by omega⟩
      have hshx : shn < n := by omega
      obtain ⟨bv, ov, y, hA7, hbv, hy, d0⟩ := iSl.get (HV.out wr hbw) hshx
      have hstep := showP_step (vs := vs) hsh
      rw [Int.toNat_natCast, List.getD_eq_getElem?_getD, hy] at hstep
      simp only [Option.getD_some] at hstep
      have hixs := fun W => ix_Ints (c := q.sc) hA hks W
      have hixv := fun W => ix_Ints (c := c) hA7 hshx W
      simp only [Nat.mul_one] at hixs hixv
      have hpl : (showP q vs k).length = k := showP_len (by have := HSn.out; omega)
      obtain ⟨A9, c9, rfl, _⟩ := own_rows iEnc_len (by decide) hown
      have hown1 : wr.ownsRow w1.heap.size 3 1 (.slice A9 k c9) (showP q vs k).length ((showP q vs k).flatMap iEnc) := by rw [hpl]; exact hown
      have hzr := hbe.size
      obtain ⟨v5, w5', hrun, hown5, hg5, hat5⟩ := run_append_one (P := Tryz.prog) (ty := 23) (l := showP q vs k) (enc := iEnc) (w := wr) (base := w1.heap.size) Tryz.underlying23 hi hz hss hbb rfl iEnc_len (by decide) iEnc_one hown1 y (by rw [hpl]; omega) (by rw [hpl]; omega) (by omega)
      rw [hpl] at hown5
      obtain ⟨A5, c5, rfl, _⟩ := own_rows iEnc_len (by decide) hown5
      have hne : ∀ g, (Value.slice A9 k c9).ownBlock = some g → g ≠ w.heap.size := fun g hg e => by
        obtain ⟨cs, hcs⟩ := own_kind hown hg
        rw [e, hqb.box] at hcs
        injection hcs with hcs
        injection hcs with _ hcs
        exact absurd hcs (by decide)
      have hb5 : Below w1.heap.size wr w5' := ((Below.refl _ _).alloc hzr _).grown hg5 (by simp; omega) fun g hg => (hown.lt g hg).1
      have hqb5 : QBox q w.heap.size w5' := ⟨((hg5.block _ (by simp; omega) (fun e => hne _ e.symm rfl)).trans (Below.heap_alloc _ _ _ l0)).trans hqb.box⟩
      have lb := lt_of_cell c0
      have lv := lt_of_cell d0
      have hks' : (k : Int) < q.sn := by omega
      have hsn0 : (0 : Int) ≤ shn := by omega
      have hsn1 : (shn : Int) < n := by omega
      have HR5 := hidp hrun
      have HO5 := hidp hown5
      have HB5' := hidp (hbe.trans hb5)
      have HQ5 := hidp hqb5
      have HST := hidp hstep
      clear hrun hown5 hb5 hstep hpl hown hown1 hg5 hat5 hA hA7 hsh hy hbe hzr hshr hqb hqb5 hne hbw
      go_wp2_with (at_builtin; refine wpList_append_known rfl (.tmp 55) (.tmp 64) 23 rfl rfl rfl HR5.out ?_)
      go_roundw
      case rel => exact ⟨k + 1, _, by omega, by go_num, rfl, by rw [HST.out]; exact HO5.out, HQ5.out, HB5'.out⟩
      case measure => simp [intOf]; omega
    · obtain rfl : k = q.sn := by omega
      have hkk : ¬ ((q.sn : Int) < q.sn) := by omega
      have hSJ : showP q vs q.sn = showJ q vs := by rw [HSn.out]; exact showP_all q vs
      rw [hSJ] at hown
      have hl2 : (showJ q vs).length = q.sn := by rw [showJ_len, HSn.out]
      obtain ⟨A9, c9, rfl, hrs⟩ := own_rows iEnc_len (by decide) hown
      have HRow : Hid (Calls Tryz.prog 82 #[.slice RA rn rc, .slice A9 q.sn c9] wr (RPostJ (ins lexJ (showJ q vs) ls) wr)) := by
        have h := r51row_any RA A9 rn rc c9 ls (showJ q vs) wr (HRw.out.keep hbw) (fun r hr => by rw [HM.out r hr, showJ_len]) (by rw [hl2]; exact hrs) (by have := HRw.out.len.1; have := HBnd.out; omega)
        rw [hl2] at h
        exact h
      have HBw := hidp hbw
      clear hSJ hown hrs hbe hqb hl2 hbw
      go_wp2_with fail
      refine HRow.out.mono ?_
      rintro e w6 ⟨A6, n6, c6, rfl, hr6, hb6⟩
      have HB6 := hidp (HBw.out.trans (hb6.mono HBw.out.size))
      have HR6 := hidp hr6
      clear x0 x1 x2 x3 l0 hr6 hb6
      go_wp2_with fail
      go_ret
      exact ⟨_, _, _, rfl, by rw [HE.out]; exact HR6.out, HB6.out⟩
  | succ k ih =>
    intro A n c vs RA rn rc ls w hq hl hd hv hr hm hn hbnd
    have HIH := hidp ih
    obtain ⟨i0, hi, hz, hss, hbb⟩ := info_parts iInfo
    have HQu : Hid (∀ W, Below w.heap.size w W → QuIn q W W.heap.size) := fun W hb => hq.keep hb.size hb.block
    have HFa : Hid (∀ W, Below w.heap.size w W → fSl W W.heap.size FA fn fc l) := fun W h => hl.keep (Rep.flat_stable _) h.size h.block
    have HD : Hid (∀ W, Below w.heap.size w W → iSl W W.heap.size DA dn dc D) := fun W h => hd.keep (Rep.flat_stable _) h.size h.block
    have HV : Hid (∀ W, Below w.heap.size w W → iSl W W.heap.size A n c vs) := fun W h => hv.keep (Rep.flat_stable _) h.size h.block
    have HM := hidp hm
    have HNn := hidp hn
    have HBnd := hidp hbnd
    have HDn := hidp hd.1
    have HNm : Hid (q.nn = q.names.length) := hq.1.1
    have hn8 : n ≤ 8 := by have := check_nn HCk.out; have := HNm.out; omega
    have hdc := hd.2.1
    have hdcc := hd.2.2.1
    have hnc := hv.2.1
    have hcc := hv.2.2.1
    have hlt : (n : Int) < q.nn := by omega
    have HRw := hidp hr
    obtain ⟨W0, hW0⟩ : ∃ W0, w.alloc (.cells #[.slice q.nA q.nn q.nc, .slice q.sA q.sn q.sc, .slice q.aA q.an q.ac, .slice q.tA q.tn q.tc] 27) = W0 := ⟨_, rfl⟩
    have hBW : Below w.heap.size w W0 := hW0 ▸ (Below.refl _ w).alloc (Nat.le_refl _) _
    have hb0 : QBox q w.heap.size W0 := ⟨hW0 ▸ World.alloc_heap_new _ _⟩
    have HBW := hidp hBW
    have HB0 := hidp hb0
    have HW0 := hidp hW0
    obtain ⟨x0, x1, x2, x3, l0⟩ := hb0.cells
    clear hBW hb0 hq hl hv hr hm hn hbnd hd hW0 ih
    go_enter Tryz.func35, Tryz.ntmps35
    go_wp2_with fail
    rw [HW0.out]
    clear x0 x1 x2 x3 l0
    go_loopw [4, 11] (fun v i wr => ∃ (j : Nat) (v9 : Value), j ≤ dn ∧ i = .int .i64 j ∧ v = v9 ∧ (∃ A4 n4 c4, v9 = .slice A4 n4 c4 ∧ RowsIn wr A4 n4 c4 (insAll ls (((D.take j).flatMap fun x => allJ q l D k (vs ++ [x])).map (showJ q)))) ∧ QBox q w.heap.size wr ∧ Below w.heap.size w wr) (fun _ i _ => dn - (intOf i).toNat)
    case atStart => exact ⟨0, _, by omega, rfl, rfl, ⟨RA, rn, rc, rfl, HRw.out.keep HBW.out⟩, HB0.out, HBW.out⟩
    case round =>
    obtain ⟨j, v9, hj, rfl, rfl, ⟨A4, n4, c4, rfl, hr4⟩, hqb, hbe⟩ := hrel
    have HR4 := hidp hr4
    have HQb := hidp hqb
    have HBe := hidp hbe
    obtain ⟨x0, x1, x2, x3, l0⟩ := hqb.cells
    clear hr4 hqb hbe
    by_cases hjn : j < dn
    · have hjn' : (j : Int) < dn := by omega
      obtain ⟨bd, od, d, hDA, _, hdj, c0⟩ := iSl.get (HD.out wr HBe.out) hjn
      have hix := fun W => ix_Ints (c := dc) hDA hjn W
      simp only [Nat.mul_one] at hix
      have lb := lt_of_cell c0
      obtain ⟨LS, hLS⟩ : ∃ LS, insAll ls (((D.take j).flatMap fun x => allJ q l D k (vs ++ [x])).map (showJ q)) = LS := ⟨_, rfl⟩
      have HStep : Hid (insAll ls (((D.take (j + 1)).flatMap fun x => allJ q l D k (vs ++ [x])).map (showJ q)) = insAll LS ((allJ q l D k (vs ++ [d])).map (showJ q))) := by
        show _ = _
        rw [take_snoc hdj, List.flatMap_append, List.map_append, insAll_app, hLS]
        simp
      have HLm : Hid (∀ r ∈ LS, r.length = q.shows.length) := fun r hr => insAll_rows _ _ HM.out all_show r (by rw [hLS]; exact hr)
      have HLb : Hid (LS.length + dn ^ k ≤ 1000000) := by
        show _ ≤ _
        have h1 := insAll_len (((D.take j).flatMap fun x => allJ q l D k (vs ++ [x])).map (showJ q)) ls
        rw [hLS, List.length_map] at h1
        have h2 := flat_bound (F := fun x => allJ q l D k (vs ++ [x])) (m := dn ^ k) (fun x => by rw [HDn.out]; exact allJ_len q l D k _) (D.take j)
        have h3 := HBnd.out
        rw [Nat.pow_succ, Nat.mul_comm] at h3
        have h4 : (D.take j).length = j := by rw [List.length_take, ← HDn.out]; omega
        rw [h4] at h2
        have h5 : j * dn ^ k + dn ^ k ≤ dn * dn ^ k := by rw [← Nat.succ_mul]; exact Nat.mul_le_mul_right _ hjn
        omega
      have HR5 : Hid (∀ W, Below wr.heap.size wr W → RowsIn W A4 n4 c4 LS) := fun W h => (hLS ▸ HR4.out).keep h
      have HBW9 : Hid (∀ W, Below wr.heap.size wr W → Below w.heap.size w W) := fun W h => HBe.out.trans (h.mono HBe.out.size)
      clear hdj hDA hLS
      go_wp2_with fail
      refine wp_region_QS (wr.heap.size) (fun k => k == 11) (fun k => k == 3 || k == 5 || k == 10 || k == 11 || k == 13 || k == 14) (fun k => k == 3 || k == 4 || k == 5 || k == 6 || k == 7 || k == 8 || k == 9 || k == 10 || k == 11) (Nat.le_refl _) (by kernel_rfl) (by kernel_rfl) (by kernel_rfl) (by kernel_rfl) ?_
      apply qs_det (mask := []) (S := (Below (wr.heap.size) wr)) (m := (fun w => w.heap.size)) (x := .agg #[.slice q.nA q.nn q.nc, .slice q.sA q.sn q.sc, .slice q.aA q.an q.ac, .slice q.tA q.tn q.tc]) (hS := by rfl) (hm := by rfl) (hg := by kernel_rfl) (hk := by kernel_rfl)
      · dsimp only [oblS]
        rintro w9 h9
        have hc9 := (bcell h9).1
        go_simp
        exact ⟨Below.refl _ _, rfl⟩
      dsimp only [List.nil_append, List.cons_append]
      apply qs_det (mask := [false]) (S := (Below (wr.heap.size) wr)) (m := (fun w => w.heap.size)) (hS := by rfl) (hm := by rfl) (hg := by kernel_rfl) (hk := by kernel_rfl)
      · dsimp only [oblS]
        rintro w9 h9
        go_simp
        exact ⟨Below.refl _ _, rfl⟩
      dsimp only [List.nil_append, List.cons_append]
      apply qs_det (mask := [false, false]) (S := (Below (wr.heap.size) wr)) (m := (fun w => w.heap.size)) (hS := by rfl) (hm := by rfl) (hg := by kernel_rfl) (hk := by kernel_rfl)
      · dsimp only [oblS]
        rintro w9 h9
        go_simp
        exact ⟨Below.refl _ _, rfl⟩
      dsimp only [List.nil_append, List.cons_append]
      apply qs_any (mask := [false, false, false]) (S := (Below wr.heap.size wr)) (m := (fun w => w.heap.size)) (T := fun v W => ∃ g, v = .slice (some ⟨g, 0, none⟩) 0 0 ∧ wr.heap.size ≤ g ∧ W.heap[g]? = some (.cells #[] 3 (0, 0))) (hT := fun v w w' hb ⟨g, hv, hg, hh⟩ => ⟨g, hv, hg, (hb.block _ (lt_of_heap hh)).trans hh⟩) (hf := by kernel_rfl) (hS := by rfl) (hm := by rfl) (hg := by kernel_rfl) (hk := by kernel_rfl)
      · dsimp only [oblS]
        rintro w9 h9 T' hT'
        go_simp
        exact ⟨(Below.refl _ w9).alloc (Nat.le_refl _) _, hT' _ _ ⟨_, rfl, h9.size, World.alloc_heap_new w9 _⟩⟩
      dsimp only [List.nil_append, List.cons_append]
      apply qs_det (mask := [false, false, false, false]) (S := (Below wr.heap.size wr)) (m := (fun w => w.heap.size)) (hS := by rfl) (hm := by rfl) (hg := by kernel_rfl) (hk := by kernel_rfl)
      · dsimp only [oblS]
        rintro w9 h9
        go_simp
        exact ⟨Below.refl _ _, rfl⟩
      dsimp only [List.nil_append, List.cons_append]
      apply qs_any (mask := [false, false, false, true, true]) (S := (Below wr.heap.size wr)) (m := (fun w => w.heap.size)) (T := fun v W => ∃ A c, v = .slice A n c ∧ W.ownsRow wr.heap.size 3 1 v n (vs.flatMap iEnc)) (hT := fun v w w' hb ⟨A, c, e, h⟩ => ⟨A, c, e, own_keepB h fun g hg => hb.block g (h.lt g hg).2⟩) (hf := by kernel_rfl) (hS := by rfl) (hm := by rfl) (hg := by kernel_rfl) (hk := by kernel_rfl)
      · dsimp only [oblS]
        intro v29
        rintro w9 ⟨h9, t29⟩ T' hT'
        obtain ⟨g, e0, hgw, hg0⟩ := t29
        subst e0
        obtain ⟨v', w', hrun, hown', hb'⟩ := run_append_emptyK (P := Tryz.prog) (ty := 23) (enc := iEnc) (base := wr.heap.size) Tryz.underlying23 hi hz hss hbb rfl iEnc_len (by decide) iEnc_one hg0 hgw (HV.out w9 (HBW9.out w9 h9)) (by omega) (by omega)
        obtain ⟨A', c', e', _⟩ := own_rows iEnc_len (by decide) hown'
        exact relUpon_append (.tmp 29) (.tmp 30) 23 rfl rfl rfl hrun hb' (hT' _ _ ⟨A', c', e', hown'⟩)
      dsimp only [List.nil_append, List.cons_append]
      apply qs_det (mask := [false, false, false, false, false, false]) (S := (Below wr.heap.size wr)) (m := (fun w => w.heap.size)) (hS := by rfl) (hm := by rfl) (hg := by kernel_rfl) (hk := by kernel_rfl)
      · dsimp only [oblS]
        rintro w9 h9
        go_simp
        exact ⟨Below.refl _ _, rfl⟩
      dsimp only [List.nil_append, List.cons_append]
      apply qs_det (mask := [false, false, false, false, false, false, false]) (S := (Below wr.heap.size wr)) (m := (fun w => w.heap.size)) (hS := by rfl) (hm := by rfl) (hg := by kernel_rfl) (hk := by kernel_rfl)
      · dsimp only [oblS]
        rintro w9 h9
        go_simp
        exact ⟨Below.refl _ _, rfl⟩
      dsimp only [List.nil_append, List.cons_append]
      apply qs_det (mask := [false, false, false, false, false, false, true, true]) (S := (Below wr.heap.size wr)) (m := (fun w => w.heap.size)) (hS := by rfl) (hm := by rfl) (hg := by kernel_rfl) (hk := by kernel_rfl)
      · dsimp only [oblS]
        rintro w9 h9
        go_simp
        exact ⟨Below.refl _ _, rfl⟩
      dsimp only [List.nil_append, List.cons_append]
      apply qs_det (mask := [false, false, false, false, false, false, false, false, true]) (S := (Below wr.heap.size wr)) (m := (fun w => w.heap.size)) (x := .int .i64 d) (hS := by rfl) (hm := by rfl) (hg := by kernel_rfl) (hk := by kernel_rfl)
      · dsimp only [oblS]
        rintro w9 h9
        have hc9 := (bcell h9).1
        go_simp
        exact ⟨Below.refl _ _, rfl⟩
      dsimp only [List.nil_append, List.cons_append]
      apply qs_any (mask := [false, false, false, false, false, false, false, false, false, true]) (S := (Below wr.heap.size wr)) (m := (fun w => w.heap.size)) (T := fun v W => ∃ g, v = .slice (some ⟨g, 0, none⟩) 1 1 ∧ W.heap[g]? = some (.cells #[.int .i64 d] 3 (0, 0))) (hT := fun v w w' hb ⟨g, hv, hh⟩ => ⟨g, hv, (hb.block _ (lt_of_heap hh)).trans hh⟩) (hf := by kernel_rfl) (hS := by rfl) (hm := by rfl) (hg := by kernel_rfl) (hk := by kernel_rfl)
      · dsimp only [oblS]
        rintro w9 h9 T' hT'
        go_simp
        exact ⟨(Below.refl _ w9).alloc (Nat.le_refl _) _, hT' _ _ ⟨_, rfl, World.alloc_heap_new w9 _⟩⟩
      dsimp only [List.nil_append, List.cons_append]
      apply qs_any (mask := [false, false, false, false, false, true, false, false, false, false, true]) (S := (Below wr.heap.size wr)) (m := (fun _ => wr.heap.size)) (T := fun v W => ∃ A c, v = .slice A (n + 1) c ∧ iSl W W.heap.size A (n + 1) c (vs ++ [d])) (hT := fun v w w' hb ⟨A, c, e, h⟩ => ⟨A, c, e, h.keep (Rep.flat_stable _) hb.size hb.block⟩) (hf := by kernel_rfl) (hS := by rfl) (hm := by rfl) (hg := by kernel_rfl) (hk := by kernel_rfl)
      · dsimp only [oblS]
        intro v31 v36
        rintro w9 ⟨⟨h9, t31⟩, t36⟩ T' hT'
        obtain ⟨A3, c3, e3, ho3⟩ := t31
        subst e3
        obtain ⟨g, e0, hg0⟩ := t36
        subst e0
        have rw9 : Rows 1 (Rep.flat iEnc) w9 w9.heap.size (some ⟨g, 0, none⟩) 1 1 [d] := rows_of_heap (l := [d]) iEnc_len hg0 (Nat.le_refl _) (by decide) rfl
        obtain ⟨v', w', hrun, hown', hg', hat⟩ := run_append_rows (P := Tryz.prog) (ty := 23) (enc := iEnc) Tryz.underlying23 hi hz hss hbb rfl iEnc_len (by decide) iEnc_one ho3 rw9 (by omega) (by omega) (by have := h9.size; omega)
        have hb9 : Below wr.heap.size w9 w' := (Below.refl _ _).grown hg' (by have := h9.size; omega) fun g e => (ho3.lt g e).1
        obtain ⟨A', c', e', hr'⟩ := own_rows iEnc_len (by decide) hown'
        exact relUpon_append (.tmp 31) (.tmp 36) 23 rfl rfl rfl hrun hb9 (hT' _ _ ⟨A', c', e', hr'⟩)
      dsimp only [List.nil_append, List.cons_append]
      apply qs_det (mask := [false, false, false, false, false, false, false, false, false, false, false, false]) (S := (Below (wr.heap.size) wr)) (m := (fun w => w.heap.size)) (hS := by rfl) (hm := by rfl) (hg := by kernel_rfl) (hk := by kernel_rfl)
      · dsimp only [oblS]
        rintro w9 h9
        go_simp
        exact ⟨Below.refl _ _, rfl⟩
      dsimp only [List.nil_append, List.cons_append]
      apply qs_any (mask := [true, true, true, false, false, false, false, false, false, false, false, true, true]) (S := (Below (wr.heap.size) wr)) (m := (fun w => w.heap.size)) (T := fun v W => ∃ A n c, v = .slice A n c ∧ RowsIn W A n c (insAll LS ((allJ q l D k (vs ++ [d])).map (showJ q)))) (hT := fun v w w' hb ⟨A, n, c, e, h⟩ => ⟨A, n, c, e, h.keep hb⟩) (hf := by kernel_rfl) (hS := by rfl) (hm := by rfl) (hg := by kernel_rfl) (hk := by kernel_rfl)
      · dsimp only [oblS]
        intro v37
        rintro w9 ⟨h9, t37⟩ T' hT'
        obtain ⟨A7, c7, e7, hr7⟩ := t37
        subst e7
        go_simp
        refine (HIH.out A7 (n + 1) c7 (vs ++ [d]) A4 n4 c4 LS w9 (HQu.out _ (HBW9.out w9 h9)) (HFa.out _ (HBW9.out w9 h9)) (HD.out _ (HBW9.out w9 h9)) hr7 (HR5.out w9 h9) HLm.out (by have := HNn.out; omega) HLb.out).mono ?_
        rintro e w7 ⟨A6, n6, c6, rfl, hr6, hb6⟩
        exact ⟨_, rfl, hb6, hT' _ _ ⟨A6, n6, c6, rfl, hr6⟩⟩
      dsimp only [List.nil_append, List.cons_append]
      apply qs_any (mask := [false, false, false, false, false, false, false, false, false, false, false, false, true, true]) (S := (Below (wr.heap.size) wr)) (m := (fun w => w.heap.size)) (T := fun v W => ∃ A n c, v = .slice A n c ∧ RowsIn W A n c (insAll LS ((allJ q l D k (vs ++ [d])).map (showJ q)))) (hT := fun v w w' hb ⟨A, n, c, e, h⟩ => ⟨A, n, c, e, h.keep hb⟩) (hf := by kernel_rfl) (hS := by rfl) (hm := by rfl) (hg := by kernel_rfl) (hk := by kernel_rfl)
      · dsimp only [oblS]
        intro v39
        rintro w9 ⟨h9, t39⟩ T' hT'
        go_simp
        exact ⟨Below.refl _ _, hT' _ _ t39⟩
      dsimp only [List.nil_append, List.cons_append]
      refine qs_end [false, false, false, true, false, true, false, false, false, false, true, false, false, false, false] (by kernel_rfl) (by kernel_rfl) ?_
      dsimp only [finQ]
      rintro v29 v31 v36 v37 v39 v4 w8 ⟨⟨⟨hb8, _⟩, _⟩, A8, n8, c8, rfl, hr8⟩
      have HR8 := hidp hr8
      have HQ8 := hidp (HQb.out.later hb8)
      have HB8 := hidp (HBW9.out _ hb8)
      clear x0 x1 x2 x3 l0 c0 lb hix hr8 hb8
      go_simp
      go_wp2_with fail
      go_roundw
      case rel => exact ⟨j + 1, _, by omega, by go_num, rfl, ⟨A8, n8, c8, rfl, by rw [HStep.out]; exact HR8.out⟩, HQ8.out, HB8.out⟩
      case measure => simp [intOf]; omega
    have hje : j = dn := by omega
    subst hje
    have hkk : ¬ ((j : Int) < j) := by omega
    have HE : Hid (RowsIn wr A4 n4 c4 (insAll ls ((allJ q l D (k + 1) vs).map (showJ q)))) := by
      have h := HR4.out
      rw [List.take_of_length_le (by rw [← HDn.out]; exact Nat.le_refl _)] at h
      exact h
    go_wp2_with fail
    go_ret
    exact ⟨_, _, _, rfl, HE.out, HBe.out⟩
end Go.Proofs.YtbegdcjofnfkiaaGreatDoor

end
section
/- The reference's Rows and Count (printed by tools/gen126.py). -/
namespace Go.Proofs.YtbegdcjofnfkiaaGreatDoor
open Go.RowKit Go.Shelf Go.Sort

theorem rowsV_ins {q : Qu} {l : List Fc} (h : checkJ wdJ q = true) : rowsV q l = insAll [] ((allJ q l (domR l) q.names.length []).map (showJ q)) := by
  rw [rowsV_ok h, rows_eqJ (check_vars h)]; rfl
set_option maxRecDepth 100000 in
set_option maxHeartbeats 4000000 in
theorem r51Rows_any (q : Qu) (FA : Option Addr) (fn fc : Nat) (l : List Fc) (w : World) (hq : QuIn q w w.heap.size) (hl : fSl w w.heap.size FA fn fc l) (hfn : fn ≤ 100000) (hsz : (domR l).length ^ q.names.length ≤ 4096) :
    Calls Tryz.prog 14 #[.agg #[.slice q.nA q.nn q.nc, .slice q.sA q.sn q.sc, .slice q.aA q.an q.ac, .slice q.tA q.tn q.tc], .slice FA fn fc] w fun e w' => ∃ A n c, e = .returned (.tuple #[.slice A n c, .int .i64 (rowsE q)]) ∧ RowsIn w' A n c (rowsV q l) ∧ Below w.heap.size w w' := by
  have HQu : Hid (∀ W, Below w.heap.size w W → QuIn q W W.heap.size) := fun W hb => hq.keep hb.size hb.block
  have HFa : Hid (∀ W, Below w.heap.size w W → fSl W W.heap.size FA fn fc l) := fun W h => hl.keep (Rep.flat_stable _) h.size h.block
  have HFn := hidp hfn
  have HSz := hidp hsz
  have HNm : Hid (q.nn = q.names.length) := hq.1.1
  obtain ⟨W0, hW0⟩ : ∃ W0, w.alloc (.cells #[.slice q.nA q.nn q.nc, .slice q.sA q.sn q.sc, .slice q.aA q.an q.ac, .slice q.tA q.tn q.tc] 27) = W0 := ⟨_, rfl⟩
  have hBW : Below w.heap.size w W0 := hW0 ▸ (Below.refl _ w).alloc (Nat.le_refl _) _
  have hb0 : QBox q w.heap.size W0 := ⟨hW0 ▸ World.alloc_heap_new _ _⟩
  have HBW := hidp hBW
  have HB0 := hidp hb0
  have HW0 := hidp hW0
  obtain ⟨x0, x1, x2, x3, l0⟩ := hb0.cells
  clear hBW hb0 hq hl hW0 hsz hfn
  go_enter Tryz.func14, Tryz.ntmps14
  go_wp2_with fail
  rw [HW0.out]
  refine (r50Check_any q _ (HQu.out _ HBW.out)).mono ?_
  rintro e w1 ⟨rfl, hk1⟩
  have hb1 := HB0.out.later hk1
  have HB1 := hidp (HBW.out.trans (hk1.mono HBW.out.size))
  have HQ1 := hidp hb1
  clear x0 x1 x2 x3 l0 hk1 hb1
  obtain ⟨x0, x1, x2, x3, l0⟩ := HQ1.out.cells
  obtain ⟨ck, hck⟩ : ∃ b, checkJ wdJ q = b := ⟨_, rfl⟩
  rw [hck]
  have HCk := hidp hck
  clear hck
  cases ck
  · have HR : Hid (rowsV q l = [] ∧ rowsE q = 500) := by show _ ∧ _; unfold rowsV rowsE; rw [HCk.out]; exact ⟨rfl, rfl⟩
    simp only [okE]
    go_wp2_with fail
    go_ret2
    exact ⟨none, 0, 0, by rw [HR.out.2]; rfl, by rw [HR.out.1]; exact rowsIn_nil _, HB1.out⟩
  have HR : Hid (rowsV q l = insAll [] ((allJ q l (domR l) q.nn []).map (showJ q)) ∧ rowsE q = 0) := by
    show _ ∧ _
    refine ⟨?_, by unfold rowsE; rw [HCk.out]; rfl⟩
    rw [HNm.out]
    exact rowsV_ins HCk.out
  have HBd : Hid ((insAll [] ((allJ q l (domR l) q.nn []).map (showJ q))).length ≤ 4096) := by
    show _ ≤ _
    have h1 := insAll_len ((allJ q l (domR l) q.nn []).map (showJ q)) []
    have h2 := allJ_len q l (domR l) q.nn []
    have h3 := HSz.out
    rw [← HNm.out] at h3
    rw [List.length_map, List.length_nil] at h1
    omega
  have HBW9 : Hid (∀ W, Below w1.heap.size w1 W → Below w.heap.size w W) := fun W h => HB1.out.trans (h.mono HB1.out.size)
  simp only [okE]
  go_wp2_with fail
  refine wp_region_S w1.heap.size 6 (fun _ => false) (Nat.le_refl _) (by kernel_rfl) (by kernel_rfl) (by kernel_rfl) ?_
  dsimp only [List.take, List.drop]
  apply relS_det (mask := []) (x := .agg #[.slice q.nA q.nn q.nc, .slice q.sA q.sn q.sc, .slice q.aA q.an q.ac, .slice q.tA q.tn q.tc])
  · rfl
  · kernel_rfl
  · kernel_rfl
  · dsimp only [oblS]
    rintro w9 h9
    have hc9 := (bcell h9).1
    go_simp
    exact ⟨Below.refl _ _, rfl⟩
  dsimp only [List.nil_append, List.cons_append]
  apply relS_det (mask := [false])
  · rfl
  · kernel_rfl
  · kernel_rfl
  · dsimp only [oblS]
    rintro w9 h9
    go_simp
    exact ⟨Below.refl _ _, rfl⟩
  dsimp only [List.nil_append, List.cons_append]
  apply relS_det (mask := [false, false])
  · rfl
  · kernel_rfl
  · kernel_rfl
  · dsimp only [oblS]
    rintro w9 h9
    go_simp
    exact ⟨Below.refl _ _, rfl⟩
  dsimp only [List.nil_append, List.cons_append]
  apply relS_any (mask := [false, false, true]) (T := fun v W => ∃ A n c, v = .slice A n c ∧ iSl W W.heap.size A n c (domR l)) (hT := fun v w w' hb ⟨A, n, c, e, h⟩ => ⟨A, n, c, e, h.keep (Rep.flat_stable _) hb.size hb.block⟩)
  · rfl
  · kernel_rfl
  · kernel_rfl
  · dsimp only [oblS]
    rintro w9 h9 T' hT'
    go_simp
    refine (rDomain_any FA fn fc l w9 (HFa.out _ (HBW9.out w9 h9)) HFn.out).mono ?_
    rintro e w7 ⟨A5, n5, c5, rfl, h1, h2⟩
    exact ⟨_, rfl, h2, hT' _ _ ⟨A5, n5, c5, rfl, h1⟩⟩
  dsimp only [List.nil_append, List.cons_append]
  apply relS_any (mask := [true, true, false, true]) (T := fun v W => ∃ A n c, v = .slice A n c ∧ RowsIn W A n c (insAll [] ((allJ q l (domR l) q.nn []).map (showJ q)))) (hT := fun v w w' hb ⟨A, n, c, e, h⟩ => ⟨A, n, c, e, h.keep hb⟩)
  · rfl
  · kernel_rfl
  · kernel_rfl
  · dsimp only [oblS]
    intro v16
    rintro w9 ⟨h9, t16⟩ T' hT'
    obtain ⟨A5, n5, c5, e5, h5⟩ := t16
    subst e5
    go_simp
    refine (r51all_any q FA fn fc l A5 n5 c5 (domR l) HCk.out q.nn none 0 0 [] none 0 0 [] w9 (HQu.out _ (HBW9.out w9 h9)) (HFa.out _ (HBW9.out w9 h9)) h5 (Rows.nil (Nat.zero_le _)) (rowsIn_nil _) (fun r hr => by cases hr) (by omega) (by rw [h5.1, HNm.out, List.length_nil]; have := HSz.out; omega)).mono ?_
    rintro e w7 ⟨A6, n6, c6, rfl, h1, h2⟩
    exact ⟨_, rfl, h2, hT' _ _ ⟨A6, n6, c6, rfl, h1⟩⟩
  dsimp only [List.nil_append, List.cons_append]
  apply relS_any (mask := [false, false, false, false, true]) (T := fun v W => ∃ A n c, v = .slice A n c ∧ RowsIn W A n c (insAll [] ((allJ q l (domR l) q.nn []).map (showJ q)))) (hT := fun v w w' hb ⟨A, n, c, e, h⟩ => ⟨A, n, c, e, h.keep hb⟩)
  · rfl
  · kernel_rfl
  · kernel_rfl
  · dsimp only [oblS]
    intro v17
    rintro w9 ⟨h9, t17⟩ T' hT'
    go_simp
    exact ⟨Below.refl _ _, hT' _ _ t17⟩
  dsimp only [List.nil_append, List.cons_append]
  refine relS_end (by rfl) ?_
  dsimp only [finS]
  rintro v16 v17 v7 w8 ⟨⟨⟨hb8, _⟩, _⟩, A8, n8, c8, rfl, hr8⟩
  have HB8 := hidp (HBW9.out _ hb8)
  have hn8 := hr8.len.1
  have hgt : ¬ ((65536 : Int) < n8) := by have := HBd.out; omega
  have HR8 := hidp hr8
  clear x0 x1 x2 x3 l0 hb8 hr8 hn8
  go_simp
  go_wp2_with fail
  go_ret2
  exact ⟨A8, n8, c8, by rw [HR.out.2]; rfl, by rw [HR.out.1]; exact HR8.out, HB8.out⟩
set_option maxRecDepth 100000 in
set_option maxHeartbeats 1000000 in
theorem r51Count_any (q : Qu) (FA : Option Addr) (fn fc : Nat) (l : List Fc) (w : World) (hq : QuIn q w w.heap.size) (hl : fSl w w.heap.size FA fn fc l) (hfn : fn ≤ 100000) (hsz : (domR l).length ^ q.names.length ≤ 4096) :
    Calls Tryz.prog 16 #[.agg #[.slice q.nA q.nn q.nc, .slice q.sA q.sn q.sc, .slice q.aA q.an q.ac, .slice q.tA q.tn q.tc], .slice FA fn fc] w fun e w' => e = .returned (.tuple #[.int .i64 (rowsV q l).length, .int .i64 (rowsE q)]) ∧ Below w.heap.size w w' := by
  obtain ⟨W0, hW0⟩ : ∃ W0, w.alloc (.cells #[.slice q.nA q.nn q.nc, .slice q.sA q.sn q.sc, .slice q.aA q.an q.ac, .slice q.tA q.tn q.tc] 27) = W0 := ⟨_, rfl⟩
  have hBW : Below w.heap.size w W0 := hW0 ▸ (Below.refl _ w).alloc (Nat.le_refl _) _
  have hb0 : QBox q w.heap.size W0 := ⟨hW0 ▸ World.alloc_heap_new _ _⟩
  have hR := r51Rows_any q FA fn fc l W0 (hq.keep hBW.size hBW.block) (hl.keep (Rep.flat_stable _) hBW.size hBW.block) hfn hsz
  have HR := hidp hR
  have HBW := hidp hBW
  have HW0 := hidp hW0
  obtain ⟨x0, x1, x2, x3, l0⟩ := hb0.cells
  clear hBW hb0 hq hl hsz hW0 hR
  go_enter Tryz.func16, Tryz.ntmps16
  go_wp2_with fail
  rw [HW0.out]
  refine HR.out.mono ?_
  rintro e w1 ⟨A, n, c, rfl, hr, hb⟩
  have HN := hidp hr.len.1
  have HB := hidp (HBW.out.trans (hb.mono HBW.out.size))
  clear hr hb x0 x1 x2 x3 l0
  go_wp2_with fail
  go_ret2
  exact ⟨by rw [HN.out]; rfl, HB.out⟩
end Go.Proofs.YtbegdcjofnfkiaaGreatDoor

end
section
/- JoinHoldsSpec and JoinRowsSpec walked (printed by tools/gen126.py). -/
namespace Go.Proofs.YtbegdcjofnfkiaaGreatDoor
open Go.RowKit Go.Shelf Go.Sort

/-- A query without its names. -/
def noNames (q : Qu) : Qu := { q with nA := none, nn := 0, nc := 0, names := [] }
theorem noNames_in {q : Qu} {w : World} {n : Nat} (h : QuIn q w n) : QuIn (noNames q) w n := ⟨Rows.nil (Nat.zero_le _), h.2⟩
set_option maxRecDepth 100000 in
set_option maxHeartbeats 8000000 in
theorem holdsSpec_any (q : Qu) (FA : Option Addr) (fn fc : Nat) (l : List Fc) (A : Option Addr) (n c : Nat) (vs : List Int) (w : World) (hq : QuIn q w w.heap.size) (hw : WordsAt w) (hl : fSl w w.heap.size FA fn fc l) (hv : iSl w w.heap.size A n c vs) :
    Calls Tryz.prog 3 #[.agg #[.slice q.nA q.nn q.nc, .slice q.sA q.sn q.sc, .slice q.aA q.an q.ac, .slice q.tA q.tn q.tc], .slice FA fn fc, .slice A n c] w fun e w' => e = .returned (.bool true) ∧ Below w.heap.size w w' := by
  have HQu : Hid (∀ W, Below w.heap.size w W → QuIn q W W.heap.size) := fun W hb => hq.keep hb.size hb.block
  have HWd : Hid (∀ W, Below w.heap.size w W → WordsAt W) := fun W hb => hw.below hb
  have HFa : Hid (∀ W, Below w.heap.size w W → fSl W W.heap.size FA fn fc l) := fun W h => hl.keep (Rep.flat_stable _) h.size h.block
  have HV : Hid (∀ W, Below w.heap.size w W → iSl W W.heap.size A n c vs) := fun W h => hv.keep (Rep.flat_stable _) h.size h.block
  have HFn := hidp hl.1
  obtain ⟨W0, hW0⟩ : ∃ W0, w.alloc (.cells #[.slice q.nA q.nn q.nc, .slice q.sA q.sn q.sc, .slice q.aA q.an q.ac, .slice q.tA q.tn q.tc] 27) = W0 := ⟨_, rfl⟩
  have hBW : Below w.heap.size w W0 := hW0 ▸ (Below.refl _ w).alloc (Nat.le_refl _) _
  have hb0 : QBox q w.heap.size W0 := ⟨hW0 ▸ World.alloc_heap_new _ _⟩
  have HBW := hidp hBW
  have HB0 := hidp hb0
  have HW0 := hidp hW0
  clear hBW hb0 hq hw hl hv hW0
  go_enter Tryz.func3, Tryz.ntmps3
  go_wp2_with fail
  rw [HW0.out]
  refine (sane_any _ (HWd.out _ HBW.out)).mono ?_
  rintro e w1 ⟨rfl, hb1⟩
  have HB1 := hidp (HBW.out.trans (hb1.mono HBW.out.size))
  have HQ1 := hidp (HB0.out.later hb1)
  obtain ⟨x0, x1, x2, x3, l0⟩ := HQ1.out.cells
  clear hb1
  go_wp2_with fail
  refine (few_any (noNames q) FA fn fc l _ (noNames_in (HQu.out _ HB1.out)) (HFa.out _ HB1.out)).mono ?_
  rintro e w5 ⟨rfl, hb5⟩
  have HB5 := hidp (HB1.out.trans (hb5.mono HB1.out.size))
  have HQ5 := hidp (HQ1.out.later hb5)
  clear x0 x1 x2 x3 l0 hb5
  obtain ⟨x0, x1, x2, x3, l0⟩ := HQ5.out.cells
  obtain ⟨fw, hfw⟩ : ∃ b, fewJ (noNames q) l = b := ⟨_, rfl⟩
  rw [hfw]
  have HFw := hidp hfw
  clear hfw
  cases fw
  · go_wp2_with fail
    go_ret
    exact ⟨rfl, HB5.out⟩
  have hfew : fn ≤ 10 := by
    have h := HFw.out
    unfold fewJ at h
    simp only [Bool.and_eq_true, decide_eq_true_eq] at h
    have h1 := HFn.out
    omega
  by_cases h10 : 10 < q.nn
  · have h10' : (10 : Int) < q.nn := by omega
    go_wp2_with fail
    go_ret
    exact ⟨rfl, HB5.out⟩
  have h10' : ¬ ((10 : Int) < q.nn) := by omega
  by_cases h20 : 20 < n
  · have h20' : (20 : Int) < n := by omega
    go_wp2_with fail
    go_ret
    exact ⟨rfl, HB5.out⟩
  have h20' : ¬ ((20 : Int) < n) := by omega
  go_wp2_with fail
  refine (holds_any q FA fn fc l A n c vs _ (HQu.out _ HB5.out) (HWd.out _ HB5.out) (HFa.out _ HB5.out) (HV.out _ HB5.out)).mono ?_
  rintro e w6 ⟨rfl, hb6⟩
  have HB6 := hidp (HB5.out.trans (hb6.mono HB5.out.size))
  have HQ6 := hidp (HQ5.out.later hb6)
  clear x0 x1 x2 x3 l0 hb6
  obtain ⟨x0, x1, x2, x3, l0⟩ := HQ6.out.cells
  go_wp2_with fail
  refine (r51Holds_any q FA fn fc l A n c vs _ (HQu.out _ HB6.out) (HFa.out _ HB6.out) (HV.out _ HB6.out)).mono ?_
  rintro e w7 ⟨rfl, hb7⟩
  have HB7 := hidp (HB6.out.trans (hb7.mono HB6.out.size))
  clear x0 x1 x2 x3 l0 hb7
  obtain ⟨hv, hhv⟩ : ∃ b, holdV q l vs = b := ⟨_, rfl⟩
  obtain ⟨he, hhe⟩ : ∃ b, holdE q vs = b := ⟨_, rfl⟩
  rw [hhv, hhe]
  have hee : (he == he) = true := by simp
  clear hhv hhe
  have HEnd : Hid (∀ W, Below w.heap.size w W → Calls Tryz.prog 11 #[.slice FA fn fc] W (IntsPost (domR l) W)) := fun W h => domain_any FA fn fc l W (HFa.out _ h) (by omega)
  have HEnd2 : Hid (∀ W, Below w.heap.size w W → Calls Tryz.prog 12 #[.slice FA fn fc] W (IPostJ (domR l) W)) := fun W h => rDomain_any FA fn fc l W (HFa.out _ h) (by omega)
  cases hv
  · go_wp2_with fail
    refine (HEnd.out _ HB7.out).mono ?_
    rintro e w8 ⟨DA, dc, rfl, od, hb8⟩
    have HB8 := hidp (HB7.out.trans (hb8.mono HB7.out.size))
    obtain ⟨dn, hdn⟩ : ∃ dn, (domR l).length = dn := ⟨_, rfl⟩
    rw [hdn] at od ⊢
    have hdr : iSl w8 w8.heap.size DA dn dc (domR l) := by
      obtain ⟨A2, c2, e2, h⟩ := own_rows iEnc_len (by decide) od
      injection e2 with e3 e4 e5
      rw [e3, e5]
      exact h
    have HDr := hidp hdr
    clear od hdn hb8 hdr
    go_wp2_with fail
    refine (HEnd2.out _ HB8.out).mono ?_
    rintro e w9 ⟨EA, en, ec, rfl, he9, hb9⟩
    have HB9 := hidp (HB8.out.trans (hb9.mono HB8.out.size))
    have hsi := r51SameInts_any DA EA dn en dc ec (domR l) (domR l) w9 (HDr.out.keep (Rep.flat_stable _) hb9.size hb9.block) he9
    rw [decide_eq_true (rfl : domR l = domR l)] at hsi
    have HSi := hidp hsi
    clear hsi
    clear he9 hb9
    go_wp2_with fail
    refine HSi.out.mono ?_
    rintro e wz ⟨rfl, hbz⟩
    have HBz := hidp (HB9.out.trans (hbz.mono HB9.out.size))
    clear hbz
    go_wp2_with fail
    go_ret
    exact ⟨rfl, HBz.out⟩
  · go_wp2_with fail
    refine (HEnd.out _ HB7.out).mono ?_
    rintro e w8 ⟨DA, dc, rfl, od, hb8⟩
    have HB8 := hidp (HB7.out.trans (hb8.mono HB7.out.size))
    obtain ⟨dn, hdn⟩ : ∃ dn, (domR l).length = dn := ⟨_, rfl⟩
    rw [hdn] at od ⊢
    have hdr : iSl w8 w8.heap.size DA dn dc (domR l) := by
      obtain ⟨A2, c2, e2, h⟩ := own_rows iEnc_len (by decide) od
      injection e2 with e3 e4 e5
      rw [e3, e5]
      exact h
    have HDr := hidp hdr
    clear od hdn hb8 hdr
    go_wp2_with fail
    refine (HEnd2.out _ HB8.out).mono ?_
    rintro e w9 ⟨EA, en, ec, rfl, he9, hb9⟩
    have HB9 := hidp (HB8.out.trans (hb9.mono HB8.out.size))
    have hsi := r51SameInts_any DA EA dn en dc ec (domR l) (domR l) w9 (HDr.out.keep (Rep.flat_stable _) hb9.size hb9.block) he9
    rw [decide_eq_true (rfl : domR l = domR l)] at hsi
    have HSi := hidp hsi
    clear hsi
    clear he9 hb9
    go_wp2_with fail
    refine HSi.out.mono ?_
    rintro e wz ⟨rfl, hbz⟩
    have HBz := hidp (HB9.out.trans (hbz.mono HB9.out.size))
    clear hbz
    go_wp2_with fail
    go_ret
    exact ⟨rfl, HBz.out⟩
set_option maxRecDepth 100000 in
set_option maxHeartbeats 8000000 in
theorem rowsSpec_any (q : Qu) (FA : Option Addr) (fn fc : Nat) (l : List Fc) (w : World) (hq : QuIn q w w.heap.size) (hw : WordsAt w) (hl : fSl w w.heap.size FA fn fc l) :
    Calls Tryz.prog 4 #[.agg #[.slice q.nA q.nn q.nc, .slice q.sA q.sn q.sc, .slice q.aA q.an q.ac, .slice q.tA q.tn q.tc], .slice FA fn fc] w fun e w' => e = .returned (.bool true) ∧ Below w.heap.size w w' := by
  have HQu : Hid (∀ W, Below w.heap.size w W → QuIn q W W.heap.size) := fun W hb => hq.keep hb.size hb.block
  have HWd : Hid (∀ W, Below w.heap.size w W → WordsAt W) := fun W hb => hw.below hb
  have HFa : Hid (∀ W, Below w.heap.size w W → fSl W W.heap.size FA fn fc l) := fun W h => hl.keep (Rep.flat_stable _) h.size h.block
  have HFn := hidp hl.1
  obtain ⟨W0, hW0⟩ : ∃ W0, w.alloc (.cells #[.slice q.nA q.nn q.nc, .slice q.sA q.sn q.sc, .slice q.aA q.an q.ac, .slice q.tA q.tn q.tc] 27) = W0 := ⟨_, rfl⟩
  have hBW : Below w.heap.size w W0 := hW0 ▸ (Below.refl _ w).alloc (Nat.le_refl _) _
  have hb0 : QBox q w.heap.size W0 := ⟨hW0 ▸ World.alloc_heap_new _ _⟩
  have HBW := hidp hBW
  have HB0 := hidp hb0
  have HW0 := hidp hW0
  clear hBW hb0 hq hw hl hW0
  go_enter Tryz.func4, Tryz.ntmps4
  go_wp2_with fail
  rw [HW0.out]
  refine (sane_any _ (HWd.out _ HBW.out)).mono ?_
  rintro e w1 ⟨rfl, hb1⟩
  have HB1 := hidp (HBW.out.trans (hb1.mono HBW.out.size))
  have HQ1 := hidp (HB0.out.later hb1)
  obtain ⟨x0, x1, x2, x3, l0⟩ := HQ1.out.cells
  clear hb1
  go_wp2_with fail
  refine (few_any q FA fn fc l _ (HQu.out _ HB1.out) (HFa.out _ HB1.out)).mono ?_
  rintro e w5 ⟨rfl, hb5⟩
  have HB5 := hidp (HB1.out.trans (hb5.mono HB1.out.size))
  have HQ5 := hidp (HQ1.out.later hb5)
  clear x0 x1 x2 x3 l0 hb5
  obtain ⟨x0, x1, x2, x3, l0⟩ := HQ5.out.cells
  obtain ⟨fw, hfw⟩ : ∃ b, fewJ q l = b := ⟨_, rfl⟩
  rw [hfw]
  have HFw := hidp hfw
  clear hfw
  cases fw
  · go_wp2_with fail
    go_ret
    exact ⟨rfl, HB5.out⟩
  have hfew : fn ≤ 10 ∧ (domR l).length ^ q.names.length ≤ 4096 := by
    have h := HFw.out
    unfold fewJ at h
    simp only [Bool.and_eq_true, decide_eq_true_eq] at h
    have h1 := HFn.out
    exact ⟨by omega, h.2⟩
  have HFew := hidp hfew
  clear hfew
  have HF5 : Hid (fn ≤ 100000) := by have := HFew.out.1; show _ ≤ _; omega
  go_wp2_with fail
  refine (rows_any q FA fn fc l _ (HQu.out _ HB5.out) (HWd.out _ HB5.out) (HFa.out _ HB5.out) HF5.out (fun _ => few_ful HFew.out.2 rfl)).mono ?_
  rintro e w6 ⟨A1, n1, c1, rfl, hr6, hb6⟩
  have HB6 := hidp (HB5.out.trans (hb6.mono HB5.out.size))
  have HQ6 := hidp (HQ5.out.later hb6)
  have HR6 := hidp hr6
  clear x0 x1 x2 x3 l0 hb6 hr6
  obtain ⟨x0, x1, x2, x3, l0⟩ := HQ6.out.cells
  go_wp2_with fail
  refine (r51Rows_any q FA fn fc l _ (HQu.out _ HB6.out) (HFa.out _ HB6.out) HF5.out HFew.out.2).mono ?_
  rintro e w7 ⟨A2, n2, c2, rfl, hr7, hb7⟩
  have HB7 := hidp (HB6.out.trans (hb7.mono HB6.out.size))
  have HQ7 := hidp (HQ6.out.later hb7)
  have HRa := hidp (HR6.out.keep hb7)
  have HRb := hidp hr7
  clear x0 x1 x2 x3 l0 hb7 hr7
  obtain ⟨x0, x1, x2, x3, l0⟩ := HQ7.out.cells
  go_wp2_with fail
  refine (count_any q FA fn fc l _ (HQu.out _ HB7.out) (HWd.out _ HB7.out) (HFa.out _ HB7.out) HF5.out (fun _ => few_ful HFew.out.2 rfl)).mono ?_
  rintro e w8 ⟨rfl, hb8⟩
  have HB8 := hidp (HB7.out.trans (hb8.mono HB7.out.size))
  have HQ8 := hidp (HQ7.out.later hb8)
  have HRa8 := hidp (HRa.out.keep hb8)
  have HRb8 := hidp (HRb.out.keep hb8)
  clear x0 x1 x2 x3 l0 hb8
  obtain ⟨x0, x1, x2, x3, l0⟩ := HQ8.out.cells
  go_wp2_with fail
  refine (r51Count_any q FA fn fc l _ (HQu.out _ HB8.out) (HFa.out _ HB8.out) HF5.out HFew.out.2).mono ?_
  rintro e w9 ⟨rfl, hb9⟩
  have HB9 := hidp (HB8.out.trans (hb9.mono HB8.out.size))
  have hsm := r51Same_any A1 A2 n1 n2 c1 c2 (rowsV q l) (rowsV q l) w9 (HRa8.out.keep hb9) (HRb8.out.keep hb9)
  rw [decide_eq_true (rfl : rowsV q l = rowsV q l)] at hsm
  have HSm := hidp hsm
  clear hsm
  obtain ⟨rl, hrl⟩ : ∃ b, (((rowsV q l).length : Nat) : Int) = b := ⟨_, rfl⟩
  obtain ⟨re, hre⟩ : ∃ b, rowsE q = b := ⟨_, rfl⟩
  rw [hrl, hre]
  have hee : (re == re) = true := by simp
  have hll : (rl == rl) = true := by simp
  clear x0 x1 x2 x3 l0 hb9 hrl hre
  go_wp2_with fail
  refine HSm.out.mono ?_
  rintro e wz ⟨rfl, hbz⟩
  have HBz := hidp (HB9.out.trans (hbz.mono HB9.out.size))
  clear hbz
  go_wp2_with fail
  go_ret
  exact ⟨rfl, HBz.out⟩
end Go.Proofs.YtbegdcjofnfkiaaGreatDoor

end
