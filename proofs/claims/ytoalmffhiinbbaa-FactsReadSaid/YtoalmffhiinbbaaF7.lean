/- facts.Check walked, and the reference's. -/
import Derived.Test.YtoalmffhiinbbaaF2
import Derived.Test.YtoalmffhiinbbaaF3
import Derived.Test.YtoalmffhiinbbaaF4
import Derived.Test.YtoalmffhiinbbaaF5
namespace Go.Proofs.Ytoalmffhiinbbaa
open Go.RowKit Go.Shelf

theorem sortedB_iff : ∀ (l : List Fc), sortedB l = true ↔ ∀ (i : Nat) (x y : Fc), l[i]? = some x → l[i + 1]? = some y → x.bef y = true
  | [] => by simp [sortedB]
  | [a] => by
    simp only [sortedB, true_iff]
    intro i x y _ h2
    simp at h2
  | a :: b :: l => by
    rw [sortedB, Bool.and_eq_true, sortedB_iff (b :: l)]
    constructor
    · rintro ⟨h1, h2⟩ i x y hx hy
      cases i with
      | zero => simp at hx hy; subst hx hy; exact h1
      | succ i => exact h2 i x y (by simpa using hx) (by simpa using hy)
    · intro h
      exact ⟨h 0 a b rfl rfl, fun i x y hx hy => h (i + 1) x y (by simpa using hx) (by simpa using hy)⟩
def SortedUp (l : List Fc) (k : Nat) : Prop := ∀ (i : Nat) (x y : Fc), i < k → l[i]? = some x → l[i + 1]? = some y → x.bef y = true
theorem SortedUp.zero (l : List Fc) : SortedUp l 0 := fun _ _ _ h => by omega
theorem SortedUp.step {l : List Fc} {k : Nat} {a b : Fc} (h : SortedUp l k) (ha : l[k]? = some a) (hb : l[k + 1]? = some b) (hab : a.bef b = true) : SortedUp l (k + 1) := by
  intro i x y hi hx hy
  rcases Nat.lt_or_ge i k with h1 | h1
  · exact h i x y h1 hx hy
  · obtain rfl : i = k := by omega
    rw [ha] at hx; rw [hb] at hy
    cases hx; cases hy
    exact hab
theorem SortedUp.all {l : List Fc} {k : Nat} (h : SortedUp l k) (hk : l.length ≤ k + 1) : sortedB l = true := by
  rw [sortedB_iff]
  intro i x y hx hy
  refine h i x y ?_ hx hy
  have := (List.getElem?_eq_some_iff.1 hy).1
  omega
theorem sortedB_no {l : List Fc} {k : Nat} {a b : Fc} (ha : l[k]? = some a) (hb : l[k + 1]? = some b) (hab : a.bef b = false) : sortedB l = false := by
  rw [Bool.eq_false_iff]
  intro h
  have := (sortedB_iff l).1 h k a b ha hb
  rw [hab] at this
  cases this
theorem any_not_ok (l : List Fc) : (l.any fun f => !f.ok) = !(l.all Fc.ok) := by
  rw [List.not_all_eq_any_not]
theorem bef_cmp {a b : Fc} {z : Bool} (h : a.bef b = z) : decide (0 ≤ cmpF a b) = !z := by rw [cmpF_ge, h]

set_option maxRecDepth 100000 in
set_option maxHeartbeats 1000000 in
theorem fCheck1_any (a : Fc) (w : World) : Calls Try.prog 37 #[.agg (fEnc a).toArray] w fun e w' => e = .returned (.bool (!a.ok)) ∧ Below w.heap.size w w' := by
  show Calls Try.prog 37 #[.agg #[.int .i64 a.key.kind, .int .i64 a.key.subj, .int .i64 a.key.obj, .int .i64 a.val, .int .i64 a.fr, .int .i64 a.to, .int .i64 a.known, .int .i64 a.no]] w _
  go_enter Try.func37, Try.ntmps37
  go_wp2_with fail
  refine (fits_any a _).mono ?_
  rintro e w1 ⟨rfl, hb1⟩
  go_wp2_with fail
  go_ret
  exact ⟨rfl, ((Below.refl _ w).alloc (Nat.le_refl _) _).trans (hb1.mono (by simp))⟩

set_option maxRecDepth 100000 in
set_option maxHeartbeats 4000000 in
theorem fCheck_any (A : Option Addr) (n c : Nat) (l : List Fc) (w : World) (hl : fSl w w.heap.size A n c l) :
    Calls Try.prog 15 #[.slice A n c] w fun e w' => e = .returned (.int .i64 (checkF l)) ∧ Below w.heap.size w w' := by
  have HN := hidp hl.1
  have hcap := hl.2.2.1
  have hlen := hl.2.1
  obtain ⟨i0, hiE, _, hsE, _⟩ := info_parts fInfo
  obtain ⟨bo, hbo⟩ : ∃ bo, l.all Fc.ok = bo := ⟨_, rfl⟩
  obtain ⟨r, hr⟩ : ∃ r, checkF l = r := ⟨_, rfl⟩
  have HR := hidp hr
  rw [hr]
  clear hr
  have HB := hidp hbo
  clear hbo
  have hcl := fContains_any 37 #[] #[] (fun f => !f.ok) A n c l w hl (enters_of Try.func37 (by kernel_rfl) rfl) (fun m W _ => fCheck1_any m W)
  rw [any_not_ok, HB.out] at hcl
  have HCl := hidp hcl
  clear hcl
  cases bo
  · go_enter Try.func15, Try.ntmps15
    go_wp2_with fail
    refine HCl.out.mono ?_
    rintro e w1 ⟨rfl, hb1⟩
    go_wp2_with fail
    go_ret
    exact ⟨ret_int (by rw [← HR.out, checkF, HB.out]; rfl), hb1⟩
  · by_cases hn : n = 0
    · subst hn
      have h0 : l = [] := List.eq_nil_of_length_eq_zero HN.out.symm
      have HS : Hid (sortedB l = true) := by show _ = _; rw [h0]; rfl
      clear h0
      have hsl := fun W => run_cut_low (P := Try.prog) W Try.underlying22 hiE A 0 c 0 .i64 0 (by omega) (by omega)
      go_enter Try.func15, Try.ntmps15
      go_wp2_with fail
      refine HCl.out.mono ?_
      rintro e w1 ⟨rfl, hb1⟩
      go_wp2_with fail
      go_loop [3, 12] (fun _ i => i = .int .i64 0) (fun _ _ => 0)
      case atStart => rfl
      case round =>
        subst hrel
        go_wp2_with fail
        go_ret
        exact ⟨ret_int (by rw [← HR.out, checkF, HB.out, HS.out]; rfl), hb1⟩
    · have hmin : min (1 : Int) (n : Int) = 1 := by omega
      have hsl := fun W => run_cut_low (P := Try.prog) W Try.underlying22 hiE A n c 1 .i64 1 (by omega) (by omega)
      generalize cutA A c 1 i0.size = A2 at hsl
      go_enter Try.func15, Try.ntmps15
      go_wp2_with fail
      refine HCl.out.mono ?_
      rintro e w1 ⟨rfl, hb1⟩
      go_wp2_with fail
      go_loopw [3, 12] (fun _ i wr => ∃ k : Nat, k ≤ n - 1 ∧ i = .int .i64 k ∧ SortedUp l k ∧ Below w.heap.size w wr) (fun _ i _ => n - 1 - (intOf i).toNat)
      case atStart => exact ⟨0, by omega, rfl, SortedUp.zero l, hb1⟩
      case round =>
        obtain ⟨k, hk, rfl, hno, hbe⟩ := hrel
        have HA := hidp hno
        clear hno
        by_cases hlt : k < n - 1
        · have hl' := hl.below fStable hbe
          obtain ⟨b, off, x, rfl, hb, hzx, c0, c1, c2, c3, c4, c5, c6, c7⟩ := fSl.get hl' (k := k) (by omega)
          obtain ⟨b', off', y, he, hb', hzy, d0, d1, d2, d3, d4, d5, d6, d7⟩ := fSl.get hl' (k := k + 1) (by omega)
          simp only [Option.some.injEq, Addr.mk.injEq, and_true] at he
          obtain ⟨rfl, rfl⟩ := he
          have HX := hidp hzx
          have HY := hidp hzy
          have hin : (k : Int) < n := by omega
          have hin1 : (k : Int) + 1 < n := by omega
          have hwrap : IntKind.i64.wrap ((k : Int) + 1) = (k : Int) + 1 := IntWalk.i64_in _ (by omega)
          have hto : ((k : Int) + 1).toNat = k + 1 := by omega
          have hpos : (0 : Int) ≤ (k : Int) + 1 := by omega
          clear hzx hzy hl'
          have hwb := lt_of_cell c0
          obtain ⟨z, hz⟩ : ∃ z, x.bef y = z := ⟨_, rfl⟩
          have HV := hidp hz
          have HW := hidp (bef_cmp hz)
          clear hz
          go_wp2_with fail
          refine wp_region_below wr.heap.size (by kernel_rfl) (by kernel_rfl) ?_
          repeat
            refine q_step (by rfl) ?_
            apply Exists.intro
            refine ⟨fun w9 h9 => ?_, ?_⟩
            · have hc9 := (bcell h9).1
              go_simp
              first | done | rfl | exact calls_below h9 (Nat.le_refl _) ((fcmp_any x y w9).mono fun _ _ ⟨he, hd⟩ => ⟨he, hd.b⟩)
            go_simp
          refine wpQuiet_nil ?_
          intro w9 hb9
          have hb3 := hbe.trans (hb9.mono hbe.size)
          clear c0 c1 c2 c3 c4 c5 c6 c7 d0 d1 d2 d3 d4 d5 d6 d7 hwrap hto hpos
          rw [HW.out]
          cases z
          · go_wp2_with fail
            go_ret
            refine ⟨ret_int ?_, hb3⟩
            rw [← HR.out, checkF, HB.out, sortedB_no HX.out HY.out HV.out]; rfl
          · go_wp2_with fail
            go_roundw
            case rel => exact ⟨k + 1, by omega, by go_num, HA.out.step HX.out HY.out HV.out, hb3⟩
            case measure => simp [intOf]; omega
        · obtain rfl : k = n - 1 := by omega
          go_wp2_with fail
          go_ret
          refine ⟨ret_int ?_, hbe⟩
          rw [← HR.out, checkF, HB.out, HA.out.all (by rw [← HN.out]; omega)]; rfl

set_option maxRecDepth 100000 in
set_option maxHeartbeats 4000000 in
theorem rCheck_any (A : Option Addr) (n c : Nat) (l : List Fc) (w : World) (hl : fSl w w.heap.size A n c l) :
    Calls Try.prog 16 #[.slice A n c] w fun e w' => e = .returned (.int .i64 (checkF l)) ∧ Below w.heap.size w w' := by
  have HN := hidp hl.1
  have hcap := hl.2.2.1
  have hlen := hl.2.1
  obtain ⟨r, hr⟩ : ∃ r, checkF l = r := ⟨_, rfl⟩
  have HR := hidp hr
  rw [hr]
  clear hr
  go_enter Try.func16, Try.ntmps16
  go_wp2_with fail
  go_loopw [3] (fun i wr => ∃ k : Nat, k ≤ n ∧ i = .int .i64 k ∧ (l.take k).all Fc.ok = true ∧ Below w.heap.size w wr) (fun i _ => n - (intOf i).toNat)
  case atStart => exact ⟨0, by omega, rfl, rfl, Below.refl _ _⟩
  case round =>
    obtain ⟨k, hk, rfl, hno, hbe⟩ := hrel
    have HA := hidp hno
    clear hno
    by_cases hlt : k < n
    · obtain ⟨b, off, x, rfl, hb, hzx, c0, c1, c2, c3, c4, c5, c6, c7⟩ := fSl.get (hl.below fStable hbe) hlt
      have HX := hidp hzx
      clear hzx
      have hwb := lt_of_cell c0
      obtain ⟨z, hz⟩ : ∃ z, x.ok = z := ⟨_, rfl⟩
      have HZ := hidp hz
      clear hz
      go_wp2_with fail
      refine (rValid_any x _).mono ?_
      rintro e w1 ⟨rfl, hb1⟩
      rw [HZ.out]
      have hb2 := hbe.trans (hb1.mono hbe.size)
      clear c0 c1 c2 c3 c4 c5 c6 c7
      cases z
      · go_wp2_with fail
        go_ret
        refine ⟨ret_int ?_, hb2⟩
        have : l.all Fc.ok = false := by
          rw [List.all_eq_false]
          exact ⟨x, List.mem_of_getElem? HX.out, by rw [HZ.out]; simp⟩
        rw [← HR.out, checkF, this]; rfl
      · go_wp2_with fail
        go_roundw
        case rel => exact ⟨k + 1, by omega, by go_num, by rw [take_snoc HX.out, List.all_append, HA.out]; simp [HZ.out], hb2⟩
        case measure => simp [intOf]; omega
    · obtain rfl : k = n := by omega
      have hall : l.all Fc.ok = true := by
        have := HA.out
        rwa [List.take_of_length_le (by rw [← HN.out]; omega)] at this
      have HB := hidp hall
      clear hall HA
      go_wp2_with fail
      go_loopw [4] (fun i wr => ∃ j : Nat, 1 ≤ j ∧ (j ≤ k ∨ j = 1) ∧ i = .int .i64 j ∧ SortedUp l (j - 1) ∧ Below w.heap.size w wr) (fun i _ => k - (intOf i).toNat)
      case atStart => exact ⟨1, by omega, by omega, rfl, SortedUp.zero l, hbe⟩
      case round =>
        obtain ⟨j, hj1, hj, rfl, hno, hb2⟩ := hrel
        have HA := hidp hno
        clear hno
        by_cases hlt : j < k
        · have hl' := hl.below fStable hb2
          obtain ⟨b, off, x, rfl, hb, hzx, c0, c1, c2, c3, c4, c5, c6, c7⟩ := fSl.get hl' (k := j - 1) (by omega)
          obtain ⟨b', off', y, he, hb', hzy, d0, d1, d2, d3, d4, d5, d6, d7⟩ := fSl.get hl' (k := j) (by omega)
          simp only [Option.some.injEq, Addr.mk.injEq, and_true] at he
          obtain ⟨rfl, rfl⟩ := he
          have hzy' : l[j - 1 + 1]? = some y := by rwa [Nat.sub_add_cancel hj1]
          have HX := hidp hzx
          have HY := hidp hzy'
          have hin : (j : Int) < k := by omega
          have hin1 : (j : Int) - 1 < k := by omega
          have hwrap : IntKind.i64.wrap ((j : Int) - 1) = (j : Int) - 1 := IntWalk.i64_in _ (by omega)
          have hto : ((j : Int) - 1).toNat = j - 1 := by omega
          have hpos : (1 : Int) ≤ (j : Int) := by omega
          clear hzx hzy hzy' hl'
          have hwb := lt_of_cell c0
          obtain ⟨z, hz⟩ : ∃ z, x.bef y = z := ⟨_, rfl⟩
          have HV := hidp hz
          clear hz
          go_wp2_with fail
          refine wp_region_below wr.heap.size (by kernel_rfl) (by kernel_rfl) ?_
          repeat
            refine q_step (by rfl) ?_
            apply Exists.intro
            refine ⟨fun w9 h9 => ?_, ?_⟩
            · have hc9 := (bcell h9).1
              go_simp
              first | done | rfl | exact calls_below h9 (Nat.le_refl _) (rBefore_any x y w9)
            go_simp
          refine wpQuiet_nil ?_
          intro w9 hb9
          have hb3 := hb2.trans (hb9.mono hb2.size)
          clear c0 c1 c2 c3 c4 c5 c6 c7 d0 d1 d2 d3 d4 d5 d6 d7 hwrap hto hpos
          rw [HV.out]
          cases z
          · go_wp2_with fail
            go_ret
            refine ⟨ret_int ?_, hb3⟩
            rw [← HR.out, checkF, HB.out, sortedB_no HX.out HY.out HV.out]; rfl
          · go_wp2_with fail
            go_roundw
            case rel => exact ⟨j + 1, by omega, by omega, by go_num, by have := HA.out.step HX.out HY.out HV.out; rwa [Nat.sub_add_cancel hj1] at this, hb3⟩
            case measure => simp [intOf]; omega
        · go_wp2_with fail
          go_ret
          refine ⟨ret_int ?_, hb2⟩
          rw [← HR.out, checkF, HB.out, HA.out.all (by rw [← HN.out]; omega)]; rfl
end Go.Proofs.Ytoalmffhiinbbaa
