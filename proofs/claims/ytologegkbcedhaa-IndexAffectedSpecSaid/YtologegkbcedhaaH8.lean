/- The reference's Affected walked. Regions printed by tools/gen57.py. -/
import Derived.Test.YtologegkbcedhaaH7
import Derived.Test.YtologegkbcedhaaClipR
import Derived.Test.YtologegkbcedhaaRelT
namespace Go.Proofs.Ytologegkbcedhaa
open Go.RowKit Go.Shelf

def ltI (a b : Int) : Bool := decide (a < b)
/-- A readable list of numbers. -/
def IT (l : List Int) : VT := fun v w => ∃ A n c, v = .slice A n c ∧ iSl w w.heap.size A n c l
theorem IT_stable (l : List Int) : (IT l).Stable := by
  rintro v w w' hb ⟨A, n, c, rfl, h⟩
  exact ⟨A, n, c, rfl, h.keep iStable hb.size hb.block⟩
def IT1 (x : Int) : VT := fun v w => ∃ A, v = .slice A 1 1 ∧ iSl w w.heap.size A 1 1 [x]
theorem IT1_stable (x : Int) : (IT1 x).Stable := by
  rintro v w w' hb ⟨A, rfl, h⟩
  exact ⟨A, rfl, h.keep iStable hb.size hb.block⟩
def LtUpI (l : List Int) (k : Int) (q : Nat) : Prop := ∀ (i : Nat) (x : Int), i < q → l[i]? = some x → ltI x k = true
theorem LtUpI.step {l : List Int} {k x : Int} {q : Nat} (h : LtUpI l k q) (hx : l[q]? = some x) (hl : x < k) : LtUpI l k (q + 1) := by
  intro i y hi hy
  rcases Nat.lt_or_ge i q with h1 | h1
  · exact h i y h1 hy
  · obtain rfl : i = q := by omega
    rw [hx] at hy; cases hy; simpa [ltI] using hl
theorem insI_found {x : Int} {l : List Int} {q : Nat} (hu : LtUpI l x q) (hx : l[q]? = some x) (hq : q ≤ l.length) : ins ltI x l = l := by
  rw [ins_at x l q (fun j y hj hy => hu j y hj hy) (fun y hy => by rw [hx] at hy; cases hy; simp [ltI]) hq, if_pos hx]
theorem insI_new {x : Int} {l : List Int} {q : Nat} (hu : LtUpI l x q) (hy : ∀ y, l[q]? = some y → ¬ y < x) (hx : l[q]? ≠ some x) (hq : q ≤ l.length) : ins ltI x l = l.take q ++ ([x] ++ l.drop q) := by
  rw [ins_at x l q (fun j y hj hy => hu j y hj hy) (fun y h => by simpa [ltI] using hy y h) hq, if_neg hx]
  rfl
def hitI (X : List Lk) (cs : List Ch) (k : Nat) : List Int := ordOf ltI (hitL (X.take k) cs)
theorem hitI_yes {X : List Lk} {cs : List Ch} {k : Nat} {x : Lk} (h : X[k]? = some x) (hx : cs.any (touchC x.1) = true) : hitI X cs (k + 1) = ins ltI x.2 (hitI X cs k) := by
  rw [hitI, hitI, take_snoc h, hitL, hitL, List.filter_append, List.map_append]
  simp only [List.filter_cons, hx, if_true, List.filter_nil, List.map_cons, List.map_nil]
  rw [ordOf_snoc]
theorem hitI_no {X : List Lk} {cs : List Ch} {k : Nat} {x : Lk} (h : X[k]? = some x) (hx : cs.any (touchC x.1) = false) : hitI X cs (k + 1) = hitI X cs k := by
  rw [hitI, hitI, take_snoc h, hitL, hitL, List.filter_append, List.map_append]
  simp [hx]
theorem hitI_len (X : List Lk) (cs : List Ch) (k : Nat) : (hitI X cs k).length ≤ k := by
  refine Nat.le_trans (ordOf_len _) ?_
  rw [hitL, List.length_map]
  refine Nat.le_trans (List.length_filter_le _ _) ?_
  rw [List.length_take]
  exact Nat.min_le_left _ _
def AffPostR (l : List Int) (w : World) (e : Ending) (w' : World) : Prop := ∃ A n c, e = .returned (.slice A n c) ∧ iSl w' w'.heap.size A n c l ∧ Below w.heap.size w w'
theorem anyT_step {x : Rd} {cs : List Ch} {q : Nat} {ch : Ch} (h : cs[q]? = some ch) : (cs.take (q + 1)).any (touchC x) = ((cs.take q).any (touchC x) || touchC x ch) := by
  rw [take_snoc h, List.any_append]; simp

set_option maxRecDepth 100000 in
set_option maxHeartbeats 8000000 in
theorem qAffected_any (A : Option Addr) (n c : Nat) (X : List Lk) (A' : Option Addr) (n' c' : Nat) (raw : List Cr) (cs : List Ch) (w : World) (hl : lSl w w.heap.size A n c X) (hc : cSl w w.heap.size A' n' c' raw) (hcs : ChOks w raw cs) (hn : n ≤ 1000) (hn' : n' ≤ 1000) :
    Calls Try.prog 22 #[.agg #[.slice A n c], .slice A' n' c'] w (AffPostR (affL X cs) w) := by
  obtain ⟨i0, hi, hz, hs, hbb⟩ := info_parts iInfo
  have HN := hidp hl.1
  have HN' := hidp hc.1
  have hcap := hl.2.2.1
  have hlen := hl.2.1
  have hcap' := hc.2.2.1
  have hlen' := hc.2.1
  obtain ⟨W0, hW0⟩ : ∃ W0, (w.alloc (.cells #[.slice A n c] 28)).alloc (.cells #[] 3) = W0 := ⟨_, rfl⟩
  have hBW : Below w.heap.size w W0 := by rw [← hW0]; exact ((Below.refl _ w).alloc (Nat.le_refl _) _).alloc (by simp) _
  have g0 : W0.heap[w.heap.size]? = some (.cells #[.slice A n c] 28 (0, 0)) := by
    rw [← hW0]
    exact (Below.heap_alloc _ _ _ (by simp)).trans (World.alloc_heap_new w _)
  have HW0 := hidp hW0
  have G0 := hidp g0
  have HBW := hidp hBW
  have hr0 : iSl W0 W0.heap.size (some ⟨w.heap.size + 1, 0, none⟩) 0 0 (hitI X cs 0) := Rows.nil (by decide)
  have HR0 := hidp hr0
  clear hW0 g0 hBW hr0
  go_enter Try.func22, Try.ntmps22
  go_wp2_with fail
  rw [HW0.out]
  go_wp2_with fail
  go_loopw [5, 6, 7, 8, 9, 10] (fun out i _ _ _ _ wo => ∃ (k m c1 : Nat) (A1 : Option Addr), k ≤ n ∧ i = .int .i64 k ∧ out = .slice A1 m c1 ∧ wo.heap[w.heap.size]? = some (.cells #[.slice A n c] 28 (0, 0)) ∧ iSl wo wo.heap.size A1 m c1 (hitI X cs k) ∧ Below w.heap.size w wo) (fun _ i _ _ _ _ _ => n - (intOf i).toNat)
  case atStart => exact ⟨0, 0, 0, _, by omega, rfl, rfl, G0.out, HR0.out, HBW.out⟩
  case round =>
    rename World => wo
    obtain ⟨k, m, c1, A1, hk, rfl, rfl, e0, hks, hbe⟩ := hrel
    have E0 := hidp e0
    have l0 := lt_of_heap e0
    have d0 := cell_of_heap (o := 0) e0
    simp only [List.getElem?_toArray, List.getElem?_cons_zero] at d0
    have hmk : m ≤ k := by have := hitI_len X cs k; rw [← hks.1] at this; exact this
    have hcap1 := hks.2.2.1
    have hlen1 := hks.2.1
    have HM := hidp hks.1
    clear e0
    by_cases hlt : k < n
    · obtain ⟨b, off, x, rfl, hb, hzx, f0, f1, f2, f3, f4, f5⟩ := lSl.get (hl.below lStable hbe) hlt
      have HX := hidp hzx
      have hkn : (k : Int) < n := by omega
      have lbw := hbe.size
      have hbl := lt_of_cell f0
      have hXc : ∀ W, Below wo.heap.size wo W → W.cell? ⟨w.heap.size, 0, none⟩ = some (.slice (some ⟨b, off, none⟩) n c) ∧ w.heap.size < W.heap.size ∧ b < W.heap.size ∧ W.cell? ⟨b, off + k * 6, none⟩ = some (.int .i64 x.1.1.kind) ∧ W.cell? ⟨b, off + k * 6 + 1, none⟩ = some (.int .i64 x.1.1.subj) ∧ W.cell? ⟨b, off + k * 6 + 2, none⟩ = some (.int .i64 x.1.1.obj) ∧ W.cell? ⟨b, off + k * 6 + 3, none⟩ = some (.int .i64 x.1.2.1) ∧ W.cell? ⟨b, off + k * 6 + 4, none⟩ = some (.int .i64 x.1.2.2) ∧ W.cell? ⟨b, off + k * 6 + 5, none⟩ = some (.int .i64 x.2) := fun W hW => by
        have hcW := (bcell hW).1
        exact ⟨by rw [hcW _ _ l0]; exact d0, Nat.lt_of_lt_of_le l0 hW.size, Nat.lt_of_lt_of_le hbl hW.size, by rw [hcW _ _ hbl]; exact f0, by rw [hcW _ _ hbl]; exact f1, by rw [hcW _ _ hbl]; exact f2, by rw [hcW _ _ hbl]; exact f3, by rw [hcW _ _ hbl]; exact f4, by rw [hcW _ _ hbl]; exact f5⟩
      have HXC := hidp hXc
      have HKS := hidp hks
      have HBE := hidp hbe
      clear hzx hXc hks hbe f0 f1 f2 f3 f4 f5
      go_wp2_with fail
      clear d0
      go_loopw [7, 8] (fun h j wr2 => ∃ q : Nat, q ≤ n' ∧ h = .bool ((cs.take q).any (touchC x.1)) ∧ j = .int .i64 q ∧ Below wo.heap.size wo wr2) (fun _ j _ => n' - (intOf j).toNat)
      case atStart => exact ⟨0, by omega, rfl, rfl, Below.refl _ _⟩
      case round =>
        rename World => wrB
        obtain ⟨q, hq, rfl, rfl, hb2⟩ := hrel
        have hbew := HBE.out.trans (hb2.mono lbw)
        by_cases hqm : q < n'
        · obtain ⟨bc, oc, r, rfl, hbc, hzr, r0, r1, r2, r3⟩ := cSl.get (hc.keep cStable (Nat.le_refl _) hbew.block) hqm
          obtain ⟨ch, hch⟩ : ∃ ch, cs[q]? = some ch := by
            have h1 := (List.getElem?_eq_some_iff.1 hzr).1
            rw [hcs.1] at h1
            exact ⟨_, List.getElem?_eq_getElem h1⟩
          obtain ⟨hkey, hterms⟩ := (hcs.below hbew).2 q r ch hzr hch
          have HST : Hid ((cs.take (q + 1)).any (touchC x.1) = ((cs.take q).any (touchC x.1) || touchC x.1 ch)) := anyT_step hch
          have HKEY := hidp hkey
          have HTE := hidp hterms
          have hqn : (q : Int) < n' := by omega
          have lb := lt_of_cell r0
          obtain ⟨x0, lx, lx2, x1, x2, x3, x4, x5, x6⟩ := HXC.out _ hb2
          obtain ⟨z, hz⟩ : ∃ z, (cs.take q).any (touchC x.1) = z := ⟨_, rfl⟩
          have HZ := hidp hz
          rw [hz]
          clear hz hzr hch hkey hterms
          cases z
          · have HV : Hid ((cs.take (q + 1)).any (touchC x.1) = (decide (x.1.1 = r.1) && touchS x.1 ch.2)) := by show _ = _; rw [HST.out, HZ.out, Bool.false_or, touchC, HKEY.out]
            go_wp2_with fail
            refine wp_region_below wrB.heap.size (by kernel_rfl) (by kernel_rfl) ?_
            repeat
              first
              | go_big_quiet_skip
              | (refine q_step (by rfl) ?_
                 apply Exists.intro
                 refine ⟨fun w9 h9 => ?_, ?_⟩
                 · have hc9 := (bcell h9).1
                   go_simp
                   first | done | rfl | exact calls_below h9 (Nat.le_refl _) (qTouched_any x.1 r ch.2 w9 (HTE.out.keep sStable h9.size h9.block))
                 go_simp)
            refine wpQuiet_nil ?_
            intro w9 hb9
            have hb3 := hb2.trans (hb9.mono hb2.size)
            clear r0 r1 r2 r3 x0 x1 x2 x3 x4 x5 x6 lx lx2 lb hb9
            go_wp2_with fail
            go_roundw
            case rel => exact ⟨q + 1, by omega, by rw [HV.out], by go_num, hb3⟩
            case measure => simp [intOf]; omega
          · have HV : Hid ((cs.take (q + 1)).any (touchC x.1) = true) := by show _ = _; rw [HST.out, HZ.out, Bool.true_or]
            go_wp2_with fail
            refine wp_region_below wrB.heap.size (by kernel_rfl) (by kernel_rfl) ?_
            repeat
              first
              | go_big_quiet_skip
              | (refine q_step (by rfl) ?_
                 apply Exists.intro
                 refine ⟨fun w9 h9 => ?_, ?_⟩
                 · have hc9 := (bcell h9).1
                   go_simp
                   first | done | rfl
                 go_simp)
            refine wpQuiet_nil ?_
            intro w9 hb9
            have hb3 := hb2.trans (hb9.mono hb2.size)
            clear r0 r1 r2 r3 x0 x1 x2 x3 x4 x5 x6 lx lx2 lb hb9
            go_wp2_with fail
            go_roundw
            case rel => exact ⟨q + 1, by omega, by rw [HV.out], by go_num, hb3⟩
            case measure => simp [intOf]; omega
        · obtain rfl : q = n' := by omega
          have HA : Hid (cs.take q = cs) := List.take_of_length_le (by rw [← hcs.1, HN'.out]; exact Nat.le_refl _)
          rw [HA.out]
          obtain ⟨z, hz⟩ : ∃ z, cs.any (touchC x.1) = z := ⟨_, rfl⟩
          have HZ := hidp hz
          rw [hz]
          have hks2 := HKS.out.keep iStable hb2.size hb2.block
          have HKS2 := hidp hks2
          have E2 := hidp ((hb2.block _ l0).trans E0.out)
          clear hz hks2
          cases z
          · have HT : Hid (hitI X cs (k + 1) = hitI X cs k) := hitI_no HX.out HZ.out
            go_wp2_with fail
            go_roundw
            case rel => exact ⟨k + 1, m, c1, A1, by omega, by go_num, rfl, E2.out, by rw [HT.out]; exact HKS2.out, hbew⟩
            case measure => simp [intOf]; omega
          · have HT : Hid (hitI X cs (k + 1) = ins ltI x.2 (hitI X cs k)) := hitI_yes HX.out HZ.out
            obtain ⟨I, hI⟩ : ∃ I, hitI X cs k = I := ⟨_, rfl⟩
            rw [hI] at HT HKS HKS2 HM
            clear hI
            go_wp2_with fail
            go_loopw [9] (fun j wr3 => ∃ q3 : Nat, q3 ≤ m ∧ j = .int .i64 q3 ∧ LtUpI I x.2 q3 ∧ Below wo.heap.size wo wr3) (fun j _ => m - (intOf j).toNat)
            case atStart => exact ⟨0, by omega, rfl, fun i y h => by omega, hb2⟩
            case round =>
              rename World => wrC
              obtain ⟨q3, hq3, rfl, hup, hb4⟩ := hrel
              have HU := hidp hup
              have hr := HKS.out.keep iStable hb4.size hb4.block
              obtain ⟨x0, lx, lx2, x1, x2, x3, x4, x5, x6⟩ := HXC.out _ hb4
              clear hup
              by_cases hqm3 : q3 < m
              · obtain ⟨bi, oi, y, rfl, hbi, hzy, y0⟩ := iSl.get hr hqm3
                have HY := hidp hzy
                have lyi := lt_of_cell y0
                have hqm' : (q3 : Int) < m := by omega
                have hqd : decide (q3 < m) = true := by simpa using hqm3
                obtain ⟨z, hz⟩ : ∃ z, decide (y < x.2) = z := ⟨_, rfl⟩
                have HZ2 := hidp hz
                clear hzy hr
                go_wp2_with fail
                refine wp_region_below wrC.heap.size (by kernel_rfl) (by kernel_rfl) ?_
                repeat
                  first
                  | go_big_quiet_skip
                  | (refine q_step (by rfl) ?_
                     apply Exists.intro
                     refine ⟨fun w9 h9 => ?_, ?_⟩
                     · have hc9 := (bcell h9).1
                       go_simp
                       first | done | rfl
                     go_simp)
                refine wpQuiet_nil ?_
                intro w9 hb9
                have hb5 := hb4.trans (hb9.mono hb4.size)
                have hz' : decide (y < x.2) = z := hz
                clear y0 x0 x1 x2 x3 x4 x5 x6 lx lx2 lyi hb9 hz
                cases z
                · have hr3 := HKS.out.keep iStable hb5.size hb5.block
                  obtain ⟨ze, hze⟩ : ∃ z, (y != x.2) = z := ⟨_, rfl⟩
                  have HE := hidp hze
                  obtain ⟨bi2, oi2, y2, he2, _, hzy2, y0⟩ := iSl.get hr3 hqm3
                  simp only [Option.some.injEq, Addr.mk.injEq, and_true] at he2
                  obtain ⟨rfl, rfl⟩ := he2
                  have hyy : y2 = y := by have := HY.out; rw [hzy2] at this; exact Option.some.inj this
                  rw [hyy] at y0
                  have lyi := lt_of_cell y0
                  obtain ⟨x0, lx, lx2, x1, x2, x3, x4, x5, x6⟩ := HXC.out _ hb5
                  have hne : ((q3 : Int) == (m : Int)) = false := by simp; omega
                  clear hzy2 hyy hr3
                  go_wp2_with fail
                  refine wp_region_below w9.heap.size (by kernel_rfl) (by kernel_rfl) ?_
                  repeat
                    first
                    | go_big_quiet_skip
                    | (refine q_step (by rfl) ?_
                       apply Exists.intro
                       refine ⟨fun w8 h8 => ?_, ?_⟩
                       · have hc8 := (bcell h8).1
                         go_simp
                         first | done | rfl
                       go_simp)
                  refine wpQuiet_nil ?_
                  intro wt hbt
                  have hbW := hb5.trans (hbt.mono hb5.size)
                  have hze' : (y != x.2) = ze := hze
                  clear y0 x0 x1 x2 x3 x4 x5 x6 lx lx2 lyi hbt hqm' hqd hne hz' hze
                  cases ze
                  · have hyx : y = x.2 := by have := HE.out; simpa using this
                    have HF : Hid (ins ltI x.2 I = I) := insI_found HU.out (by rw [HY.out, hyx]) (by have := HM.out; omega)
                    have hlW := HKS.out.keep iStable hbW.size hbW.block
                    have E9 := hidp ((hbW.block _ l0).trans E0.out)
                    have HBWt := hidp (HBE.out.trans (hbW.mono lbw))
                    clear hyx
                    go_wp2_with fail
                    go_roundw
                    case rel => exact ⟨k + 1, m, c1, _, by omega, by go_num, rfl, E9.out, by rw [HT.out, HF.out]; exact hlW, HBWt.out⟩
                    case measure => simp [intOf]; omega
                  · have HNe : Hid (ins ltI x.2 I = I.take q3 ++ ([x.2] ++ I.drop q3)) := insI_new HU.out (fun y' hy' => by rw [HY.out] at hy'; cases hy'; have := HZ2.out; simpa using this) (by rw [HY.out]; intro h; have h2 := HE.out; rw [Option.some.inj h] at h2; simp at h2) (by have := HM.out; omega)
                    have hlW := HKS.out.keep iStable hbW.size hbW.block
                    have hcut := fun W => run_cut_low (P := Try.prog) W Try.underlying32 hi (some (⟨bi, oi, none⟩ : Addr)) m c1 q3 .i64 (q3 : Int) rfl hq3
                    rw [hs] at hcut
                    have hqc : q3 ≤ c1 := by omega
                    have hrc := hlW.cut (m := q3) hq3
                    have hrt := hlW.take (m := q3) hq3
                    generalize cutA (some (⟨bi, oi, none⟩ : Addr)) c1 q3 1 = A2 at hcut hrc
                    have HRC := hidp hrc
                    have HRT := hidp hrt
                    have HBWt : Hid (Below wo.heap.size wo wt) := hbW
                    clear hrc hrt hlW hbW
                    go_wp2_with fail
                    refine wp_region_S wt.heap.size 12 (fun _ => false) (Nat.le_refl _) (by kernel_rfl) (by kernel_rfl) (by kernel_rfl) ?_
                    dsimp only [List.take, List.drop]
                    apply relS_det (mask := [])
                    · rfl
                    · kernel_rfl
                    · kernel_rfl
                    · dsimp only [oblS]
                      rintro w9 h9
                      go_simp
                      exact ⟨Below.refl _ _, rfl⟩
                    dsimp only [List.nil_append, List.cons_append]
                    apply relS_det (mask := [true])
                    · rfl
                    · kernel_rfl
                    · kernel_rfl
                    · dsimp only [oblS]
                      rintro w9 h9
                      obtain ⟨x0, lx, lx2, x1, x2, x3, x4, x5, x6⟩ := HXC.out _ (HBWt.out.trans (h9.mono HBWt.out.size))
                      go_simp
                      exact ⟨Below.refl _ _, rfl⟩
                    dsimp only [List.nil_append, List.cons_append]
                    apply relS_det (mask := [false, false])
                    · rfl
                    · kernel_rfl
                    · kernel_rfl
                    · dsimp only [oblS]
                      rintro w9 h9
                      go_simp
                      exact ⟨Below.refl _ _, rfl⟩
                    dsimp only [List.nil_append, List.cons_append]
                    apply relS_det (mask := [false, true, true]) (x := .pointer (some ⟨b, off + k * 6, none⟩))
                    · rfl
                    · kernel_rfl
                    · kernel_rfl
                    · dsimp only [oblS]
                      rintro w9 h9
                      obtain ⟨x0, lx, lx2, x1, x2, x3, x4, x5, x6⟩ := HXC.out _ (HBWt.out.trans (h9.mono HBWt.out.size))
                      go_simp
                      exact ⟨Below.refl _ _, rfl⟩
                    dsimp only [List.nil_append, List.cons_append]
                    apply relS_det (mask := [false, false, false, true])
                    · rfl
                    · kernel_rfl
                    · kernel_rfl
                    · dsimp only [oblS]
                      rintro w9 h9
                      go_simp
                      exact ⟨Below.refl _ _, rfl⟩
                    dsimp only [List.nil_append, List.cons_append]
                    apply relS_det (mask := [false, false, false, false, true]) (x := .int .i64 x.2)
                    · rfl
                    · kernel_rfl
                    · kernel_rfl
                    · dsimp only [oblS]
                      rintro w9 h9
                      obtain ⟨x0, lx, lx2, x1, x2, x3, x4, x5, x6⟩ := HXC.out _ (HBWt.out.trans (h9.mono HBWt.out.size))
                      go_simp
                      exact ⟨Below.refl _ _, rfl⟩
                    dsimp only [List.nil_append, List.cons_append]
                    apply relS_any (mask := [false, false, false, false, false, true]) (T := IT1 x.2) (hT := IT1_stable _)
                    · rfl
                    · kernel_rfl
                    · kernel_rfl
                    · dsimp only [oblS]
                      rintro w9 h9 T' hT'
                      go_simp
                      exact ⟨(Below.refl _ w9).alloc (Nat.le_refl _) _, hT' _ _ ⟨_, rfl, rows_of_heap (l := [x.2]) iEnc_len (World.alloc_heap_new w9 _) (Nat.le_refl _) (by decide) rfl⟩⟩
                    dsimp only [List.nil_append, List.cons_append]
                    apply relS_det (mask := [false, false, false, false, false, false, false])
                    · rfl
                    · kernel_rfl
                    · kernel_rfl
                    · dsimp only [oblS]
                      rintro w9 h9
                      go_simp
                      exact ⟨Below.refl _ _, rfl⟩
                    dsimp only [List.nil_append, List.cons_append]
                    apply relS_det (mask := [false, false, false, false, false, false, false, false])
                    · rfl
                    · kernel_rfl
                    · kernel_rfl
                    · dsimp only [oblS]
                      rintro w9 h9
                      go_simp
                      exact ⟨Below.refl _ _, rfl⟩
                    dsimp only [List.nil_append, List.cons_append]
                    apply relS_det (mask := [false, false, false, false, false, false, false, true, true]) (x := .slice A2 (m - q3) (c1 - q3))
                    · rfl
                    · kernel_rfl
                    · kernel_rfl
                    · dsimp only [oblS]
                      rintro w9 h9
                      go_simp
                      exact ⟨Below.refl _ _, rfl⟩
                    dsimp only [List.nil_append, List.cons_append]
                    apply relS_any (mask := [false, false, false, false, false, false, true, false, false, true]) (T := IT ([x.2] ++ I.drop q3)) (hT := IT_stable _)
                    · rfl
                    · kernel_rfl
                    · kernel_rfl
                    · dsimp only [oblS]
                      intro v83
                      rintro w9 ⟨h9, t83⟩ T' hT'
                      obtain ⟨A5, rfl, r5⟩ := t83
                      obtain ⟨A6, c6, w', hrun, r6, hb6⟩ := run_append_clipR (P := Try.prog) (ty := 32) Try.underlying32 hi hz hs hbb rfl iEnc_len (by decide) iEnc_one r5 (Nat.le_refl _) (HRC.out.keep iStable h9.size h9.block) (by omega) (by omega)
                      exact relUpon_append (.tmp 83) (.tmp 86) 32 rfl rfl rfl hrun hb6 (hT' _ _ ⟨A6, _, c6, rfl, r6⟩)
                    dsimp only [List.nil_append, List.cons_append]
                    apply relS_any (mask := [false, false, false, false, false, false, false, false, false, false, true]) (T := IT ([x.2] ++ I.drop q3)) (hT := IT_stable _)
                    · rfl
                    · kernel_rfl
                    · kernel_rfl
                    · dsimp only [oblS]
                      intro v87
                      rintro w9 ⟨h9, t87⟩ T' hT'
                      obtain ⟨A5, n5, c5, rfl, r5⟩ := t87
                      go_simp
                      exact ⟨Below.refl _ _, hT' _ _ ⟨A5, n5, c5, rfl, r5⟩⟩
                    dsimp only [List.nil_append, List.cons_append]
                    refine relS_end (by rfl) ?_
                    dsimp only [finS]
                    -- rintro v83 v87 v10 w8 ⟨⟨⟨hb, t83⟩, t87⟩, t10⟩
                    rintro v83 v87 v10 w4 ⟨⟨⟨hb6, -⟩, -⟩, A4, n4, c4, rfl, r4⟩
                    go_frame
                    have hn4 : n4 ≤ 1001 := by have h1 := r4.1; have h2 := HM.out; simp at h1; omega
                    obtain ⟨A8, c8, w8, hrun8, r8, hb8⟩ := run_append_clipR (P := Try.prog) (ty := 32) Try.underlying32 hi hz hs hbb rfl iEnc_len (by decide) iEnc_one (HRT.out.keep iStable hb6.size hb6.block) (Nat.le_refl _) r4 (by omega) (by omega)
                    have HR8 := hidp hrun8
                    have HO8 := hidp r8
                    have hb48 := HBWt.out.trans ((hb6.mono HBWt.out.size).trans (hb8.mono (Nat.le_trans HBWt.out.size hb6.size)))
                    have E9 := hidp ((hb48.block _ l0).trans E0.out)
                    have HB48 := hidp (HBE.out.trans (hb48.mono lbw))
                    have hcl4 := r4.2.2.1
                    have hcn4 := r4.2.1
                    clear hrun8 r8 r4 hb48
                    go_wp2_with (at_builtin; refine wpList_append_known rfl (.tmp 91) (.tmp 92) 32 rfl rfl rfl HR8.out ?_)
                    go_roundw
                    case rel => exact ⟨k + 1, _, c8, A8, by omega, by go_num, rfl, E9.out, by rw [HT.out, HNe.out]; exact HO8.out, HB48.out⟩
                    case measure => simp [intOf]; omega
                · go_wp2_with fail
                  go_roundw
                  case rel => exact ⟨q3 + 1, by omega, by go_num, HU.out.step HY.out (by have := HZ2.out; simpa using this), hb5⟩
                  case measure => simp [intOf]; omega
              · obtain rfl : q3 = m := by omega
                have HNe : Hid (ins ltI x.2 I = I.take q3 ++ ([x.2] ++ I.drop q3)) := insI_new HU.out (fun y hy => by rw [List.getElem?_eq_none (by have := HM.out; omega)] at hy; cases hy) (by rw [List.getElem?_eq_none (by have := HM.out; omega)]; intro h; cases h) (by have := HM.out; omega)
                clear x0 x1 x2 x3 x4 x5 x6 lx lx2 hr
                go_wp2_with fail
                go_quiet (fail)
                have hbA := below_drewN hb4 nq
                generalize wrC.drewN nq = wA at hbA ⊢
                go_wp2_with fail
                go_quiet (fail)
                have hbW := below_drewN hbA nq
                generalize wA.drewN nq = WW at hbW ⊢
                clear hbA hb4
                have hlW := HKS.out.keep iStable hbW.size hbW.block
                have hcut := fun W => run_cut_low (P := Try.prog) W Try.underlying32 hi (A1) q3 c1 q3 .i64 (q3 : Int) rfl hq3
                rw [hs] at hcut
                have hqc : q3 ≤ c1 := by omega
                have hrc := hlW.cut (m := q3) hq3
                have hrt := hlW.take (m := q3) hq3
                generalize cutA (A1) c1 q3 1 = A2 at hcut hrc
                have HRC := hidp hrc
                have HRT := hidp hrt
                have HBWt : Hid (Below wo.heap.size wo WW) := hbW
                clear hrc hrt hlW hbW
                go_wp2_with fail
                refine wp_region_S WW.heap.size 12 (fun _ => false) (Nat.le_refl _) (by kernel_rfl) (by kernel_rfl) (by kernel_rfl) ?_
                dsimp only [List.take, List.drop]
                apply relS_det (mask := [])
                · rfl
                · kernel_rfl
                · kernel_rfl
                · dsimp only [oblS]
                  rintro w9 h9
                  go_simp
                  exact ⟨Below.refl _ _, rfl⟩
                dsimp only [List.nil_append, List.cons_append]
                apply relS_det (mask := [true])
                · rfl
                · kernel_rfl
                · kernel_rfl
                · dsimp only [oblS]
                  rintro w9 h9
                  obtain ⟨x0, lx, lx2, x1, x2, x3, x4, x5, x6⟩ := HXC.out _ (HBWt.out.trans (h9.mono HBWt.out.size))
                  go_simp
                  exact ⟨Below.refl _ _, rfl⟩
                dsimp only [List.nil_append, List.cons_append]
                apply relS_det (mask := [false, false])
                · rfl
                · kernel_rfl
                · kernel_rfl
                · dsimp only [oblS]
                  rintro w9 h9
                  go_simp
                  exact ⟨Below.refl _ _, rfl⟩
                dsimp only [List.nil_append, List.cons_append]
                apply relS_det (mask := [false, true, true]) (x := .pointer (some ⟨b, off + k * 6, none⟩))
                · rfl
                · kernel_rfl
                · kernel_rfl
                · dsimp only [oblS]
                  rintro w9 h9
                  obtain ⟨x0, lx, lx2, x1, x2, x3, x4, x5, x6⟩ := HXC.out _ (HBWt.out.trans (h9.mono HBWt.out.size))
                  go_simp
                  exact ⟨Below.refl _ _, rfl⟩
                dsimp only [List.nil_append, List.cons_append]
                apply relS_det (mask := [false, false, false, true])
                · rfl
                · kernel_rfl
                · kernel_rfl
                · dsimp only [oblS]
                  rintro w9 h9
                  go_simp
                  exact ⟨Below.refl _ _, rfl⟩
                dsimp only [List.nil_append, List.cons_append]
                apply relS_det (mask := [false, false, false, false, true]) (x := .int .i64 x.2)
                · rfl
                · kernel_rfl
                · kernel_rfl
                · dsimp only [oblS]
                  rintro w9 h9
                  obtain ⟨x0, lx, lx2, x1, x2, x3, x4, x5, x6⟩ := HXC.out _ (HBWt.out.trans (h9.mono HBWt.out.size))
                  go_simp
                  exact ⟨Below.refl _ _, rfl⟩
                dsimp only [List.nil_append, List.cons_append]
                apply relS_any (mask := [false, false, false, false, false, true]) (T := IT1 x.2) (hT := IT1_stable _)
                · rfl
                · kernel_rfl
                · kernel_rfl
                · dsimp only [oblS]
                  rintro w9 h9 T' hT'
                  go_simp
                  exact ⟨(Below.refl _ w9).alloc (Nat.le_refl _) _, hT' _ _ ⟨_, rfl, rows_of_heap (l := [x.2]) iEnc_len (World.alloc_heap_new w9 _) (Nat.le_refl _) (by decide) rfl⟩⟩
                dsimp only [List.nil_append, List.cons_append]
                apply relS_det (mask := [false, false, false, false, false, false, false])
                · rfl
                · kernel_rfl
                · kernel_rfl
                · dsimp only [oblS]
                  rintro w9 h9
                  go_simp
                  exact ⟨Below.refl _ _, rfl⟩
                dsimp only [List.nil_append, List.cons_append]
                apply relS_det (mask := [false, false, false, false, false, false, false, false])
                · rfl
                · kernel_rfl
                · kernel_rfl
                · dsimp only [oblS]
                  rintro w9 h9
                  go_simp
                  exact ⟨Below.refl _ _, rfl⟩
                dsimp only [List.nil_append, List.cons_append]
                apply relS_det (mask := [false, false, false, false, false, false, false, true, true]) (x := .slice A2 (q3 - q3) (c1 - q3))
                · rfl
                · kernel_rfl
                · kernel_rfl
                · dsimp only [oblS]
                  rintro w9 h9
                  go_simp
                  exact ⟨Below.refl _ _, rfl⟩
                dsimp only [List.nil_append, List.cons_append]
                apply relS_any (mask := [false, false, false, false, false, false, true, false, false, true]) (T := IT ([x.2] ++ I.drop q3)) (hT := IT_stable _)
                · rfl
                · kernel_rfl
                · kernel_rfl
                · dsimp only [oblS]
                  intro v83
                  rintro w9 ⟨h9, t83⟩ T' hT'
                  obtain ⟨A5, rfl, r5⟩ := t83
                  obtain ⟨A6, c6, w', hrun, r6, hb6⟩ := run_append_clipR (P := Try.prog) (ty := 32) Try.underlying32 hi hz hs hbb rfl iEnc_len (by decide) iEnc_one r5 (Nat.le_refl _) (HRC.out.keep iStable h9.size h9.block) (by omega) (by omega)
                  exact relUpon_append (.tmp 83) (.tmp 86) 32 rfl rfl rfl hrun hb6 (hT' _ _ ⟨A6, _, c6, rfl, r6⟩)
                dsimp only [List.nil_append, List.cons_append]
                apply relS_any (mask := [false, false, false, false, false, false, false, false, false, false, true]) (T := IT ([x.2] ++ I.drop q3)) (hT := IT_stable _)
                · rfl
                · kernel_rfl
                · kernel_rfl
                · dsimp only [oblS]
                  intro v87
                  rintro w9 ⟨h9, t87⟩ T' hT'
                  obtain ⟨A5, n5, c5, rfl, r5⟩ := t87
                  go_simp
                  exact ⟨Below.refl _ _, hT' _ _ ⟨A5, n5, c5, rfl, r5⟩⟩
                dsimp only [List.nil_append, List.cons_append]
                refine relS_end (by rfl) ?_
                dsimp only [finS]
                -- rintro v83 v87 v10 w8 ⟨⟨⟨hb, t83⟩, t87⟩, t10⟩
                rintro v83 v87 v10 w4 ⟨⟨⟨hb6, -⟩, -⟩, A4, n4, c4, rfl, r4⟩
                go_frame
                have hn4 : n4 ≤ 1001 := by have h1 := r4.1; have h2 := HM.out; simp at h1; omega
                obtain ⟨A8, c8, w8, hrun8, r8, hb8⟩ := run_append_clipR (P := Try.prog) (ty := 32) Try.underlying32 hi hz hs hbb rfl iEnc_len (by decide) iEnc_one (HRT.out.keep iStable hb6.size hb6.block) (Nat.le_refl _) r4 (by omega) (by omega)
                have HR8 := hidp hrun8
                have HO8 := hidp r8
                have hb48 := HBWt.out.trans ((hb6.mono HBWt.out.size).trans (hb8.mono (Nat.le_trans HBWt.out.size hb6.size)))
                have E9 := hidp ((hb48.block _ l0).trans E0.out)
                have HB48 := hidp (HBE.out.trans (hb48.mono lbw))
                have hcl4 := r4.2.2.1
                have hcn4 := r4.2.1
                clear hrun8 r8 r4 hb48
                go_wp2_with (at_builtin; refine wpList_append_known rfl (.tmp 91) (.tmp 92) 32 rfl rfl rfl HR8.out ?_)
                go_roundw
                case rel => exact ⟨k + 1, _, c8, A8, by omega, by go_num, rfl, E9.out, by rw [HT.out, HNe.out]; exact HO8.out, HB48.out⟩
                case measure => simp [intOf]; omega
    · obtain rfl : k = n := by omega
      have HA : Hid (X.take k = X) := List.take_of_length_le (by rw [HN.out]; exact Nat.le_refl _)
      have hks' := hks
      rw [hitI, HA.out] at hks'
      have HK := hidp hks'
      clear hks hks'
      go_wp2_with fail
      go_ret
      exact ⟨A1, m, c1, rfl, HK.out, hbe⟩
end Go.Proofs.Ytologegkbcedhaa
