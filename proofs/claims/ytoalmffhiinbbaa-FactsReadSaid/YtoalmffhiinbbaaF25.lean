/- The reference's SameChanges walked. -/
import Derived.Test.YtoalmffhiinbbaaF23
namespace Go.Proofs.Ytoalmffhiinbbaa
open Go.RowKit Go.Shelf

theorem ChOks.get {W : World} {raw : List Cr} {chs : List Ch} {k : Nat} {r : Cr} (h : ChOks W raw chs) (hr : raw[k]? = some r) : ∃ ch, chs[k]? = some ch ∧ ChOk W r ch := by
  have hl : k < chs.length := by rw [← h.1]; exact (List.getElem?_eq_some_iff.1 hr).1
  exact ⟨_, List.getElem?_eq_getElem hl, h.2 k r _ hr (List.getElem?_eq_getElem hl)⟩

set_option maxRecDepth 100000 in
set_option maxHeartbeats 2000000 in
theorem rSameChanges_any (A B : Option Addr) (n m ca cb : Nat) (ra rb : List Cr) (a b : List Ch) (w : World) (ha : cSl w w.heap.size A n ca ra) (hb : cSl w w.heap.size B m cb rb) (hca : ChOks w ra a) (hcb : ChOks w rb b) :
    Calls Try.prog 23 #[.slice A n ca, .slice B m cb] w fun e w' => e = .returned (.bool (decide (a = b))) ∧ Below w.heap.size w w' := by
  have HN := hidp (ha.1.trans hca.1)
  have HM := hidp (hb.1.trans hcb.1)
  have hcap := ha.2.2.1
  have hlen := ha.2.1
  have hcap2 := hb.2.2.1
  have hlen2 := hb.2.1
  by_cases hnm : n = m
  · subst hnm
    go_enter Try.func23, Try.ntmps23
    go_wp2_with fail
    go_loopw [5, 6] (fun i _ wr => ∃ k : Nat, k ≤ n ∧ i = .int .i64 k ∧ a.take k = b.take k ∧ Below w.heap.size w wr) (fun i _ _ => n - (intOf i).toNat)
    case atStart => exact ⟨0, by omega, rfl, rfl, Below.refl _ _⟩
    case round =>
      obtain ⟨k, hk, rfl, hab, hbe⟩ := hrel
      have HA := hidp hab
      clear hab
      by_cases hlt : k < n
      · obtain ⟨b1, o1, x, rfl, hb1, hzx, c0, c1, c2, c3⟩ := cSl.get (ha.below cStable hbe) hlt
        obtain ⟨b2, o2, y, rfl, hb2, hzy, d0, d1, d2, d3⟩ := cSl.get (hb.below cStable hbe) hlt
        obtain ⟨xk, xA, xn, xc⟩ := x
        obtain ⟨yk, yA, yn, yc⟩ := y
        obtain ⟨⟨xk', S⟩, hx1, hx2, hx3⟩ := (hca.below hbe).get hzx
        obtain ⟨⟨yk', T⟩, hy1, hy2, hy3⟩ := (hcb.below hbe).get hzy
        simp only at hx2 hx3 hy2 hy3 c0 c1 c2 c3 d0 d1 d2 d3
        subst hx2 hy2
        have HX := hidp hx1
        have HY := hidp hy1
        have hzx' := hzx
        have hzy' := hzy
        clear hzx hzy hx1 hy1
        have l1 := lt_of_cell c0
        have l2 := lt_of_cell d0
        obtain ⟨bo, hbo⟩ : ∃ bo, (!decide (xk = yk)) = bo := ⟨_, rfl⟩
        have hneq := fun W => k_neq xk yk W
        rw [hbo] at hneq
        have HB := hidp hbo
        have hkn : (k : Int) < n := by omega
        have HZX := hidp hzx'
        have HZY := hidp hzy'
        clear hbo hzx' hzy'
        have region : ∀ (Q : Bool → Prop), True → True := fun _ h => h
        clear region
        cases bo
        · have hke : xk = yk := by have := HB.out; simpa using this
          subst hke
          by_cases hxy : xn = yn
          · subst hxy
            go_wp2_with fail
            refine wp_region_below wr.heap.size (by kernel_rfl) (by kernel_rfl) ?_
            repeat
              first
              | go_big_quiet_skip
              | refine q_step (by rfl) ?_
                apply Exists.intro
                refine ⟨fun w9 h9 => ?_, ?_⟩
                · have hc9 := (bcell h9).1
                  go_simp
                  first | done | rfl
                go_simp
            refine wpQuiet_nil ?_
            intro w9 hb9
            have hbz := hbe.trans (hb9.mono hbe.size)
            have hS9 := hx3.keep sStable hb9.size hb9.block
            have hT9 := hy3.keep sStable hb9.size hb9.block
            have hHB := hbz
            have hnS := hidp hS9.1
            have hnT := hidp hT9.1
            have hsc := hS9.2.2.1
            have hsl := hS9.2.1
            clear hb9 c0 c1 c2 c3 d0 d1 d2 d3 l1 l2 hneq hbe hHB hx3 hy3
            obtain ⟨_, _, x', e, hbx, hzx, c0, c1, c2, c3⟩ := cSl.get (ha.below cStable hbz) hlt
            cases e
            cases HZX.out.symm.trans hzx
            simp only at c0 c1 c2 c3
            clear hzx
            go_wp2_with fail
            go_loopw [6] (fun t w2 => ∃ j : Nat, j ≤ xn ∧ t = .int .i64 j ∧ S.take j = T.take j ∧ Below w9.heap.size w9 w2) (fun t _ => xn - (intOf t).toNat)
            case atStart => exact ⟨0, by omega, rfl, rfl, Below.refl _ _⟩
            case round =>
              obtain ⟨j, hj, rfl, hst, hb2⟩ := hrel
              have HST := hidp hst
              clear hst c0 c1 c2 c3
              have hbw := hbz.trans (hb2.mono hbz.size)
              obtain ⟨_, _, x', e, _, hzx, c0, c1, c2, c3⟩ := cSl.get (ha.below cStable hbw) hlt
              cases e
              cases HZX.out.symm.trans hzx
              simp only at c0 c1 c2 c3
              obtain ⟨_, _, y', e, _, hzy, d0, d1, d2, d3⟩ := cSl.get (hb.below cStable hbw) hlt
              cases e
              cases HZY.out.symm.trans hzy
              simp only at d0 d1 d2 d3
              clear hzx hzy
              by_cases hjl : j < xn
              · obtain ⟨b5, o5, s, rfl, hb5, hzs, s0, s1⟩ := sSl.get (hS9.keep sStable hb2.size hb2.block) hjl
                obtain ⟨b6, o6, t, rfl, hb6, hzt, t0, t1⟩ := sSl.get (hT9.keep sStable hb2.size hb2.block) hjl
                have HS := hidp hzs
                have HT := hidp hzt
                have l1 := lt_of_cell c0
                have l2 := lt_of_cell d0
                have l3 := lt_of_cell s0
                have l4 := lt_of_cell t0
                obtain ⟨bo, hbo⟩ : ∃ bo, (!decide (s = t)) = bo := ⟨_, rfl⟩
                have hneq := fun W => s_neq s t W
                rw [hbo] at hneq
                have HB2 := hidp hbo
                clear hzs hzt hbo
                go_wp2_with fail
                refine wp_region_below wr.heap.size (by kernel_rfl) (by kernel_rfl) ?_
                repeat
                  refine q_step (by rfl) ?_
                  apply Exists.intro
                  refine ⟨fun w9 h9 => ?_, ?_⟩
                  · have hc9 := (bcell h9).1
                    go_simp
                    first | done | rfl
                  go_simp
                refine wpQuiet_nil ?_
                intro w5 hb5
                have hb25 := hb2.trans (hb5.mono hb2.size)
                cases bo
                · go_wp2_with fail
                  go_roundw
                  case rel => exact ⟨j + 1, by omega, by go_num, take_eq_step HST.out HS.out HT.out (by have := HB2.out; simpa using this), hb25⟩
                  case measure => simp [intOf]; omega
                · go_wp2_with fail
                  go_ret
                  refine ⟨ret_bool ?_, hbz.trans (hb25.mono hbz.size)⟩
                  symm
                  rw [decide_eq_false_iff_not]
                  rintro rfl
                  have := HX.out.symm.trans HY.out
                  injection this with this
                  injection this with _ this
                  subst this
                  have := HS.out.symm.trans HT.out
                  injection this with this
                  subst this
                  have := HB2.out
                  simp at this
              · obtain rfl : j = xn := by omega
                have HE : Hid (S = T) := by
                  have h1 := HST.out
                  rw [List.take_of_length_le (by rw [← hnS.out]; omega), List.take_of_length_le (by rw [← hnT.out]; omega)] at h1
                  exact h1
                go_wp2_with fail
                go_roundw
                case rel => exact ⟨k + 1, by omega, by go_num, take_eq_step HA.out HX.out HY.out (by rw [HE.out]), hbw⟩
                case measure => simp [intOf]; omega
          · have hne : ((xn : Int) != (yn : Int)) = true := by simp; omega
            have HNE := hidp hxy
            have HXL := hidp hx3.1
            have HYL := hidp hy3.1
            go_wp2_with fail
            refine wp_region_below wr.heap.size (by kernel_rfl) (by kernel_rfl) ?_
            repeat
              first
              | go_big_quiet_skip
              | refine q_step (by rfl) ?_
                apply Exists.intro
                refine ⟨fun w9 h9 => ?_, ?_⟩
                · have hc9 := (bcell h9).1
                  go_simp
                  first | done | rfl
                go_simp
            refine wpQuiet_nil ?_
            intro w9 hb9
            have hbz := hbe.trans (hb9.mono hbe.size)
            go_wp2_with fail
            go_ret
            refine ⟨ret_bool ?_, hbz⟩
            symm
            rw [decide_eq_false_iff_not]
            rintro rfl
            have := HX.out.symm.trans HY.out
            injection this with this
            injection this with _ this
            subst this
            exact HNE.out (HXL.out.trans HYL.out.symm)
        · go_wp2_with fail
          refine wp_region_below wr.heap.size (by kernel_rfl) (by kernel_rfl) ?_
          repeat
            first
            | go_big_quiet_skip
            | refine q_step (by rfl) ?_
              apply Exists.intro
              refine ⟨fun w9 h9 => ?_, ?_⟩
              · have hc9 := (bcell h9).1
                go_simp
                first | done | rfl
              go_simp
          refine wpQuiet_nil ?_
          intro w9 hb9
          have hbz := hbe.trans (hb9.mono hbe.size)
          go_wp2_with fail
          go_ret
          refine ⟨ret_bool ?_, hbz⟩
          symm
          rw [decide_eq_false_iff_not]
          rintro rfl
          have := HX.out.symm.trans HY.out
          injection this with this
          injection this with this _
          subst this
          have := HB.out
          simp at this
      · obtain rfl : k = n := by omega
        go_wp2_with fail
        go_ret
        refine ⟨ret_bool ?_, hbe⟩
        have h1 := HA.out
        rw [List.take_of_length_le (by rw [← HN.out]; omega), List.take_of_length_le (by rw [← HM.out]; omega)] at h1
        simp [h1]
  · have hne : ((n : Int) != (m : Int)) = true := by simp; omega
    go_enter Try.func23, Try.ntmps23
    go_wp2_with fail
    go_ret
    refine ⟨ret_bool ?_, Below.refl _ _⟩
    symm
    rw [decide_eq_false_iff_not]
    rintro rfl
    exact hnm (HN.out.trans HM.out.symm)
end Go.Proofs.Ytoalmffhiinbbaa
