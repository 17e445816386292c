import Derived.Test.YtefjigjjanjlkaaT14
namespace Go.Proofs.Ytefjigjjanjlkaa
open Go.RowKit Go.Shelf Go.ChangeShapes Go.WideShapes Go.ChangeAt

def covB (l : List Mt) (day week minute : Int) : Bool := l.any fun m => m.cov day week minute
def met1 (a b both : List Mt) (x : Mt) : Bool := both.any fun y => covB a x.day y.first x.fr && covB b x.day y.first x.fr
def metB (a b both : List Mt) : Bool := both.any fun x => met1 a b both x
theorem cov_iff (m : Mt) (d w t : Int) : m.cov d w t = true ↔ m.day = d ∧ m.first ≤ w ∧ w ≤ m.last ∧ m.fr ≤ t ∧ t < m.to := by
  simp [Mt.cov, and_assoc]
theorem ovP_of_cov {m x : Mt} {d w t : Int} (h : m.cov d w t = true) (h' : x.cov d w t = true) : Mt.ovP (m, x) = true := by
  rw [cov_iff] at h h'
  simp [Mt.ovP]
  omega
theorem clash_of_cov (a b : List Mt) (d w t : Int) (h : covB a d w t = true) (h' : covB b d w t = true) : clashB a b = true := by
  simp only [covB, clashB, List.any_eq_true] at *
  obtain ⟨m, hm, h1⟩ := h
  obtain ⟨x, hx, h2⟩ := h'
  exact ⟨m, hm, x, hx, ovP_of_cov h1 h2⟩
theorem met_eq (a b : List Mt) (ha : a.all Mt.ok = true) (hb : b.all Mt.ok = true) : metB a b (a ++ b) = clashB a b := by
  rw [Bool.eq_iff_iff]
  constructor
  · intro h
    simp only [metB, met1, List.any_eq_true, Bool.and_eq_true] at h
    obtain ⟨x, _, y, _, h1, h2⟩ := h
    exact clash_of_cov _ _ _ _ _ h1 h2
  · intro h
    simp only [clashB, List.any_eq_true] at h
    obtain ⟨m, hm, x, hx, h⟩ := h
    have hmo := m.ok_iff.1 (List.all_eq_true.1 ha m hm)
    have hxo := x.ok_iff.1 (List.all_eq_true.1 hb x hx)
    simp [Mt.ovP] at h
    obtain ⟨⟨hd, h1⟩, h2⟩ := h
    obtain ⟨p, hp, hpd, hpf⟩ : ∃ p ∈ a ++ b, p.day = m.day ∧ p.fr = max m.fr x.fr := by
      rcases Int.le_total m.fr x.fr with h | h
      · exact ⟨x, by simp [hx], hd.symm, by omega⟩
      · exact ⟨m, by simp [hm], rfl, by omega⟩
    obtain ⟨q, hq, hqf⟩ : ∃ q ∈ a ++ b, q.first = max m.first x.first := by
      rcases Int.le_total m.first x.first with h | h
      · exact ⟨x, by simp [hx], by omega⟩
      · exact ⟨m, by simp [hm], by omega⟩
    simp only [metB, met1, covB, List.any_eq_true, Bool.and_eq_true, cov_iff]
    exact ⟨p, hp, q, hq, ⟨m, hm, by omega⟩, ⟨x, hx, by omega⟩⟩
theorem any_snoc {α : Type} {l : List α} {k : Nat} {x : α} (h : l[k]? = some x) (p : α → Bool) : (l.take (k + 1)).any p = ((l.take k).any p || p x) := by
  rw [take_snoc h]; simp

def MomentsCalls : Prop := ∀ (A B : Option Addr) (n m ca cb : Nat) (a b : List Mt) (day week minute : Int) (w : World), MSl w w.heap.size A n ca a → MSl w w.heap.size B m cb b →
    Calls Try.prog 4 #[.slice A n ca, .slice B m cb, .int .i64 day, .int .i64 week, .int .i64 minute] w fun e w' => e = .returned (.bool true) ∧ Below w.heap.size w w'

set_option maxRecDepth 100000 in
set_option maxHeartbeats 4000000 in
theorem moments_calls : MomentsCalls := by
  intro A B n m ca cb a b day week minute w ha hb
  obtain ⟨i0, hi, hz, hs, hbb⟩ := info_parts mtInfo
  have hn := ha.2.1
  have hn' := ha.2.2.1
  have hm := hb.2.1
  have hm' := hb.2.2.1
  have HN := hidp ha.1
  have HM := hidp hb.1
  go_enter Try.func4, Try.ntmps4
  go_wp2_with fail
  refine (sane_any _).mono ?_
  rintro e w1 ⟨rfl, hb1⟩
  go_wp2_with fail
  refine (few2 A B n m ca cb w1 (by omega) (by omega)).mono ?_
  rintro e w2 ⟨rfl, hb2⟩
  have hB2 := hb1.trans (hb2.mono hb1.size)
  clear hb1 hb2
  rcases hfew : (decide (n ≤ 20) && decide (m ≤ 20)) with _ | _
  · clear hfew
    go_wp2_with fail
    go_ret
    exact ⟨rfl, hB2⟩
  · have hn20 : n ≤ 20 := by simp at hfew; omega
    have hm20 : m ≤ 20 := by simp at hfew; omega
    clear hfew
    have ra := ha.keep mStable hB2.size hB2.block
    have rb := hb.keep mStable hB2.size hB2.block
    clear ha hb
    rcases checkM_cases a with hc | ⟨hc, _, halla, _⟩
    · have HE : Hid (clashE a b = 220) := by show _ = _; rw [clashE, hc]; rfl
      have HR : Hid (clashR a b = false) := by show _ = _; rw [clashR, HE.out]; rfl
      have HC := hidp hc
      clear hc
      go_wp2_with fail
      refine (clash_any _ _ _ _ _ _ _ _ _ ra rb).mono ?_
      rintro e w3 ⟨rfl, hb3⟩
      rw [HE.out, HR.out]
      have hB3 := hB2.trans (hb3.mono hB2.size)
      go_wp2_with fail
      refine (check_any _ _ _ _ _ (ra.keep mStable hb3.size hb3.block)).mono ?_
      rintro e w4 ⟨rfl, hb4⟩
      rw [HC.out]
      go_wp2_with fail
      go_ret
      exact ⟨rfl, hB3.trans (hb4.mono hB3.size)⟩
    · rcases checkM_cases b with hc' | ⟨hc', _, hallb, _⟩
      · have HE : Hid (clashE a b = 220) := by show _ = _; rw [clashE, hc, hc']; rfl
        have HR : Hid (clashR a b = false) := by show _ = _; rw [clashR, HE.out]; rfl
        have HC := hidp hc
        have HC' := hidp hc'
        clear hc hc'
        go_wp2_with fail
        refine (clash_any _ _ _ _ _ _ _ _ _ ra rb).mono ?_
        rintro e w3 ⟨rfl, hb3⟩
        rw [HE.out, HR.out]
        have hB3 := hB2.trans (hb3.mono hB2.size)
        go_wp2_with fail
        refine (check_any _ _ _ _ _ (ra.keep mStable hb3.size hb3.block)).mono ?_
        rintro e w4 ⟨rfl, hb4⟩
        rw [HC.out]
        have hB4 := hb3.trans (hb4.mono hb3.size)
        go_wp2_with fail
        refine (check_any _ _ _ _ _ (rb.keep mStable hB4.size hB4.block)).mono ?_
        rintro e w5 ⟨rfl, hb5⟩
        rw [HC'.out]
        go_wp2_with fail
        go_ret
        exact ⟨rfl, hB3.trans ((hb4.trans (hb5.mono hb4.size)).mono hB3.size)⟩
      · have HE : Hid (clashE a b = 0) := by show _ = _; rw [clashE, hc, hc']; rfl
        have HR : Hid (clashR a b = clashB a b) := by show _ = _; rw [clashR, HE.out]; simp
        have HM1 := hidp (met_eq a b halla hallb)
        have HCov := hidp (clash_of_cov a b day week minute)
        clear hc hc' halla hallb
        obtain ⟨cl, hcl⟩ : ∃ cl, clashB a b = cl := ⟨_, rfl⟩
        have HCL := hidp hcl
        obtain ⟨za, hza⟩ : ∃ z, covB a day week minute = z := ⟨_, rfl⟩
        have HZA := hidp hza
        obtain ⟨zb, hzb⟩ : ∃ z, covB b day week minute = z := ⟨_, rfl⟩
        have HZB := hidp hzb
        clear hcl hza hzb
        go_wp2_with fail
        refine (clash_any _ _ _ _ _ _ _ _ _ ra rb).mono ?_
        rintro e w3 ⟨rfl, hb3⟩
        rw [HE.out, HR.out, HCL.out]
        have hB3 := hB2.trans (hb3.mono hB2.size)
        have ra3 := ra.keep mStable hb3.size hb3.block
        have rb3 := rb.keep mStable hb3.size hb3.block
        clear ra rb hb3 hB2
        go_wp2_with fail
        refine (covered_any _ _ _ _ day week minute _ ra3).mono ?_
        rintro e w4 ⟨rfl, hb4⟩
        rw [show (a.any fun m => m.cov day week minute) = za from HZA.out]
        have hB4 := hB3.trans (hb4.mono hB3.size)
        have ra4 := ra3.keep mStable hb4.size hb4.block
        have rb4 := rb3.keep mStable hb4.size hb4.block
        clear ra3 rb3 hb4 hB3
        cases za
        · have ra6 := ra4
          have rb6 := rb4
          have hB6 := hB4
          obtain ⟨w6, hw6⟩ : ∃ w6 : World, w6 = w4 := ⟨_, rfl⟩
          subst hw6
          clear ra4 rb4 hB4
          have hown0 := World.ownsRow_made (e := 38) (size := 5) w6 #[] 0 (Nat.le_refl _) (by decide) (by simp)
          obtain ⟨v1, w7, hrun1, hown1, hg1, hat1⟩ := run_append_rows (P := Try.prog) (ty := 22) (l := []) (enc := mEnc) Try.underlying22 hi hz hs hbb rfl mEnc_len (by decide) mEnc_one hown0 (ra6.keep mStable (W' := w6.alloc (.cells #[] 38)) (Nat.le_refl _) (fun b hb => Below.heap_alloc _ _ _ hb)) (by omega) (by omega) (by simp)
          have hB7 : Below w6.heap.size w6 w7 := ((Below.refl _ _).alloc (Nat.le_refl _) _).grown hg1 (by simp) (fun g hg => by simp [Value.ownBlock] at hg; omega)
          obtain ⟨v2, w8, hrun2, hown2, hg2, hat2⟩ := run_append_rows (P := Try.prog) (ty := 22) (enc := mEnc) Try.underlying22 hi hz hs hbb rfl mEnc_len (by decide) mEnc_one hown1 (rb6.keep mStable hB7.size hB7.block) (by omega) (by omega) hB7.size
          have hB8 : Below w6.heap.size w6 w8 := hB7.grown hg2 hB7.size (fun g hg => (hown1.lt g hg).1)
          obtain ⟨Ab, cb', rfl, rboth⟩ := own_rows mEnc_len (by decide) hown2
          have ra8 := ra6.keep mStable hB8.size hB8.block
          have rb8 := rb6.keep mStable hB8.size hB8.block
          have hB8' := hB6.trans (hB8.mono hB6.size)
          have HNB := hidp rboth.1
          have hnb : 0 + n + m ≤ 40 := by omega
          generalize hLL : 0 + n + m = L at *
          have HLL := hidp hLL
          clear hLL
          have hcb1 := rboth.2.1
          have hcb2 := rboth.2.2.1
          clear hown0 hown1 hown2 hg1 hg2 hat1 hat2 hB7 hB8 ra6 rb6 hB6
          go_wp2_with (first | (at_builtin; refine wpList_append_known rfl (.tmp 66) (.tmp 67) 22 rfl rfl rfl hrun1 ?_) | (at_builtin; refine wpList_append_known rfl (.tmp 68) (.tmp 69) 22 rfl rfl rfl hrun2 ?_))
          clear hrun1 hrun2
          simp only [List.nil_append] at rboth HNB
          go_loopw [14, 16, 18, 73] (fun mt _ _ i wr => ∃ k : Nat, k ≤ L ∧ i = .int .i64 k ∧ mt = .bool (((a ++ b).take k).any fun x => met1 a b (a ++ b) x) ∧ Below w8.heap.size w8 wr) (fun _ _ _ i _ => L - (intOf i).toNat)
          case atStart => exact ⟨0, by omega, rfl, rfl, Below.refl _ _⟩
          case round =>
            obtain ⟨k, hk, rfl, rfl, hbe⟩ := hrel
            by_cases hlt : k < L
            · obtain ⟨b1, o1, x, rfl, hb1, hzx, c0, c1, c2, c3, c4⟩ := MSl.get (rboth.below mStable hbe) hlt
              have HX := hidp hzx
              have hbx := lt_of_cell c0
              obtain ⟨z0, hz0⟩ : ∃ z, (((a ++ b).take k).any fun x => met1 a b (a ++ b) x) = z := ⟨_, rfl⟩
              have HZ0 := hidp hz0
              rw [hz0]
              clear hzx hz0
              have hnew := World.alloc_heap_new wr (.cells #[.int .i64 x.day, .int .i64 x.fr, .int .i64 x.to, .int .i64 x.first, .int .i64 x.last] 38)
              have hby : Below w8.heap.size w8 (wr.alloc (.cells #[.int .i64 x.day, .int .i64 x.fr, .int .i64 x.to, .int .i64 x.first, .int .i64 x.last] 38)) := hbe.alloc hbe.size _
              have hw8r := hbe.size
              go_wp2_with fail
              obtain ⟨wo, hwo⟩ : ∃ wo : World, wo = wr := ⟨_, rfl⟩
              subst hwo
              go_loopw [14, 18, 79] (fun mt _ i wr => ∃ j : Nat, j ≤ L ∧ i = .int .i64 j ∧ mt = .bool (z0 || ((a ++ b).take j).any fun y => covB a x.day y.first x.fr && covB b x.day y.first x.fr) ∧ Below w8.heap.size w8 wr ∧ wr.heap[wo.heap.size]? = some (.cells #[.int .i64 x.day, .int .i64 x.fr, .int .i64 x.to, .int .i64 x.first, .int .i64 x.last] 38 (0, 0))) (fun _ _ i _ => L - (intOf i).toNat)
              case atStart => exact ⟨0, by omega, rfl, by simp, hby, hnew⟩
              case round =>
                obtain ⟨j, hj, rfl, rfl, hbe2, hxb⟩ := hrel
                by_cases hlt2 : j < L
                · obtain ⟨b2, o2, y, he, hb2, hzy, d0, d1, d2, d3, d4⟩ := MSl.get (rboth.below mStable hbe2) hlt2
                  simp only [Option.some.injEq, Addr.mk.injEq, and_true] at he
                  obtain ⟨rfl, rfl⟩ := he
                  have HY := hidp hzy
                  have e0 := cell_of_heap (o := 0) hxb
                  have e1 := cell_of_heap (o := 1) hxb
                  simp only [List.getElem?_toArray, List.getElem?_cons_zero, List.getElem?_cons_succ] at e0 e1
                  have hxl := lt_of_heap hxb
                  have HXB := hidp hxb
                  have hbz : Below w8.heap.size w8 (wr.alloc (.cells #[.int .i64 y.day, .int .i64 y.fr, .int .i64 y.to, .int .i64 y.first, .int .i64 y.last] 38)) := hbe2.alloc hbe2.size _
                  have hxz := (Below.heap_alloc wr (.cells #[.int .i64 y.day, .int .i64 y.fr, .int .i64 y.to, .int .i64 y.first, .int .i64 y.last] 38) _ hxl).trans hxb
                  have HXZ := hidp hxz
                  obtain ⟨z1, hz1⟩ : ∃ z, (z0 || ((a ++ b).take j).any fun y => covB a x.day y.first x.fr && covB b x.day y.first x.fr) = z := ⟨_, rfl⟩
                  have HZ1 := hidp hz1
                  rw [hz1]
                  obtain ⟨za2, hza2⟩ : ∃ z, covB a x.day y.first x.fr = z := ⟨_, rfl⟩
                  have HA2 := hidp hza2
                  obtain ⟨zb2, hzb2⟩ : ∃ z, covB b x.day y.first x.fr = z := ⟨_, rfl⟩
                  have HB2 := hidp hzb2
                  have HS : Hid ((z0 || ((a ++ b).take (j + 1)).any fun y => covB a x.day y.first x.fr && covB b x.day y.first x.fr) = (z1 || (za2 && zb2))) := by
                    show _ = _
                    rw [any_snoc hzy, ← Bool.or_assoc, hz1, hza2, hzb2]
                  clear hzy hxb hxz hz1 hza2 hzb2
                  cases z1
                  · go_wp2_with fail
                    refine (covered_any _ _ _ _ x.day y.first x.fr _ (ra8.keep mStable hbz.size hbz.block)).mono ?_
                    rintro e w9 ⟨rfl, hb9⟩
                    rw [show (a.any fun m => m.cov x.day y.first x.fr) = za2 from HA2.out]
                    obtain ⟨hc9, hf9⟩ := bcell hb9
                    have hz9 := hb9.size
                    have hb89 := hbz.trans (hb9.mono hbz.size)
                    have hx9 := (hb9.block _ (by simp; omega)).trans HXZ.out
                    have H9 := hidp hx9
                    clear hx9
                    cases za2
                    · go_wp2_with fail
                      go_roundw
                      case rel => first | exact ⟨j + 1, by omega, by go_num, by rw [HS.out]; rfl, hb89, H9.out⟩ | fail
                      case measure => simp [intOf]; omega
                    · have g0 := cell_of_heap (o := 0) H9.out
                      have g1 := cell_of_heap (o := 1) H9.out
                      have hnew2 := (hb9.block _ (by simp)).trans (World.alloc_heap_new wr (.cells #[.int .i64 y.day, .int .i64 y.fr, .int .i64 y.to, .int .i64 y.first, .int .i64 y.last] 38))
                      have g2 := cell_of_heap (o := 3) hnew2
                      simp only [List.getElem?_toArray, List.getElem?_cons_zero, List.getElem?_cons_succ] at g0 g1 g2
                      clear hnew2 hc9 hf9
                      go_wp2_with fail
                      refine (covered_any _ _ _ _ x.day y.first x.fr _ (rb8.keep mStable hb89.size hb89.block)).mono ?_
                      rintro e w10 ⟨rfl, hb10⟩
                      rw [show (b.any fun m => m.cov x.day y.first x.fr) = zb2 from HB2.out]
                      have hx10 := (hb10.block _ (lt_of_heap H9.out)).trans H9.out
                      have H10 := hidp hx10
                      clear hx10
                      go_wp2_with fail
                      go_roundw
                      case rel => first | exact ⟨j + 1, by omega, by go_num, by rw [HS.out]; rfl, hb89.trans (hb10.mono hb89.size), H10.out⟩ | fail
                      case measure => simp [intOf]; omega
                  · go_wp2_with fail
                    go_roundw
                    case rel => exact ⟨j + 1, by omega, by go_num, by rw [HS.out]; rfl, hbz, HXZ.out⟩
                    case measure => simp [intOf]; omega
                · obtain rfl : j = L := by omega
                  go_wp2_with fail
                  go_roundw
                  case rel => exact ⟨k + 1, by omega, by go_num, by rw [any_snoc HX.out, HZ0.out, met1, List.take_of_length_le (by rw [← HNB.out]; omega)], hbe2⟩
                  case measure => simp [intOf]; omega
            · obtain rfl : k = L := by omega
              have hmet := HM1.out
              rw [metB] at hmet
              rw [List.take_of_length_le (by rw [← HNB.out]; omega), hmet, HCL.out]
              clear hmet
              go_wp2_with fail
              go_ret
              exact ⟨ret_bool (by simp), hB8'.trans (hbe.mono hB8'.size)⟩
        · go_wp2_with fail
          refine (covered_any _ _ _ _ day week minute _ rb4).mono ?_
          rintro e w6 ⟨rfl, hb6⟩
          rw [show (b.any fun m => m.cov day week minute) = zb from HZB.out]
          have hB6 := hB4.trans (hb6.mono hB4.size)
          have ra6 := ra4.keep mStable hb6.size hb6.block
          have rb6 := rb4.keep mStable hb6.size hb6.block
          clear ra4 rb4 hB4 hb6
          cases zb
          · skip
            have hown0 := World.ownsRow_made (e := 38) (size := 5) w6 #[] 0 (Nat.le_refl _) (by decide) (by simp)
            obtain ⟨v1, w7, hrun1, hown1, hg1, hat1⟩ := run_append_rows (P := Try.prog) (ty := 22) (l := []) (enc := mEnc) Try.underlying22 hi hz hs hbb rfl mEnc_len (by decide) mEnc_one hown0 (ra6.keep mStable (W' := w6.alloc (.cells #[] 38)) (Nat.le_refl _) (fun b hb => Below.heap_alloc _ _ _ hb)) (by omega) (by omega) (by simp)
            have hB7 : Below w6.heap.size w6 w7 := ((Below.refl _ _).alloc (Nat.le_refl _) _).grown hg1 (by simp) (fun g hg => by simp [Value.ownBlock] at hg; omega)
            obtain ⟨v2, w8, hrun2, hown2, hg2, hat2⟩ := run_append_rows (P := Try.prog) (ty := 22) (enc := mEnc) Try.underlying22 hi hz hs hbb rfl mEnc_len (by decide) mEnc_one hown1 (rb6.keep mStable hB7.size hB7.block) (by omega) (by omega) hB7.size
            have hB8 : Below w6.heap.size w6 w8 := hB7.grown hg2 hB7.size (fun g hg => (hown1.lt g hg).1)
            obtain ⟨Ab, cb', rfl, rboth⟩ := own_rows mEnc_len (by decide) hown2
            have ra8 := ra6.keep mStable hB8.size hB8.block
            have rb8 := rb6.keep mStable hB8.size hB8.block
            have hB8' := hB6.trans (hB8.mono hB6.size)
            have HNB := hidp rboth.1
            have hnb : 0 + n + m ≤ 40 := by omega
            generalize hLL : 0 + n + m = L at *
            have HLL := hidp hLL
            clear hLL
            have hcb1 := rboth.2.1
            have hcb2 := rboth.2.2.1
            clear hown0 hown1 hown2 hg1 hg2 hat1 hat2 hB7 hB8 ra6 rb6 hB6
            go_wp2_with (first | (at_builtin; refine wpList_append_known rfl (.tmp 66) (.tmp 67) 22 rfl rfl rfl hrun1 ?_) | (at_builtin; refine wpList_append_known rfl (.tmp 68) (.tmp 69) 22 rfl rfl rfl hrun2 ?_))
            clear hrun1 hrun2
            simp only [List.nil_append] at rboth HNB
            go_loopw [14, 16, 18, 73] (fun mt _ _ i wr => ∃ k : Nat, k ≤ L ∧ i = .int .i64 k ∧ mt = .bool (((a ++ b).take k).any fun x => met1 a b (a ++ b) x) ∧ Below w8.heap.size w8 wr) (fun _ _ _ i _ => L - (intOf i).toNat)
            case atStart => exact ⟨0, by omega, rfl, rfl, Below.refl _ _⟩
            case round =>
              obtain ⟨k, hk, rfl, rfl, hbe⟩ := hrel
              by_cases hlt : k < L
              · obtain ⟨b1, o1, x, rfl, hb1, hzx, c0, c1, c2, c3, c4⟩ := MSl.get (rboth.below mStable hbe) hlt
                have HX := hidp hzx
                have hbx := lt_of_cell c0
                obtain ⟨z0, hz0⟩ : ∃ z, (((a ++ b).take k).any fun x => met1 a b (a ++ b) x) = z := ⟨_, rfl⟩
                have HZ0 := hidp hz0
                rw [hz0]
                clear hzx hz0
                have hnew := World.alloc_heap_new wr (.cells #[.int .i64 x.day, .int .i64 x.fr, .int .i64 x.to, .int .i64 x.first, .int .i64 x.last] 38)
                have hby : Below w8.heap.size w8 (wr.alloc (.cells #[.int .i64 x.day, .int .i64 x.fr, .int .i64 x.to, .int .i64 x.first, .int .i64 x.last] 38)) := hbe.alloc hbe.size _
                have hw8r := hbe.size
                go_wp2_with fail
                obtain ⟨wo, hwo⟩ : ∃ wo : World, wo = wr := ⟨_, rfl⟩
                subst hwo
                go_loopw [14, 18, 79] (fun mt _ i wr => ∃ j : Nat, j ≤ L ∧ i = .int .i64 j ∧ mt = .bool (z0 || ((a ++ b).take j).any fun y => covB a x.day y.first x.fr && covB b x.day y.first x.fr) ∧ Below w8.heap.size w8 wr ∧ wr.heap[wo.heap.size]? = some (.cells #[.int .i64 x.day, .int .i64 x.fr, .int .i64 x.to, .int .i64 x.first, .int .i64 x.last] 38 (0, 0))) (fun _ _ i _ => L - (intOf i).toNat)
                case atStart => exact ⟨0, by omega, rfl, by simp, hby, hnew⟩
                case round =>
                  obtain ⟨j, hj, rfl, rfl, hbe2, hxb⟩ := hrel
                  by_cases hlt2 : j < L
                  · obtain ⟨b2, o2, y, he, hb2, hzy, d0, d1, d2, d3, d4⟩ := MSl.get (rboth.below mStable hbe2) hlt2
                    simp only [Option.some.injEq, Addr.mk.injEq, and_true] at he
                    obtain ⟨rfl, rfl⟩ := he
                    have HY := hidp hzy
                    have e0 := cell_of_heap (o := 0) hxb
                    have e1 := cell_of_heap (o := 1) hxb
                    simp only [List.getElem?_toArray, List.getElem?_cons_zero, List.getElem?_cons_succ] at e0 e1
                    have hxl := lt_of_heap hxb
                    have HXB := hidp hxb
                    have hbz : Below w8.heap.size w8 (wr.alloc (.cells #[.int .i64 y.day, .int .i64 y.fr, .int .i64 y.to, .int .i64 y.first, .int .i64 y.last] 38)) := hbe2.alloc hbe2.size _
                    have hxz := (Below.heap_alloc wr (.cells #[.int .i64 y.day, .int .i64 y.fr, .int .i64 y.to, .int .i64 y.first, .int .i64 y.last] 38) _ hxl).trans hxb
                    have HXZ := hidp hxz
                    obtain ⟨z1, hz1⟩ : ∃ z, (z0 || ((a ++ b).take j).any fun y => covB a x.day y.first x.fr && covB b x.day y.first x.fr) = z := ⟨_, rfl⟩
                    have HZ1 := hidp hz1
                    rw [hz1]
                    obtain ⟨za2, hza2⟩ : ∃ z, covB a x.day y.first x.fr = z := ⟨_, rfl⟩
                    have HA2 := hidp hza2
                    obtain ⟨zb2, hzb2⟩ : ∃ z, covB b x.day y.first x.fr = z := ⟨_, rfl⟩
                    have HB2 := hidp hzb2
                    have HS : Hid ((z0 || ((a ++ b).take (j + 1)).any fun y => covB a x.day y.first x.fr && covB b x.day y.first x.fr) = (z1 || (za2 && zb2))) := by
                      show _ = _
                      rw [any_snoc hzy, ← Bool.or_assoc, hz1, hza2, hzb2]
                    clear hzy hxb hxz hz1 hza2 hzb2
                    cases z1
                    · go_wp2_with fail
                      refine (covered_any _ _ _ _ x.day y.first x.fr _ (ra8.keep mStable hbz.size hbz.block)).mono ?_
                      rintro e w9 ⟨rfl, hb9⟩
                      rw [show (a.any fun m => m.cov x.day y.first x.fr) = za2 from HA2.out]
                      obtain ⟨hc9, hf9⟩ := bcell hb9
                      have hz9 := hb9.size
                      have hb89 := hbz.trans (hb9.mono hbz.size)
                      have hx9 := (hb9.block _ (by simp; omega)).trans HXZ.out
                      have H9 := hidp hx9
                      clear hx9
                      cases za2
                      · go_wp2_with fail
                        go_roundw
                        case rel => first | exact ⟨j + 1, by omega, by go_num, by rw [HS.out]; rfl, hb89, H9.out⟩ | fail
                        case measure => simp [intOf]; omega
                      · have g0 := cell_of_heap (o := 0) H9.out
                        have g1 := cell_of_heap (o := 1) H9.out
                        have hnew2 := (hb9.block _ (by simp)).trans (World.alloc_heap_new wr (.cells #[.int .i64 y.day, .int .i64 y.fr, .int .i64 y.to, .int .i64 y.first, .int .i64 y.last] 38))
                        have g2 := cell_of_heap (o := 3) hnew2
                        simp only [List.getElem?_toArray, List.getElem?_cons_zero, List.getElem?_cons_succ] at g0 g1 g2
                        clear hnew2 hc9 hf9
                        go_wp2_with fail
                        refine (covered_any _ _ _ _ x.day y.first x.fr _ (rb8.keep mStable hb89.size hb89.block)).mono ?_
                        rintro e w10 ⟨rfl, hb10⟩
                        rw [show (b.any fun m => m.cov x.day y.first x.fr) = zb2 from HB2.out]
                        have hx10 := (hb10.block _ (lt_of_heap H9.out)).trans H9.out
                        have H10 := hidp hx10
                        clear hx10
                        go_wp2_with fail
                        go_roundw
                        case rel => first | exact ⟨j + 1, by omega, by go_num, by rw [HS.out]; rfl, hb89.trans (hb10.mono hb89.size), H10.out⟩ | fail
                        case measure => simp [intOf]; omega
                    · go_wp2_with fail
                      go_roundw
                      case rel => exact ⟨j + 1, by omega, by go_num, by rw [HS.out]; rfl, hbz, HXZ.out⟩
                      case measure => simp [intOf]; omega
                  · obtain rfl : j = L := by omega
                    go_wp2_with fail
                    go_roundw
                    case rel => exact ⟨k + 1, by omega, by go_num, by rw [any_snoc HX.out, HZ0.out, met1, List.take_of_length_le (by rw [← HNB.out]; omega)], hbe2⟩
                    case measure => simp [intOf]; omega
              · obtain rfl : k = L := by omega
                have hmet := HM1.out
                rw [metB] at hmet
                rw [List.take_of_length_le (by rw [← HNB.out]; omega), hmet, HCL.out]
                clear hmet
                go_wp2_with fail
                go_ret
                exact ⟨ret_bool (by simp), hB8'.trans (hbe.mono hB8'.size)⟩
          · obtain rfl : cl = true := by rw [← HCL.out]; exact HCov.out HZA.out HZB.out
            have hown0 := World.ownsRow_made (e := 38) (size := 5) w6 #[] 0 (Nat.le_refl _) (by decide) (by simp)
            obtain ⟨v1, w7, hrun1, hown1, hg1, hat1⟩ := run_append_rows (P := Try.prog) (ty := 22) (l := []) (enc := mEnc) Try.underlying22 hi hz hs hbb rfl mEnc_len (by decide) mEnc_one hown0 (ra6.keep mStable (W' := w6.alloc (.cells #[] 38)) (Nat.le_refl _) (fun b hb => Below.heap_alloc _ _ _ hb)) (by omega) (by omega) (by simp)
            have hB7 : Below w6.heap.size w6 w7 := ((Below.refl _ _).alloc (Nat.le_refl _) _).grown hg1 (by simp) (fun g hg => by simp [Value.ownBlock] at hg; omega)
            obtain ⟨v2, w8, hrun2, hown2, hg2, hat2⟩ := run_append_rows (P := Try.prog) (ty := 22) (enc := mEnc) Try.underlying22 hi hz hs hbb rfl mEnc_len (by decide) mEnc_one hown1 (rb6.keep mStable hB7.size hB7.block) (by omega) (by omega) hB7.size
            have hB8 : Below w6.heap.size w6 w8 := hB7.grown hg2 hB7.size (fun g hg => (hown1.lt g hg).1)
            obtain ⟨Ab, cb', rfl, rboth⟩ := own_rows mEnc_len (by decide) hown2
            have ra8 := ra6.keep mStable hB8.size hB8.block
            have rb8 := rb6.keep mStable hB8.size hB8.block
            have hB8' := hB6.trans (hB8.mono hB6.size)
            have HNB := hidp rboth.1
            have hnb : 0 + n + m ≤ 40 := by omega
            generalize hLL : 0 + n + m = L at *
            have HLL := hidp hLL
            clear hLL
            have hcb1 := rboth.2.1
            have hcb2 := rboth.2.2.1
            clear hown0 hown1 hown2 hg1 hg2 hat1 hat2 hB7 hB8 ra6 rb6 hB6
            go_wp2_with (first | (at_builtin; refine wpList_append_known rfl (.tmp 66) (.tmp 67) 22 rfl rfl rfl hrun1 ?_) | (at_builtin; refine wpList_append_known rfl (.tmp 68) (.tmp 69) 22 rfl rfl rfl hrun2 ?_))
            clear hrun1 hrun2
            simp only [List.nil_append] at rboth HNB
            go_loopw [14, 16, 18, 73] (fun mt _ _ i wr => ∃ k : Nat, k ≤ L ∧ i = .int .i64 k ∧ mt = .bool (((a ++ b).take k).any fun x => met1 a b (a ++ b) x) ∧ Below w8.heap.size w8 wr) (fun _ _ _ i _ => L - (intOf i).toNat)
            case atStart => exact ⟨0, by omega, rfl, rfl, Below.refl _ _⟩
            case round =>
              obtain ⟨k, hk, rfl, rfl, hbe⟩ := hrel
              by_cases hlt : k < L
              · obtain ⟨b1, o1, x, rfl, hb1, hzx, c0, c1, c2, c3, c4⟩ := MSl.get (rboth.below mStable hbe) hlt
                have HX := hidp hzx
                have hbx := lt_of_cell c0
                obtain ⟨z0, hz0⟩ : ∃ z, (((a ++ b).take k).any fun x => met1 a b (a ++ b) x) = z := ⟨_, rfl⟩
                have HZ0 := hidp hz0
                rw [hz0]
                clear hzx hz0
                have hnew := World.alloc_heap_new wr (.cells #[.int .i64 x.day, .int .i64 x.fr, .int .i64 x.to, .int .i64 x.first, .int .i64 x.last] 38)
                have hby : Below w8.heap.size w8 (wr.alloc (.cells #[.int .i64 x.day, .int .i64 x.fr, .int .i64 x.to, .int .i64 x.first, .int .i64 x.last] 38)) := hbe.alloc hbe.size _
                have hw8r := hbe.size
                go_wp2_with fail
                obtain ⟨wo, hwo⟩ : ∃ wo : World, wo = wr := ⟨_, rfl⟩
                subst hwo
                go_loopw [14, 18, 79] (fun mt _ i wr => ∃ j : Nat, j ≤ L ∧ i = .int .i64 j ∧ mt = .bool (z0 || ((a ++ b).take j).any fun y => covB a x.day y.first x.fr && covB b x.day y.first x.fr) ∧ Below w8.heap.size w8 wr ∧ wr.heap[wo.heap.size]? = some (.cells #[.int .i64 x.day, .int .i64 x.fr, .int .i64 x.to, .int .i64 x.first, .int .i64 x.last] 38 (0, 0))) (fun _ _ i _ => L - (intOf i).toNat)
                case atStart => exact ⟨0, by omega, rfl, by simp, hby, hnew⟩
                case round =>
                  obtain ⟨j, hj, rfl, rfl, hbe2, hxb⟩ := hrel
                  by_cases hlt2 : j < L
                  · obtain ⟨b2, o2, y, he, hb2, hzy, d0, d1, d2, d3, d4⟩ := MSl.get (rboth.below mStable hbe2) hlt2
                    simp only [Option.some.injEq, Addr.mk.injEq, and_true] at he
                    obtain ⟨rfl, rfl⟩ := he
                    have HY := hidp hzy
                    have e0 := cell_of_heap (o := 0) hxb
                    have e1 := cell_of_heap (o := 1) hxb
                    simp only [List.getElem?_toArray, List.getElem?_cons_zero, List.getElem?_cons_succ] at e0 e1
                    have hxl := lt_of_heap hxb
                    have HXB := hidp hxb
                    have hbz : Below w8.heap.size w8 (wr.alloc (.cells #[.int .i64 y.day, .int .i64 y.fr, .int .i64 y.to, .int .i64 y.first, .int .i64 y.last] 38)) := hbe2.alloc hbe2.size _
                    have hxz := (Below.heap_alloc wr (.cells #[.int .i64 y.day, .int .i64 y.fr, .int .i64 y.to, .int .i64 y.first, .int .i64 y.last] 38) _ hxl).trans hxb
                    have HXZ := hidp hxz
                    obtain ⟨z1, hz1⟩ : ∃ z, (z0 || ((a ++ b).take j).any fun y => covB a x.day y.first x.fr && covB b x.day y.first x.fr) = z := ⟨_, rfl⟩
                    have HZ1 := hidp hz1
                    rw [hz1]
                    obtain ⟨za2, hza2⟩ : ∃ z, covB a x.day y.first x.fr = z := ⟨_, rfl⟩
                    have HA2 := hidp hza2
                    obtain ⟨zb2, hzb2⟩ : ∃ z, covB b x.day y.first x.fr = z := ⟨_, rfl⟩
                    have HB2 := hidp hzb2
                    have HS : Hid ((z0 || ((a ++ b).take (j + 1)).any fun y => covB a x.day y.first x.fr && covB b x.day y.first x.fr) = (z1 || (za2 && zb2))) := by
                      show _ = _
                      rw [any_snoc hzy, ← Bool.or_assoc, hz1, hza2, hzb2]
                    clear hzy hxb hxz hz1 hza2 hzb2
                    cases z1
                    · go_wp2_with fail
                      refine (covered_any _ _ _ _ x.day y.first x.fr _ (ra8.keep mStable hbz.size hbz.block)).mono ?_
                      rintro e w9 ⟨rfl, hb9⟩
                      rw [show (a.any fun m => m.cov x.day y.first x.fr) = za2 from HA2.out]
                      obtain ⟨hc9, hf9⟩ := bcell hb9
                      have hz9 := hb9.size
                      have hb89 := hbz.trans (hb9.mono hbz.size)
                      have hx9 := (hb9.block _ (by simp; omega)).trans HXZ.out
                      have H9 := hidp hx9
                      clear hx9
                      cases za2
                      · go_wp2_with fail
                        go_roundw
                        case rel => first | exact ⟨j + 1, by omega, by go_num, by rw [HS.out]; rfl, hb89, H9.out⟩ | fail
                        case measure => simp [intOf]; omega
                      · have g0 := cell_of_heap (o := 0) H9.out
                        have g1 := cell_of_heap (o := 1) H9.out
                        have hnew2 := (hb9.block _ (by simp)).trans (World.alloc_heap_new wr (.cells #[.int .i64 y.day, .int .i64 y.fr, .int .i64 y.to, .int .i64 y.first, .int .i64 y.last] 38))
                        have g2 := cell_of_heap (o := 3) hnew2
                        simp only [List.getElem?_toArray, List.getElem?_cons_zero, List.getElem?_cons_succ] at g0 g1 g2
                        clear hnew2 hc9 hf9
                        go_wp2_with fail
                        refine (covered_any _ _ _ _ x.day y.first x.fr _ (rb8.keep mStable hb89.size hb89.block)).mono ?_
                        rintro e w10 ⟨rfl, hb10⟩
                        rw [show (b.any fun m => m.cov x.day y.first x.fr) = zb2 from HB2.out]
                        have hx10 := (hb10.block _ (lt_of_heap H9.out)).trans H9.out
                        have H10 := hidp hx10
                        clear hx10
                        go_wp2_with fail
                        go_roundw
                        case rel => first | exact ⟨j + 1, by omega, by go_num, by rw [HS.out]; rfl, hb89.trans (hb10.mono hb89.size), H10.out⟩ | fail
                        case measure => simp [intOf]; omega
                    · go_wp2_with fail
                      go_roundw
                      case rel => exact ⟨j + 1, by omega, by go_num, by rw [HS.out]; rfl, hbz, HXZ.out⟩
                      case measure => simp [intOf]; omega
                  · obtain rfl : j = L := by omega
                    go_wp2_with fail
                    go_roundw
                    case rel => exact ⟨k + 1, by omega, by go_num, by rw [any_snoc HX.out, HZ0.out, met1, List.take_of_length_le (by rw [← HNB.out]; omega)], hbe2⟩
                    case measure => simp [intOf]; omega
              · obtain rfl : k = L := by omega
                have hmet := HM1.out
                rw [metB] at hmet
                rw [List.take_of_length_le (by rw [← HNB.out]; omega), hmet, HCL.out]
                clear hmet
                go_wp2_with fail
                go_ret
                exact ⟨ret_bool (by simp), hB8'.trans (hbe.mono hB8'.size)⟩
end Go.Proofs.Ytefjigjjanjlkaa
