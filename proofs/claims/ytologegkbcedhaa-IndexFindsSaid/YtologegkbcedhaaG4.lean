/- slices.Compact at links. -/
import Derived.Test.YtologegkbcedhaaG3
namespace Go.Proofs.Ytologegkbcedhaa
open Go.RowKit Go.Shelf

theorem kept_setRow {M : Nat → Prop} {w0 w : World} (h : Kept M w0 w) {g : Nat} (hg : M g) (cs : Array Value) : Kept M w0 (w.setRow g cs) :=
  h.trans ⟨rfl, rfl, rfl, by simp [World.setRow], fun q _ hm => setRow_other w g q cs (by rintro rfl; exact hm hg)⟩

set_option maxRecDepth 100000 in
set_option maxHeartbeats 4000000 in
theorem lCompact_own (base n cap G : Nat) (l : List Lk) (w : World) (hown : w.ownsRow base 49 6 (.slice (some ⟨G, 0, none⟩) n cap) n (l.flatMap lEnc)) (hbase : base ≤ w.heap.size) :
    Calls Try.prog 50 #[.slice (some ⟨G, 0, none⟩) n cap] w fun e w' => ∃ k : Nat, e = .returned (.slice (some ⟨G, 0, none⟩) k cap) ∧ w'.ownsRow base 49 6 (.slice (some ⟨G, 0, none⟩) k cap) k ((comp l).flatMap lEnc) ∧ Kept (fun b => b = G) w w' := by
  obtain ⟨i0, hiE, _, hsE, _⟩ := info_parts lInfo
  obtain ⟨A0, c0', hA0, rl⟩ := own_rows lEnc_len (by decide) hown
  obtain ⟨rfl, rfl⟩ : some ⟨G, 0, none⟩ = A0 ∧ cap = c0' := by injection hA0 with h1 _ h3; exact ⟨h1, h3⟩
  have HN := hidp rl.1
  have hcap := rl.2.1
  have hcap' := rl.2.2.1
  have HOwn := hidp hown
  have hG : base ≤ G ∧ G < w.heap.size := hown.lt G rfl
  clear hown hA0
  rcases Nat.lt_or_ge n 2 with hn2 | hn2
  · have hn2' : (n : Int) < 2 := by omega
    go_enter Try.func50, Try.ntmps50
    go_wp2_with fail
    go_ret
    refine ⟨n, rfl, ?_, Kept.refl _ _⟩
    have : comp l = l := by
      have h := HN.out
      match l, h with
      | [], _ => rfl
      | [x], _ => rfl
      | x :: y :: l, h => simp at h; omega
    rw [this]
    exact HOwn.out
  · have hn2' : ¬ (n : Int) < 2 := by omega
    go_enter Try.func50, Try.ntmps50
    go_wp2_with fail
    go_loopw [3, 10] (fun i _ wr => ∃ (j : Nat), i = .int .i64 ((j : Int) + 1) ∧ j + 1 ≤ n ∧ comp (l.take (j + 1)) = l.take (j + 1) ∧ wr.ownsRow base 49 6 (.slice (some ⟨G, 0, none⟩) n cap) n (l.flatMap lEnc) ∧ Kept (fun b => b = G) w wr) (fun i _ _ => n - (intOf i).toNat)
    case atStart =>
      refine ⟨0, rfl, by omega, ?_, HOwn.out, Kept.refl _ _⟩
      match l, HN.out with
      | [], _ => rfl
      | x :: l, _ => rfl
    case round =>
      obtain ⟨j, rfl, hj, hcm, hO, hbe⟩ := hrel
      have HC := hidp hcm
      have HO := hidp hO
      obtain ⟨A1, c1', hA1, rM⟩ := own_rows lEnc_len (by decide) hO
      obtain ⟨rfl, rfl⟩ : some ⟨G, 0, none⟩ = A1 ∧ cap = c1' := by injection hA1 with h1 _ h3; exact ⟨h1, h3⟩
      have hbs := Nat.le_trans hbase hbe.size
      clear hA1 hcm hO rl
      by_cases hlt : j + 1 < n
      · obtain ⟨b, off, y, he, hb, hzy, c0, c1, c2, c3, c4, c5⟩ := lSl.get rM hlt
        obtain ⟨b', off', x, he', hb', hzx, d0, d1, d2, d3, d4, d5⟩ := lSl.get rM (k := j) (by omega)
        simp only [Option.some.injEq, Addr.mk.injEq, and_true] at he he'
        obtain ⟨rfl, rfl⟩ := he
        obtain ⟨rfl, rfl⟩ := he'
        have hGl := lt_of_cell c0
        simp only [Nat.zero_add] at c0 c1 c2 c3 c4 c5 d0 d1 d2 d3 d4 d5
        have HX := hidp hzx
        have HY := hidp hzy
        have hlt' : (j : Int) + 1 < n := by omega
        have hlt'' : (j : Int) < n := by omega
        have ht1 : ((j : Int) + 1).toNat = j + 1 := by omega
        have hp1 : (0 : Int) ≤ (j : Int) + 1 := by omega
        have hw1 : IntKind.i64.wrap ((j : Int) + 1 - 1) = (j : Int) := by rw [Int.add_sub_cancel]; exact IntWalk.i64_in _ (by omega)
        have hw2 : IntKind.i64.wrap (j : Int) = (j : Int) := IntWalk.i64_in _ (by omega)
        obtain ⟨bo, hbo⟩ : ∃ bo, decide (y = x) = bo := ⟨_, rfl⟩
        have heq := fun W => l_eql y x W
        rw [hbo] at heq
        have HB := hidp hbo
        clear hzx hzy hbo rM
        go_wp2_with fail
        refine wp_region_below wr.heap.size (by kernel_rfl) (by kernel_rfl) ?_
        repeat
          refine q_step (by rfl) ?_
          apply Exists.intro
          refine ⟨fun w9 h9 => ?_, ?_⟩
          · have hc9 := (bcell h9).1
            go_simp
            first | done | rfl
          go_simp
        refine wpQuiet_nil ?_
        intro w9 hb9
        have hbz : Kept (fun b => b = G) w w9 := hbe.trans (kept_of_below hb9 (fun b h1 h2 => by omega))
        have hO9 : w9.ownsRow base 49 6 (.slice (some ⟨G, 0, none⟩) n cap) n (l.flatMap lEnc) := own_stable _ _ _ _ _ _ _ _ hb9 HO.out
        cases bo
        · have HO9 := hidp hO9
          clear hO9
          go_wp2_with fail
          go_roundw
          case rel =>
            refine ⟨j + 1, by go_num, by omega, ?_, HO9.out, hbz⟩
            rw [comp_new HX.out HY.out (by have := HB.out; simpa using this), HC.out, take_snoc HY.out]
          case measure => simp [intOf]; omega
        · have hyx : Hid (y = x) := by have := HB.out; show y = x; simpa using this
          have HO9 := hidp hO9
          clear hO9 hlt'' d0 d1 d2 d3 d4 d5 c0 c1 c2 c3 c4 c5 heq
          have hcut := fun W => run_cut_low (P := Try.prog) W Try.underlying26 hiE (some ⟨G, 0, none⟩) n cap (j + 1) .i64 ((j : Int) + 1) (by simp) (by omega)
          rw [hsE, cutA, if_neg (by omega)] at hcut
          simp only [Option.map_some, addr_add, Nat.zero_add] at hcut
          go_wp2_with fail
          go_loopw [3, 5, 29] (fun i k2 _ wr => ∃ (kq q : Nat) (K J : List Lk), i = .int .i64 kq ∧ k2 = .int .i64 ((q : Int) + 1) ∧ j + q + 2 ≤ n ∧ kq ≤ j + q + 1 ∧ K.length = kq ∧ K.length + J.length = j + q + 1 ∧ K = comp (l.take (j + q + 2)) ∧ wr.ownsRow base 49 6 (.slice (some ⟨G, 0, none⟩) n cap) n ((K ++ J ++ l.drop (j + q + 1)).flatMap lEnc) ∧ Kept (fun b => b = G) w wr) (fun _ k2 _ _ => n - (intOf k2).toNat)
          case atStart =>
            refine ⟨j + 1, 0, l.take (j + 1), [], by simp, rfl, by omega, by omega, by have := HN.out; simp; omega, by have := HN.out; simp; omega, ?_, ?_, hbz⟩
            · have hy := HY.out
              rw [hyx.out] at hy
              rw [show j + 0 + 2 = j + 1 + 1 from rfl, comp_same HX.out hy, HC.out]
            · rw [List.append_nil, show j + 0 + 1 = j + 1 from rfl, List.take_append_drop]
              exact HO9.out
          case round =>
            obtain ⟨kq, q, K, J, rfl, rfl, hq, hkq, hkl, hjl, hK, hO2, hbe2⟩ := hrel
            have HK := hidp hK
            have HKL := hidp hkl
            have HJL := hidp hjl
            have HO2 := hidp hO2
            obtain ⟨A2, c2', hA2, rM2⟩ := own_rows lEnc_len (by decide) hO2
            obtain ⟨rfl, rfl⟩ : some ⟨G, 0, none⟩ = A2 ∧ cap = c2' := by injection hA2 with h1 _ h3; exact ⟨h1, h3⟩
            have hbs2 := Nat.le_trans hbase hbe2.size
            have rC := rM2.cut (m := j + 1) (by omega)
            rw [cutA, if_neg (by omega)] at rC
            simp only [Option.map_some, addr_add, Nat.zero_add] at rC
            clear hA2 hK hkl hjl hO2 rM2
            by_cases hl2 : j + q + 2 < n
            · obtain ⟨b, off, y2, he, hb, hzy, c0, c1, c2, c3, c4, c5⟩ := lSl.get rC (k := q + 1) (by omega)
              obtain ⟨b', off', x2, he', hb', hzx, d0, d1, d2, d3, d4, d5⟩ := lSl.get rC (k := q) (by omega)
              simp only [Option.some.injEq, Addr.mk.injEq, and_true] at he he'
              obtain ⟨rfl, rfl⟩ := he
              obtain ⟨rfl, rfl⟩ := he'
              have hGr := lt_of_cell c0
              have hy2 : l[j + q + 2]? = some y2 := by
                have e1 := HJL.out
                rw [List.getElem?_drop, List.getElem?_append_right (by simp; omega), List.getElem?_drop, List.length_append, e1] at hzy
                rwa [show j + q + 1 + (j + 1 + (q + 1) - (j + q + 1)) = j + q + 2 by omega] at hzy
              have hx2 : l[j + q + 1]? = some x2 := by
                have e1 := HJL.out
                rw [List.getElem?_drop, List.getElem?_append_right (by simp; omega), List.getElem?_drop, List.length_append, e1] at hzx
                rwa [show j + q + 1 + (j + 1 + q - (j + q + 1)) = j + q + 1 by omega] at hzx
              have HX2 := hidp hx2
              have HY2 := hidp hy2
              have hl2' : (q : Int) + 1 < ((n - (j + 1) : Nat) : Int) := by omega
              have hl2'' : (q : Int) < ((n - (j + 1) : Nat) : Int) := by omega
              have ht2 : ((q : Int) + 1).toNat = q + 1 := by omega
              have hp2 : (0 : Int) ≤ (q : Int) + 1 := by omega
              have hw3 : IntKind.i64.wrap ((q : Int) + 1 - 1) = (q : Int) := by rw [Int.add_sub_cancel]; exact IntWalk.i64_in _ (by omega)
              have hw4 : IntKind.i64.wrap (q : Int) = (q : Int) := IntWalk.i64_in _ (by omega)
              obtain ⟨bo, hbo⟩ : ∃ bo, (!decide (y2 = x2)) = bo := ⟨_, rfl⟩
              have hneq := fun W => l_neq y2 x2 W
              rw [hbo] at hneq
              have HB2 := hidp hbo
              clear hzx hzy hbo hx2 hy2 rC
              go_wp2_with fail
              refine wp_region_below wr.heap.size (by kernel_rfl) (by kernel_rfl) ?_
              repeat
                refine q_step (by rfl) ?_
                apply Exists.intro
                refine ⟨fun w9 h9 => ?_, ?_⟩
                · have hc9 := (bcell h9).1
                  go_simp
                  first | done | rfl
                go_simp
              refine wpQuiet_nil ?_
              intro w7 hb7
              have hbz7 : Kept (fun b => b = G) w w7 := hbe2.trans (kept_of_below hb7 (fun b h1 h2 => by omega))
              have hO7 : w7.ownsRow base 49 6 (.slice (some ⟨G, 0, none⟩) n cap) n ((K ++ J ++ l.drop (j + q + 1)).flatMap lEnc) := own_stable _ _ _ _ _ _ _ _ hb7 HO2.out
              have hc7 := (bcell hb7).1
              rw [← hc7 _ _ hGr] at c0 c1 c2 c3 c4 c5
              have hGr7 := lt_of_cell c0
              cases bo
              · have HO7 := hidp hO7
                clear hO7
                go_wp2_with fail
                go_roundw
                case rel =>
                  have hyx2 : y2 = x2 := by have := HB2.out; simpa using this
                  refine ⟨kq, q + 1, K, J ++ [x2], rfl, by go_num, by omega, by omega, HKL.out, by have := HJL.out; simp; omega, ?_, ?_, hbz7⟩
                  · have hy := HY2.out
                    rw [hyx2] at hy
                    rw [HK.out]
                    exact (comp_same HX2.out hy).symm
                  · have : K ++ (J ++ [x2]) ++ l.drop (j + (q + 1) + 1) = K ++ J ++ l.drop (j + q + 1) := by rw [drop_cons HX2.out]; simp; rfl
                    rw [this]
                    exact HO7.out
                case measure => simp [intOf]; omega
              · have hkn : kq < n := by omega
                obtain ⟨cs', hh, hl', _, hO8⟩ := own_put lEnc_len hO7 (by decide) hkn y2
                have HO8 := hidp hO8
                have hkn' : (kq : Int) < n := by omega
                clear hO8 hO7 hc7
                go_wp2_with (first | (refine wpList_store_at (vs := lEnc y2) 49 (.tmp 51) (.tmp 50) rfl rfl rfl rfl hh (by rw [hiE]; simp [hsE, lEnc_len]) hl' (lEnc_one y2) ?_))
                go_roundw
                case rel =>
                  have e1 := HKL.out
                  have e2 := HJL.out
                  have hne : y2 ≠ x2 := by have := HB2.out; simpa using this
                  obtain ⟨z, J', hJ'⟩ : ∃ z J', J ++ [x2] = z :: J' := by
                    cases J with
                    | nil => exact ⟨x2, [], rfl⟩
                    | cons y J' => exact ⟨y, J' ++ [x2], rfl⟩
                  have hlJ : J'.length = J.length := by have := congrArg List.length hJ'; simpa using this.symm
                  refine ⟨kq + 1, q + 1, K ++ [y2], J', by go_num, by go_num, by omega, by omega, by simp; omega, by simp; omega, ?_, ?_, kept_setRow hbz7 rfl _⟩
                  · rw [HK.out]
                    exact (comp_new HX2.out HY2.out hne).symm
                  · have : (K ++ J ++ l.drop (j + q + 1)).set kq y2 = K ++ [y2] ++ J' ++ l.drop (j + (q + 1) + 1) := by
                      rw [drop_cons HX2.out, List.append_assoc, show J ++ x2 :: l.drop (j + q + 1 + 1) = (J ++ [x2]) ++ l.drop (j + q + 1 + 1) by simp, hJ', ← e1, List.set_append_right _ _ (Nat.le_refl _), Nat.sub_self]
                      simp
                      rfl
                    rw [← this]
                    exact HO8.out
                case measure => simp [intOf]; omega
            · have hn3 : n = j + q + 2 := by omega
              have hl2' : ¬ (q : Int) + 1 < ((n - (j + 1) : Nat) : Int) := by omega
              have e1 := HKL.out
              have hKK := HK.out
              have e3 := HN.out
              rw [List.take_of_length_le (by omega)] at hKK
              have hO' := HO2.out
              have HKQ := hidp hkq
              obtain ⟨cs', hh, hl', _, hO6⟩ := own_clear lEnc_len hO' (by decide) (i := kq) (by omega) (Builtin.zeroCells #[.int .i64 0, .int .i64 0, .int .i64 0, .int .i64 0, .int .i64 0, .int .i64 0] (n - kq)).toList (by simp [size_zeroCells])
              have hrun := fun ty => run_clear_at (P := Try.prog) (w := wr) (t := 26) (ty := ty) (m := n - kq) (c := cap - kq) Try.underlying26 lZero (by intro v hv; simp [Value.cells] at hv; rcases hv with rfl | rfl | rfl | rfl | rfl | rfl <;> rfl) (by omega) hh (by simpa [size_zeroCells, Value.cells] using hl')
              have hcut3 := run_cut_low (P := Try.prog) wr Try.underlying26 hiE (some ⟨G, 0, none⟩) n cap kq .i64 (kq : Int) rfl (by omega)
              rw [hsE, cutA, if_neg (by omega)] at hcut3
              simp only [Option.map_some, addr_add, Nat.zero_add] at hcut3
              have hcut2 := fun W => run_cut_high (P := Try.prog) W Try.underlying26 hiE (some ⟨G, 0, none⟩) n cap kq .i64 (kq : Int) rfl (by omega)
              have HKK := hidp hKK
              have HO6 := hidp hO6
              have HN3 := hidp hn3
              clear hO6 hO' hKK e3 HO2 hn3 rC
              go_wp2_with (first | (at_builtin; refine wpList_clear_known rfl (.tmp 56) 26 rfl rfl (hrun _) ?_))
              go_ret
              refine ⟨kq, rfl, ?_, kept_setRow hbe2 rfl _⟩
              have h6 := HO6.out
              rw [List.append_assoc, List.take_append_of_le_length (by omega), List.take_of_length_le (by omega), HKK.out] at h6
              exact h6
      · have hn3 : n = j + 1 := by omega
        have hlt' : ¬ (j : Int) + 1 < n := by omega
        have hcl := HC.out
        rw [List.take_of_length_le (by have := HN.out; omega)] at hcl
        have HCL := hidp hcl
        have HN3 := hidp hn3
        clear hn3 hcl
        go_wp2_with fail
        go_ret
        refine ⟨n, rfl, ?_, hbe⟩
        rw [HCL.out]
        exact HO.out
end Go.Proofs.Ytologegkbcedhaa
