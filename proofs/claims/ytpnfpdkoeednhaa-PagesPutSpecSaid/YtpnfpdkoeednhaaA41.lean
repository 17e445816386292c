/- The reference's Check (printed by tools/gen153.py). -/
import Derived.Test.YtpnfpdkoeednhaaA39
import Derived.BigQuiet
namespace Go.Proofs.Ytpnfpdkoeednhaa
open Go.RowKit Go.Shelf

theorem rootP_nat {ps : List Pv} {q : Nat} (h : q < ps.length) : rootP ps (q : Int) = (walkP ps q true []).isSome := by
  unfold rootP
  rw [Int.toNat_natCast, decide_eq_true (by omega), decide_eq_true (by omega)]
  rfl
theorem rootP_out {ps : List Pv} {z : Int} (h : z < 0 ∨ (ps.length : Int) ≤ z) : rootP ps z = false := by
  unfold rootP
  rcases h with h | h
  · rw [decide_eq_false (by omega)]; rfl
  · rw [decide_eq_false (p := z < (ps.length : Int)) (by omega)]; simp
theorem check_bad {ps : List Pv} {roots : List Int} {k : Nat} {z : Int} (hk : roots[k]? = some z) (hz : rootP ps z = false) : checkP ps roots = false := by
  rw [Bool.eq_false_iff]
  intro h
  unfold checkP at h
  rw [Bool.and_eq_true, List.all_eq_true] at h
  rw [h.2 z (List.mem_of_getElem? hk)] at hz
  cases hz
theorem check_all {ps : List Pv} {roots : List Int} (hn : roots.length ≠ 0) (h : ∀ (j : Nat) (z : Int), roots[j]? = some z → rootP ps z = true) : checkP ps roots = true := by
  unfold checkP
  rw [Bool.and_eq_true, List.all_eq_true]
  refine ⟨by simp; exact Nat.pos_of_ne_zero hn, fun z hz => ?_⟩
  obtain ⟨j, hj⟩ := List.mem_iff_getElem?.1 hz
  exact h j z hj
set_option maxRecDepth 100000 in
set_option maxHeartbeats 4000000 in
theorem r47Check_any (s : Ps) (w : World) (hps : PsIn s w w.heap.size) (hsm : ∀ g ∈ s.gs, g.fn ≤ 1000000 ∧ g.kn ≤ 1000000) (hT : ((psV s).flatMap (·.facts)).length ≤ 1000000) :
    Calls Try.prog 15 #[psVal s] w fun e w' => e = .returned (.int .i64 (errP (checkP (psV s) s.roots))) ∧ Below w.heap.size w w' := by
  obtain ⟨b, hb⟩ : ∃ b, w.heap.size = b := ⟨_, rfl⟩
  obtain ⟨W, hW⟩ : ∃ W, w.alloc (.cells #[.slice s.pA s.pn s.pc, .slice s.rA s.rn s.rc] 25) = W := ⟨_, rfl⟩
  have c1 : Below w.heap.size w W := hW ▸ (Below.refl _ w).alloc (Nat.le_refl _) _
  have g1 : W.heap[b]? = some (.cells #[.slice s.pA s.pn s.pc, .slice s.rA s.rn s.rc] 25 (0, 0)) := by rw [← hW, ← hb]; exact World.alloc_heap_new _ _
  have HPs : Hid (∀ W', Below W.heap.size W W' → PsIn s W' W'.heap.size) := fun W' h => hps.later (c1.trans (h.mono c1.size))
  have HC1 := hidp c1
  have HG1 := hidp g1
  have HSm := hidp hsm
  have HT := hidp hT
  have HRn := hidp hps.roots.1
  have HPn : Hid (s.pn = s.gs.length) := hps.pages.1
  have hrc := hps.roots.2.1
  have hrc2 := hps.roots.2.2.1
  have hpc := hps.pages.2.1
  have hpc2 := hps.pages.2.2.1
  clear hps c1 g1 hsm hT
  have x0 := cell_of_heap (o := 0) (HG1.out)
  have x1 := cell_of_heap (o := 1) (HG1.out)
  have x2 := lt_of_heap (HG1.out)
  simp only [List.getElem?_toArray, List.getElem?_cons_zero, List.getElem?_cons_succ] at x0 x1
  by_cases hr0 : s.rn = 0
  · have HN : Hid (checkP (psV s) s.roots = false) := by
      show _ = _
      unfold checkP
      rw [← HRn.out, hr0]; rfl
    have hr0' : ((s.rn : Int) == 0) = true := by rw [hr0]; rfl
    clear hr0
    go_enter Try.func15, Try.ntmps15
    go_wp2_with fail
    go_ret
    exact ⟨by rw [HN.out]; rfl, HC1.out⟩
  have HR0 := hidp hr0
  have hr0' : ((s.rn : Int) == 0) = false := by simp; omega
  clear hr0
  go_enter Try.func15, Try.ntmps15
  go_wp2_with fail
  clear hb hW x0 x1 x2 hr0'
  go_loopw [3, 4, 5, 6] (fun s3 s4 s5 s6 wr => ∃ (k : Nat) (v4 v5 v6 : Value), k ≤ s.rn ∧ s3 = .int .i64 k ∧ v4 = s4 ∧ v5 = s5 ∧ v6 = s6 ∧ Below W.heap.size W wr ∧ ∀ (j : Nat) (z : Int), j < k → s.roots[j]? = some z → rootP (psV s) z = true) (fun s3 _ _ _ _ => s.rn - (intOf s3).toNat)
  case atStart => exact ⟨0, _, _, _, by omega, rfl, rfl, rfl, rfl, Below.refl _ _, fun j z h => by omega⟩
  case round =>
  obtain ⟨k, v4, v5, v6, hk, rfl, rfl, rfl, rfl, hbw, hall⟩ := hrel
  have HBw := hidp hbw
  have HAll := hidp hall
  have HGw := hidp ((hbw.block _ (lt_of_heap HG1.out)).trans HG1.out)
  clear hbw hall
  have x0 := cell_of_heap (o := 0) (HGw.out)
  have x1 := cell_of_heap (o := 1) (HGw.out)
  have x2 := lt_of_heap (HGw.out)
  simp only [List.getElem?_toArray, List.getElem?_cons_zero, List.getElem?_cons_succ] at x0 x1
  by_cases hkn : k < s.rn
  case neg =>
    have hkn' : ¬ ((k : Int) < s.rn) := by omega
    have HY : Hid (checkP (psV s) s.roots = true) := check_all (by have := HRn.out; have := HR0.out; omega) fun j z hz => HAll.out j z (by have := (List.getElem?_eq_some_iff.1 hz).1; have := HRn.out; omega) hz
    go_wp2_with fail
    go_ret
    exact ⟨by rw [HY.out]; rfl, HC1.out.trans (HBw.out.mono HC1.out.size)⟩
  have hkn' : (k : Int) < s.rn := by omega
  obtain ⟨rb, ro, z, hrA, _, hz, q0⟩ := iSl.get (HPs.out wr HBw.out).roots hkn
  have hixr := fun W => ix_intsP (c := s.rc) hrA hkn W
  have lq := lt_of_cell q0
  have HZ := hidp hz
  have hwk : IntKind.i64.wrap ((k : Int) + 1) = (k : Int) + 1 := IntWalk.i64_in _ (by omega)
  clear hz hrA
  by_cases hz0 : z < 0
  · have hd : decide (z < 0) = true := decide_eq_true hz0
    have HN := hidp (check_bad HZ.out (rootP_out (ps := psV s) (.inl hz0)))
    clear hz0
    go_wp2_with fail
    go_quiet (fail)
    have hbn := HBw.out.trans ((below_drewN (Below.refl wr.heap.size wr) nq).mono HBw.out.size)
    generalize wr.drewN nq = wn at hbn ⊢
    go_wp2_with fail
    go_ret
    exact ⟨by rw [HN.out]; rfl, HC1.out.trans (hbn.mono HC1.out.size)⟩
  obtain ⟨q, hq⟩ : ∃ q : Nat, z = q := ⟨z.toNat, by omega⟩
  subst hq
  have hd : decide ((q : Int) < 0) = false := decide_eq_false hz0
  clear hz0
  by_cases hqp : s.pn ≤ q
  · have hd2 : decide ((q : Int) ≥ (s.pn : Int)) = true := decide_eq_true (by omega)
    have hd3 : (s.pn : Int) ≤ (q : Int) := by omega
    have HN := hidp (check_bad HZ.out (rootP_out (ps := psV s) (.inr (by rw [psV_len, ← HPn.out]; exact hd3))))
    clear hqp
    go_wp2_with fail
    go_quiet (fail)
    have hbn := HBw.out.trans ((below_drewN (Below.refl wr.heap.size wr) nq).mono HBw.out.size)
    generalize wr.drewN nq = wn at hbn ⊢
    go_wp2_with fail
    go_ret
    exact ⟨by rw [HN.out]; rfl, HC1.out.trans (hbn.mono HC1.out.size)⟩
  have hd3 : ¬ ((s.pn : Int) ≤ (q : Int)) := by omega
  have hd2 : decide ((q : Int) ≥ (s.pn : Int)) = false := decide_eq_false hd3
  have HQ : Hid (q < s.gs.length) := by have := HPn.out; show _ < _; omega
  have HRoot := hidp (rootP_nat (ps := psV s) (q := q) (by rw [psV_len]; exact HQ.out))
  clear hqp
  go_upto_region 6 with fail
  go_quiet (fail)
  have hbn := (below_drewN (Below.refl wr.heap.size wr) nq)
  generalize wr.drewN nq = wn at hbn ⊢
  have HBn := hidp (HBw.out.trans (hbn.mono HBw.out.size))
  have HGn := hidp ((hbn.block _ x2).trans HGw.out)
  have q1 := ((bcell hbn).1 rb (ro + k) lq).trans q0
  have lq1 := lt_of_cell q1
  clear x0 x1 x2 q0 lq hbn hd hd2 hd3
  have x0 := cell_of_heap (o := 0) (HGn.out)
  have x1 := cell_of_heap (o := 1) (HGn.out)
  have x2 := lt_of_heap (HGn.out)
  simp only [List.getElem?_toArray, List.getElem?_cons_zero, List.getElem?_cons_succ] at x0 x1
  obtain ⟨ok, hok⟩ : ∃ b, (walkP (psV s) q true []).isSome = b := ⟨_, rfl⟩
  have HOk := hidp hok
  clear hok
  go_upto_region 8 with fail
  refine wp_region_S wn.heap.size 14 (fun _ => false) (Nat.le_refl _) (by kernel_rfl) (by kernel_rfl) (by kernel_rfl) ?_
  dsimp only [List.take, List.drop]
  apply relS_det (mask := []) (x := .agg #[.slice s.pA s.pn s.pc, .slice s.rA s.rn s.rc])
  · rfl
  · kernel_rfl
  · kernel_rfl
  · dsimp only [oblS]
    rintro w9 h9
    have hc9 := (bcell h9).1
    go_simp
    exact ⟨Below.refl _ _, rfl⟩
  dsimp only [List.nil_append, List.cons_append]
  apply relS_det (mask := [false])
  · rfl
  · kernel_rfl
  · kernel_rfl
  · dsimp only [oblS]
    rintro w9 h9
    go_simp
    exact ⟨Below.refl _ _, rfl⟩
  dsimp only [List.nil_append, List.cons_append]
  apply relS_det (mask := [false, true]) (x := .slice s.rA s.rn s.rc)
  · rfl
  · kernel_rfl
  · kernel_rfl
  · dsimp only [oblS]
    rintro w9 h9
    have hc9 := (bcell h9).1
    go_simp
    exact ⟨Below.refl _ _, rfl⟩
  dsimp only [List.nil_append, List.cons_append]
  apply relS_det (mask := [false, false, false])
  · rfl
  · kernel_rfl
  · kernel_rfl
  · dsimp only [oblS]
    rintro w9 h9
    go_simp
    exact ⟨Below.refl _ _, rfl⟩
  dsimp only [List.nil_append, List.cons_append]
  apply relS_det (mask := [false, false, true, true])
  · rfl
  · kernel_rfl
  · kernel_rfl
  · dsimp only [oblS]
    rintro w9 h9
    go_simp
    exact ⟨Below.refl _ _, rfl⟩
  dsimp only [List.nil_append, List.cons_append]
  apply relS_det (mask := [false, false, false, false, true]) (x := .int .i64 (q : Int))
  · rfl
  · kernel_rfl
  · kernel_rfl
  · dsimp only [oblS]
    rintro w9 h9
    have hc9 := (bcell h9).1
    go_simp
    exact ⟨Below.refl _ _, rfl⟩
  dsimp only [List.nil_append, List.cons_append]
  apply relS_any (mask := [true, false, false, false, false, true]) (T := fun v _ => ∃ (y : Value) (d : Int), v = .tuple #[y, .int .i64 d, .bool ok]) (hT := fun _ _ _ _ h => h)
  · rfl
  · kernel_rfl
  · kernel_rfl
  · dsimp only [oblS]
    rintro w9 h9 T' hT'
    have hc9 := (bcell h9).1
    go_simp
    refine (walk_top s q w9 HQ.out (HPs.out w9 (HBn.out.trans (h9.mono HBn.out.size))) HSm.out HT.out).mono ?_
    rintro e w7 ⟨hb7, h6, h7⟩
    cases hwk : walkP (psV s) q true [] with
    | none =>
      have e1 := HOk.out
      rw [hwk] at e1
      exact ⟨_, h6 hwk, hb7, hT' _ _ ⟨_, _, by rw [← e1]; rfl⟩⟩
    | some r =>
      obtain ⟨m, d⟩ := r
      have e1 := HOk.out
      rw [hwk] at e1
      obtain ⟨A, c, he, -⟩ := h7 m d hwk
      exact ⟨_, he, hb7, hT' _ _ ⟨_, _, by rw [← e1]; rfl⟩⟩
  dsimp only [List.nil_append, List.cons_append]
  apply relS_any (mask := [false, false, false, false, false, false, true]) (T := fun v _ => ∃ (y : Value) (d : Int), v = .tuple #[y, .int .i64 d, .bool ok]) (hT := fun _ _ _ _ h => h)
  · rfl
  · kernel_rfl
  · kernel_rfl
  · dsimp only [oblS]
    intro v42
    rintro w9 ⟨h9, t42⟩ T' hT'
    obtain ⟨y, d, e6⟩ := t42
    subst e6
    go_simp
    exact ⟨Below.refl _ _, hT' _ _ ⟨_, _, rfl⟩⟩
  dsimp only [List.nil_append, List.cons_append]
  apply relS_any (mask := [false, false, false, false, false, false, false, true]) (T := fun _ _ => True) (hT := fun _ _ _ _ h => h)
  · rfl
  · kernel_rfl
  · kernel_rfl
  · dsimp only [oblS]
    intro v35
    rintro w9 ⟨h9, t35⟩ T' hT'
    obtain ⟨y, d, e6⟩ := t35
    subst e6
    go_simp
    exact ⟨Below.refl _ _, hT' _ _ trivial⟩
  dsimp only [List.nil_append, List.cons_append]
  apply relS_any (mask := [false, false, false, false, false, false, false, true, false]) (T := fun v _ => ∃ d : Int, v = .int .i64 d) (hT := fun _ _ _ _ h => h)
  · rfl
  · kernel_rfl
  · kernel_rfl
  · dsimp only [oblS]
    intro v35
    rintro w9 ⟨h9, t35⟩ T' hT'
    obtain ⟨y, d, e6⟩ := t35
    subst e6
    go_simp
    exact ⟨Below.refl _ _, hT' _ _ ⟨_, rfl⟩⟩
  dsimp only [List.nil_append, List.cons_append]
  apply relS_det (mask := [false, false, false, false, false, false, false, true, false, false]) (x := .bool ok)
  · rfl
  · kernel_rfl
  · kernel_rfl
  · dsimp only [oblS]
    intro v35
    rintro w9 ⟨h9, t35⟩
    obtain ⟨y, d, e6⟩ := t35
    subst e6
    go_simp
    exact ⟨Below.refl _ _, rfl⟩
  dsimp only [List.nil_append, List.cons_append]
  apply relS_any (mask := [false, false, false, false, false, false, false, false, true, false, false]) (T := fun _ _ => True) (hT := fun _ _ _ _ h => h)
  · rfl
  · kernel_rfl
  · kernel_rfl
  · dsimp only [oblS]
    intro v43
    rintro w9 ⟨h9, t43⟩ T' hT'
    go_simp
    exact ⟨Below.refl _ _, hT' _ _ trivial⟩
  dsimp only [List.nil_append, List.cons_append]
  apply relS_any (mask := [false, false, false, false, false, false, false, false, false, true, false, false]) (T := fun v _ => ∃ d : Int, v = .int .i64 d) (hT := fun _ _ _ _ h => h)
  · rfl
  · kernel_rfl
  · kernel_rfl
  · dsimp only [oblS]
    intro v44
    rintro w9 ⟨h9, t44⟩ T' hT'
    obtain ⟨d, e6⟩ := t44
    subst e6
    go_simp
    exact ⟨Below.refl _ _, hT' _ _ ⟨_, rfl⟩⟩
  dsimp only [List.nil_append, List.cons_append]
  apply relS_det (mask := [false, false, false, false, false, false, false, false, false, false, true, false, false]) (x := .bool ok)
  · rfl
  · kernel_rfl
  · kernel_rfl
  · dsimp only [oblS]
    rintro w9 h9
    go_simp
    exact ⟨Below.refl _ _, rfl⟩
  dsimp only [List.nil_append, List.cons_append]
  refine relS_end (by rfl) ?_
  dsimp only [finS]
  rintro v42 v35 v43 v44 v4 v5 w8 ⟨⟨⟨⟨⟨⟨hb, t42⟩, t35⟩, t43⟩, t44⟩, t4⟩, t5⟩
  have HB8 := hidp (HBn.out.trans (hb.mono HBn.out.size))
  go_simp
  cases ok
  · have HN := hidp (check_bad HZ.out (HRoot.out.trans HOk.out))
    go_wp2_with fail
    go_ret
    exact ⟨by rw [HN.out]; rfl, HC1.out.trans (HB8.out.mono HC1.out.size)⟩
  · go_wp2_with fail
    go_roundw
    case rel =>
      refine ⟨k + 1, _, _, _, by omega, by go_num, rfl, rfl, rfl, HB8.out, fun j z hj hz => ?_⟩
      by_cases hjk : j < k
      · exact HAll.out j z hjk hz
      · obtain rfl : j = k := by omega
        have e := Option.some.inj (HZ.out.symm.trans hz)
        rw [← e]
        exact HRoot.out.trans HOk.out
    case measure => simp [intOf]; omega
end Go.Proofs.Ytpnfpdkoeednhaa

