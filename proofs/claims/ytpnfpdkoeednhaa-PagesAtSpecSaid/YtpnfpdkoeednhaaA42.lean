/- The reference's All and At (printed by tools/gen153.py). -/
import Derived.Test.YtpnfpdkoeednhaaA41
import Derived.Test.YtpnfpdkoeednhaaMF
import Derived.Test.YtpnfpdkoeednhaaM5
namespace Go.Proofs.Ytpnfpdkoeednhaa
open Go.RowKit Go.Shelf

set_option maxRecDepth 100000 in
set_option maxHeartbeats 4000000 in
theorem r47All_any (s : Ps) (v : Int) (w : World) (hps : PsIn s w w.heap.size) (hsm : ∀ g ∈ s.gs, g.fn ≤ 1000000 ∧ g.kn ≤ 1000000) (hT : ((psV s).flatMap (·.facts)).length ≤ 1000000) :
    Calls Try.prog 20 #[psVal s, .int .i64 v] w fun e w' => ∃ A n c, e = .returned (.tuple #[.slice A n c, .int .i64 (errP (verOk s v))]) ∧ fSl w' w'.heap.size A n c (allV s v) ∧ Below w.heap.size w w' := by
  obtain ⟨b, hb⟩ : ∃ b, w.heap.size = b := ⟨_, rfl⟩
  obtain ⟨W, hW⟩ : ∃ W, w.alloc (.cells #[.slice s.pA s.pn s.pc, .slice s.rA s.rn s.rc] 25) = W := ⟨_, rfl⟩
  have c1 : Below w.heap.size w W := hW ▸ (Below.refl _ w).alloc (Nat.le_refl _) _
  have g1 : W.heap[b]? = some (.cells #[.slice s.pA s.pn s.pc, .slice s.rA s.rn s.rc] 25 (0, 0)) := by rw [← hW, ← hb]; exact World.alloc_heap_new _ _
  have HPs : Hid (∀ W', Below W.heap.size W W' → PsIn s W' W'.heap.size) := fun W' h => hps.later (c1.trans (h.mono c1.size))
  have HC1 := hidp c1
  have HG1 := hidp g1
  have HSm := hidp hsm
  have HT := hidp hT
  have HRn := hidp hps.roots.1
  have HPn : Hid (s.pn = s.gs.length) := hps.pages.1
  have hrc := hps.roots.2.1
  have hrc2 := hps.roots.2.2.1
  have hpc := hps.pages.2.1
  have hpc2 := hps.pages.2.2.1
  clear hps c1 g1 hsm hT
  have x0 := cell_of_heap (o := 0) (HG1.out)
  have x1 := cell_of_heap (o := 1) (HG1.out)
  have x2 := lt_of_heap (HG1.out)
  simp only [List.getElem?_toArray, List.getElem?_cons_zero, List.getElem?_cons_succ] at x0 x1
  go_enter Try.func20, Try.ntmps20
  go_wp2_with fail
  clear hb hW
  refine (r47Check_any s W (HPs.out W (Below.refl _ _)) HSm.out HT.out).mono ?_
  rintro e w1 ⟨rfl, hb1⟩
  obtain ⟨ck, hck⟩ : ∃ b, checkP (psV s) s.roots = b := ⟨_, rfl⟩
  have HCk := hidp hck
  rw [hck]
  have HB1 := hidp hb1
  have HG2 := hidp ((hb1.block _ x2).trans HG1.out)
  clear x0 x1 x2 hck hb1
  have x0 := cell_of_heap (o := 0) (HG2.out)
  have x1 := cell_of_heap (o := 1) (HG2.out)
  have x2 := lt_of_heap (HG2.out)
  simp only [List.getElem?_toArray, List.getElem?_cons_zero, List.getElem?_cons_succ] at x0 x1
  have HNil : Hid (∀ W : World, fSl W W.heap.size none 0 0 ([] : List Fc)) := fun W => Rows.nil (by show (0 : Nat) ≤ _; omega)
  cases ck
  · have HV : Hid (verOk s v = false) := by show _ = _; unfold verOk; rw [HCk.out]; rfl
    have HA : Hid (allV s v = []) := by show _ = _; unfold allV; rw [HV.out]; rfl
    rw [show errP false = 470 from rfl]
    go_wp2_with fail
    go_ret2
    exact ⟨none, 0, 0, by rw [HV.out]; rfl, by rw [HA.out]; exact HNil.out _, HC1.out.trans (HB1.out.mono HC1.out.size)⟩
  rw [show errP true = 0 from rfl]
  by_cases hv0 : v < 0
  · have HV : Hid (verOk s v = false) := by show _ = _; unfold verOk; rw [decide_eq_false (p := 0 ≤ v) (by omega)]; simp
    have HA : Hid (allV s v = []) := by show _ = _; unfold allV; rw [HV.out]; rfl
    go_wp2_with fail
    go_ret2
    exact ⟨none, 0, 0, by rw [HV.out]; rfl, by rw [HA.out]; exact HNil.out _, HC1.out.trans (HB1.out.mono HC1.out.size)⟩
  obtain ⟨n, hn⟩ : ∃ n : Nat, v = n := ⟨v.toNat, by omega⟩
  subst hn
  by_cases hvn : s.rn ≤ n
  · have hvn' : (s.rn : Int) ≤ n := by omega
    have HV : Hid (verOk s (n : Int) = false) := by
      show _ = _
      unfold verOk
      rw [decide_eq_false (p := (n : Int) < (s.roots.length : Int)) (by have := HRn.out; omega)]; simp
    have HA : Hid (allV s (n : Int) = []) := by show _ = _; unfold allV; rw [HV.out]; rfl
    clear hvn
    go_wp2_with fail
    go_ret2
    exact ⟨none, 0, 0, by rw [HV.out]; rfl, by rw [HA.out]; exact HNil.out _, HC1.out.trans (HB1.out.mono HC1.out.size)⟩
  have hvn' : ¬ ((s.rn : Int) ≤ n) := by omega
  have HV : Hid (verOk s (n : Int) = true) := by
    show _ = _
    unfold verOk
    rw [HCk.out, decide_eq_true (p := (0 : Int) ≤ (n : Int)) (by omega), decide_eq_true (p := (n : Int) < (s.roots.length : Int)) (by have := HRn.out; omega)]; rfl
  have hnr : n < s.rn := by omega
  obtain ⟨rb, ro, z, hrA, _, hz, q0⟩ := iSl.get (HPs.out w1 HB1.out).roots hnr
  have hixr := fun W => ix_intsP (c := s.rc) hrA hnr W
  have lq := lt_of_cell q0
  obtain ⟨h0, d, hG⟩ := (checkP_iff.1 HCk.out).2 z (List.mem_of_getElem? hz)
  obtain ⟨q, hq⟩ : ∃ q : Nat, z = q := ⟨z.toNat, by omega⟩
  subst hq
  rw [Int.toNat_natCast] at hG
  have HQ : Hid (q < s.gs.length) := by have := hG.1.lt; rw [psV_len] at this; exact this
  obtain ⟨l, hl⟩ : ∃ l, allV s (n : Int) = l := ⟨_, rfl⟩
  have HL := hidp hl
  have HWk : Hid (walkP (psV s) q true [] = some (l, d)) := by
    show _ = _
    rw [(good_lvG hG).1, ← hl, allV_eq, allB_get (by rw [← verOk_eq]; exact HV.out) hz, Int.toNat_natCast]
  clear hz hrA hG h0 hl hvn hv0
  go_upto_region 6 with fail
  refine wp_region_S w1.heap.size 14 (fun _ => false) (Nat.le_refl _) (by kernel_rfl) (by kernel_rfl) (by kernel_rfl) ?_
  dsimp only [List.take, List.drop]
  apply relS_det (mask := []) (x := .agg #[.slice s.pA s.pn s.pc, .slice s.rA s.rn s.rc])
  · rfl
  · kernel_rfl
  · kernel_rfl
  · dsimp only [oblS]
    rintro w9 h9
    have hc9 := (bcell h9).1
    go_simp
    exact ⟨Below.refl _ _, rfl⟩
  dsimp only [List.nil_append, List.cons_append]
  apply relS_det (mask := [false])
  · rfl
  · kernel_rfl
  · kernel_rfl
  · dsimp only [oblS]
    rintro w9 h9
    go_simp
    exact ⟨Below.refl _ _, rfl⟩
  dsimp only [List.nil_append, List.cons_append]
  apply relS_det (mask := [false, true]) (x := .slice s.rA s.rn s.rc)
  · rfl
  · kernel_rfl
  · kernel_rfl
  · dsimp only [oblS]
    rintro w9 h9
    have hc9 := (bcell h9).1
    go_simp
    exact ⟨Below.refl _ _, rfl⟩
  dsimp only [List.nil_append, List.cons_append]
  apply relS_det (mask := [false, false, false])
  · rfl
  · kernel_rfl
  · kernel_rfl
  · dsimp only [oblS]
    rintro w9 h9
    go_simp
    exact ⟨Below.refl _ _, rfl⟩
  dsimp only [List.nil_append, List.cons_append]
  apply relS_det (mask := [false, false, true, true])
  · rfl
  · kernel_rfl
  · kernel_rfl
  · dsimp only [oblS]
    rintro w9 h9
    go_simp
    exact ⟨Below.refl _ _, rfl⟩
  dsimp only [List.nil_append, List.cons_append]
  apply relS_det (mask := [false, false, false, false, true]) (x := .int .i64 (q : Int))
  · rfl
  · kernel_rfl
  · kernel_rfl
  · dsimp only [oblS]
    rintro w9 h9
    have hc9 := (bcell h9).1
    go_simp
    exact ⟨Below.refl _ _, rfl⟩
  dsimp only [List.nil_append, List.cons_append]
  apply relS_any (mask := [true, false, false, false, false, true]) (T := fun v W => ∃ A c, v = .tuple #[.slice A l.length c, .int .i64 (d : Nat), .bool true] ∧ fSl W W.heap.size A l.length c l) (hT := fun v w w' hb ⟨A, c, e, h⟩ => ⟨A, c, e, h.keep fStable hb.size hb.block⟩)
  · rfl
  · kernel_rfl
  · kernel_rfl
  · dsimp only [oblS]
    rintro w9 h9 T' hT'
    have hc9 := (bcell h9).1
    go_simp
    refine (walk_top s q w9 HQ.out (HPs.out w9 (HB1.out.trans (h9.mono HB1.out.size))) HSm.out HT.out).mono ?_
    rintro e w7 ⟨hb7, -, h7⟩
    obtain ⟨A, c, rfl, hr⟩ := h7 l d HWk.out
    exact ⟨_, rfl, hb7, hT' _ _ ⟨_, _, rfl, hr⟩⟩
  dsimp only [List.nil_append, List.cons_append]
  apply relS_any (mask := [false, false, false, false, false, false, true]) (T := fun v W => ∃ A c, v = .tuple #[.slice A l.length c, .int .i64 (d : Nat), .bool true] ∧ fSl W W.heap.size A l.length c l) (hT := fun v w w' hb ⟨A, c, e, h⟩ => ⟨A, c, e, h.keep fStable hb.size hb.block⟩)
  · rfl
  · kernel_rfl
  · kernel_rfl
  · dsimp only [oblS]
    intro v31
    rintro w9 ⟨h9, t31⟩ T' hT'
    obtain ⟨A, c, e6, h6⟩ := t31
    subst e6
    go_simp
    exact ⟨Below.refl _ _, hT' _ _ ⟨_, _, rfl, h6⟩⟩
  dsimp only [List.nil_append, List.cons_append]
  apply relS_any (mask := [false, false, false, false, false, false, false, true]) (T := fun v W => ∃ A c, v = .slice A l.length c ∧ fSl W W.heap.size A l.length c l) (hT := fun v w w' hb ⟨A, c, e, h⟩ => ⟨A, c, e, h.keep fStable hb.size hb.block⟩)
  · rfl
  · kernel_rfl
  · kernel_rfl
  · dsimp only [oblS]
    intro v24
    rintro w9 ⟨h9, t24⟩ T' hT'
    obtain ⟨A, c, e6, h6⟩ := t24
    subst e6
    go_simp
    exact ⟨Below.refl _ _, hT' _ _ ⟨_, _, rfl, h6⟩⟩
  dsimp only [List.nil_append, List.cons_append]
  apply relS_det (mask := [false, false, false, false, false, false, false, true, false]) (x := .int .i64 (d : Nat))
  · rfl
  · kernel_rfl
  · kernel_rfl
  · dsimp only [oblS]
    intro v24
    rintro w9 ⟨h9, t24⟩
    obtain ⟨A, c, e6, h6⟩ := t24
    subst e6
    go_simp
    exact ⟨Below.refl _ _, rfl⟩
  dsimp only [List.nil_append, List.cons_append]
  apply relS_det (mask := [false, false, false, false, false, false, false, true, false, false]) (x := .bool true)
  · rfl
  · kernel_rfl
  · kernel_rfl
  · dsimp only [oblS]
    intro v24
    rintro w9 ⟨h9, t24⟩
    obtain ⟨A, c, e6, h6⟩ := t24
    subst e6
    go_simp
    exact ⟨Below.refl _ _, rfl⟩
  dsimp only [List.nil_append, List.cons_append]
  apply relS_any (mask := [false, false, false, false, false, false, false, false, true, false, false]) (T := fun v W => ∃ A c, v = .slice A l.length c ∧ fSl W W.heap.size A l.length c l) (hT := fun v w w' hb ⟨A, c, e, h⟩ => ⟨A, c, e, h.keep fStable hb.size hb.block⟩)
  · rfl
  · kernel_rfl
  · kernel_rfl
  · dsimp only [oblS]
    intro v32
    rintro w9 ⟨h9, t32⟩ T' hT'
    obtain ⟨A, c, e6, h6⟩ := t32
    subst e6
    go_simp
    exact ⟨Below.refl _ _, hT' _ _ ⟨_, _, rfl, h6⟩⟩
  dsimp only [List.nil_append, List.cons_append]
  apply relS_det (mask := [false, false, false, false, false, false, false, false, false, true, false, false]) (x := .int .i64 (d : Nat))
  · rfl
  · kernel_rfl
  · kernel_rfl
  · dsimp only [oblS]
    rintro w9 h9
    go_simp
    exact ⟨Below.refl _ _, rfl⟩
  dsimp only [List.nil_append, List.cons_append]
  apply relS_det (mask := [false, false, false, false, false, false, false, false, false, false, true, false, false]) (x := .bool true)
  · rfl
  · kernel_rfl
  · kernel_rfl
  · dsimp only [oblS]
    rintro w9 h9
    go_simp
    exact ⟨Below.refl _ _, rfl⟩
  dsimp only [List.nil_append, List.cons_append]
  refine relS_end (by rfl) ?_
  dsimp only [finS]
  rintro v31 v24 v32 v7 w8 ⟨⟨⟨⟨hb, t31⟩, t24⟩, t32⟩, t7⟩
  obtain ⟨A7, c7, e7, h7⟩ := t7
  subst e7
  have HB8 := hidp (HC1.out.trans ((HB1.out.trans (hb.mono HB1.out.size)).mono HC1.out.size))
  have H7 := hidp h7
  clear h7 t31 t24 t32
  go_simp
  go_wp2_with fail
  go_ret2
  exact ⟨A7, l.length, c7, by rw [HV.out]; rfl, by rw [HL.out]; exact H7.out, HB8.out⟩
set_option maxRecDepth 100000 in
set_option maxHeartbeats 4000000 in
theorem r47At_any (s : Ps) (v : Int) (k : Ky) (term known : Int) (w : World) (hps : PsIn s w w.heap.size) (hsm : ∀ g ∈ s.gs, g.fn ≤ 1000000 ∧ g.kn ≤ 1000000) (hT : ((psV s).flatMap (·.facts)).length ≤ 1000000) :
    Calls Try.prog 26 #[psVal s, .int .i64 v, .agg #[.int .i64 k.kind, .int .i64 k.subj, .int .i64 k.obj], .int .i64 term, .int .i64 known] w fun e w' =>
      e = .returned (.tuple #[.int .i64 ((atF (allV s v) k term known).getD 0), .bool (atF (allV s v) k term known).isSome, .int .i64 (errP (verOk s v))]) ∧ Below w.heap.size w w' := by
  obtain ⟨b, hb⟩ : ∃ b, w.heap.size = b := ⟨_, rfl⟩
  obtain ⟨V, hV⟩ : ∃ V, w.alloc (.cells #[.slice s.pA s.pn s.pc, .slice s.rA s.rn s.rc] 25) = V := ⟨_, rfl⟩
  obtain ⟨W, hW⟩ : ∃ W, V.alloc (.cells #[.int .i64 k.kind, .int .i64 k.subj, .int .i64 k.obj] 27) = W := ⟨_, rfl⟩
  have c0 : Below w.heap.size w V := hV ▸ (Below.refl _ w).alloc (Nat.le_refl _) _
  have c1 : Below V.heap.size V W := hW ▸ (Below.refl _ V).alloc (Nat.le_refl _) _
  have z0 : V.heap.size = b + 1 := by rw [← hV]; simp [hb]
  have g0 : W.heap[b]? = some (.cells #[.slice s.pA s.pn s.pc, .slice s.rA s.rn s.rc] 25 (0, 0)) := (c1.block _ (by omega)).trans (by rw [← hV, ← hb]; exact World.alloc_heap_new _ _)
  have g1 : W.heap[b + 1]? = some (.cells #[.int .i64 k.kind, .int .i64 k.subj, .int .i64 k.obj] 27 (0, 0)) := by rw [← hW, ← z0]; exact World.alloc_heap_new _ _
  have cW := c0.trans (c1.mono c0.size)
  have HCW := hidp cW
  have HPs := hidp (hps.later cW)
  have HG1 := hidp g1
  have HSm := hidp hsm
  have HT := hidp hT
  have x0 := cell_of_heap (o := 0) g0
  have x1 := cell_of_heap (o := 1) g0
  have x2 := lt_of_heap g0
  simp only [List.getElem?_toArray, List.getElem?_cons_zero, List.getElem?_cons_succ] at x0 x1
  clear c0 c1 cW g0 g1 hps hsm hT
  go_enter Try.func26, Try.ntmps26
  go_wp2_with fail
  clear hV hW hb z0
  refine (r47All_any s v W HPs.out HSm.out HT.out).mono ?_
  rintro e w1 ⟨A, n, c, rfl, hl, hb1⟩
  obtain ⟨ver, hver⟩ : ∃ b, verOk s v = b := ⟨_, rfl⟩
  have HV := hidp hver
  have HL := hidp hl
  have HB1 := hidp hb1
  have HG2 := hidp ((hb1.block _ (lt_of_heap HG1.out)).trans HG1.out)
  rw [hver]
  clear x0 x1 x2 hl hver hb1
  have k0 := cell_of_heap (o := 0) HG2.out
  have k1 := cell_of_heap (o := 1) HG2.out
  have k2 := cell_of_heap (o := 2) HG2.out
  have k3 := lt_of_heap HG2.out
  simp only [List.getElem?_toArray, List.getElem?_cons_zero, List.getElem?_cons_succ] at k0 k1 k2
  cases ver
  · have HA : Hid (allV s v = []) := by show _ = _; unfold allV; rw [HV.out]; rfl
    rw [show errP false = 470 from rfl]
    go_wp2_with fail
    go_ret3
    exact ⟨by rw [HA.out, HV.out]; rfl, HCW.out.trans (HB1.out.mono HCW.out.size)⟩
  · rw [show errP true = 0 from rfl]
    go_wp2_with fail
    refine (rAt_any A n c (allV s v) k term known w1 HL.out).mono ?_
    rintro e w2 ⟨rfl, hb2⟩
    have HB2 := hidp (HB1.out.trans (hb2.mono HB1.out.size))
    clear hb2
    go_wp2_with fail
    go_ret3
    exact ⟨by rw [HV.out]; rfl, HCW.out.trans (HB2.out.mono HCW.out.size)⟩
end Go.Proofs.Ytpnfpdkoeednhaa
