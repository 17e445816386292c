/- Several texts in one: A31 A32 A33 A34. -/
import Derived.Test.YtpnfpdkoeednhaaA27
import Derived.Deep.DeepCutAuto
import Derived.Deep.RegionHeld3
section
/- The reference's Few. -/
namespace Go.Proofs.Ytpnfpdkoeednhaa
open Go.RowKit Go.Shelf

def fewG (ps : List Pv) : Bool := ps.all fun g => decide (g.facts.length ≤ 8) && decide (g.kids.length ≤ 8)
def fewP (ps : List Pv) (roots : List Int) : Bool := fewG ps && (decide (ps.length ≤ 200) && decide (roots.length ≤ 60))
theorem PgIn.lens {g : Pq} {w : World} {n : Nat} (h : PgIn g w n) : g.fn = g.facts.length ∧ g.kn = g.kids.length := ⟨h.1.1, h.2.1⟩
theorem fewG_of {s : Ps} {w : World} {n : Nat} (h : PsIn s w n) : fewG (psV s) = true ↔ ∀ g ∈ s.gs, g.fn ≤ 8 ∧ g.kn ≤ 8 := by
  unfold fewG psV
  rw [List.all_map, List.all_eq_true]
  constructor
  · intro h1 g hg
    have h2 : (decide (g.facts.length ≤ 8) && decide (g.kids.length ≤ 8)) = true := h1 g hg
    simp at h2
    obtain ⟨e1, e2⟩ := (h.each g hg).lens
    omega
  · intro h1 g hg
    have := h1 g hg
    obtain ⟨e1, e2⟩ := (h.each g hg).lens
    show (decide (g.facts.length ≤ 8) && decide (g.kids.length ≤ 8)) = true
    simp
    omega
/-- Few pages are slim ones. -/
theorem few_slim {s : Ps} {w : World} {n : Nat} (h : PsIn s w n) (hf : fewP (psV s) s.roots = true) : (∀ g ∈ s.gs, g.fn ≤ 1000000 ∧ g.kn ≤ 1000000) ∧ s.gs.length ≤ 200 ∧ s.roots.length ≤ 60 := by
  simp [fewP, psV_len] at hf
  refine ⟨fun g hg => ?_, hf.2.1, hf.2.2⟩
  have := (fewG_of h).1 hf.1 g hg
  omega
set_option maxRecDepth 100000 in
set_option maxHeartbeats 4000000 in
theorem few_any (s : Ps) (w : World) (hps : PsIn s w w.heap.size) :
    Calls Try.prog 11 #[psVal s] w fun e w' => e = .returned (.bool (fewP (psV s) s.roots)) ∧ Below w.heap.size w w' := by
  obtain ⟨b, hb⟩ : ∃ b, w.heap.size = b := ⟨_, rfl⟩
  obtain ⟨W, hW⟩ : ∃ W, w.alloc (.cells #[.slice s.pA s.pn s.pc, .slice s.rA s.rn s.rc] 25) = W := ⟨_, rfl⟩
  have c1 : Below w.heap.size w W := hW ▸ (Below.refl _ w).alloc (Nat.le_refl _) _
  have g1 : W.heap[b]? = some (.cells #[.slice s.pA s.pn s.pc, .slice s.rA s.rn s.rc] 25 (0, 0)) := by rw [← hW, ← hb]; exact World.alloc_heap_new _ _
  have HPs := hidp (hps.later c1)
  have HLn : Hid (s.pn = s.gs.length ∧ s.rn = s.roots.length) := ⟨hps.pages.1, hps.roots.1⟩
  have HC1 := hidp c1
  have hpc := hps.pages.2.1
  have hpc2 := hps.pages.2.2.1
  have HIff := hidp (fewG_of hps)
  have x0 := cell_of_heap (o := 0) g1
  have x1 := cell_of_heap (o := 1) g1
  have x2 := lt_of_heap g1
  simp only [List.getElem?_toArray, List.getElem?_cons_zero, List.getElem?_cons_succ] at x0 x1
  clear hps c1 g1
  go_enter Try.func11, Try.ntmps11
  go_wp2_with fail
  clear hb hW
  go_loopw [3] (fun i wr => ∃ k : Nat, k ≤ s.pn ∧ i = .int .i64 k ∧ wr = W ∧ ∀ (j : Nat) (g : Pq), j < k → s.gs[j]? = some g → g.fn ≤ 8 ∧ g.kn ≤ 8) (fun i _ => s.pn - (intOf i).toNat)
  case atStart => exact ⟨0, by omega, rfl, rfl, fun j g h => by omega⟩
  case round =>
  obtain ⟨k, hk, rfl, rfl, hall⟩ := hrel
  have HAll := hidp hall
  clear hall
  by_cases hkn : k < s.pn
  · have hkn' : (k : Int) < s.pn := by omega
    obtain ⟨pb, off, g, hA, _, hg, c0, c1⟩ := pgSl.get HPs.out.pages hkn
    have hix := fun W => ix_Pages (c := s.pc) hA hkn W
    have lb := lt_of_cell c0
    have HG := hidp hg
    clear hg hA
    by_cases h1 : 8 < g.fn
    · have h1' : (8 : Int) < g.fn := by omega
      go_wp2_with fail
      go_ret
      refine ⟨?_, HC1.out⟩
      have hf : fewG (psV s) = false := by
        rw [Bool.eq_false_iff]; intro h
        have := HIff.out.1 h g (List.mem_of_getElem? HG.out)
        omega
      simp [fewP, hf]
    · have h1' : ¬ ((8 : Int) < g.fn) := by omega
      by_cases h2 : 8 < g.kn
      · have h2' : (8 : Int) < g.kn := by omega
        go_wp2_with fail
        go_ret
        refine ⟨?_, HC1.out⟩
        have hf : fewG (psV s) = false := by
          rw [Bool.eq_false_iff]; intro h
          have := HIff.out.1 h g (List.mem_of_getElem? HG.out)
          omega
        simp [fewP, hf]
      · have h2' : ¬ ((8 : Int) < g.kn) := by omega
        go_wp2_with fail
        go_roundw
        case rel =>
          refine ⟨k + 1, by omega, by go_num, by first | rfl | trivial, fun j g' hj hg' => ?_⟩
          by_cases hjk : j < k
          · exact HAll.out j g' hjk hg'
          · have : j = k := by omega
            subst this
            have e := HG.out
            rw [hg'] at e
            cases e
            omega
        case measure => simp [intOf]; omega
  · have hkn' : ¬ ((k : Int) < s.pn) := by omega
    have hf : Hid (fewG (psV s) = true) := hidp (HIff.out.2 fun g hg => by
      obtain ⟨j, hj⟩ := List.mem_iff_getElem?.1 hg
      have := (List.getElem?_eq_some_iff.1 hj).1
      exact HAll.out j g (by have := HLn.out.1; omega) hj)
    by_cases h1 : s.pn ≤ 200
    · have h1' : (s.pn : Int) ≤ 200 := by omega
      by_cases h60 : s.rn ≤ 60
      · have h60' : (s.rn : Int) ≤ 60 := by omega
        go_wp2_with fail
        go_ret
        refine ⟨?_, HC1.out⟩
        have e1 := HLn.out.1
        have e2 := HLn.out.2
        simp [fewP, hf.out, psV_len, ← e1, ← e2, h1, h60]
      · have h60' : ¬ ((s.rn : Int) ≤ 60) := by omega
        go_wp2_with fail
        go_ret
        refine ⟨?_, HC1.out⟩
        have e2 := HLn.out.2
        simp [fewP, ← e2, h60]
    · have h1' : ¬ ((s.pn : Int) ≤ 200) := by omega
      go_wp2_with fail
      go_ret
      refine ⟨?_, HC1.out⟩
      have e1 := HLn.out.1
      simp [fewP, psV_len, ← e1, h1]
end Go.Proofs.Ytpnfpdkoeednhaa

end
section
/- The reference's order of facts; equality of pages. -/
namespace Go.Proofs.Ytpnfpdkoeednhaa
open Go.RowKit Go.Shelf Go.Sort

set_option maxRecDepth 100000 in
set_option maxHeartbeats 2000000 in
theorem r47Before_any (a b : Fc) (w : World) : Calls Try.prog 32 #[.agg (fEnc a).toArray, .agg (fEnc b).toArray] w fun e w' => e = .returned (.bool (ltP a b)) ∧ Below w.heap.size w w' := by
  show Calls Try.prog 32 #[.agg #[.int .i64 a.key.kind, .int .i64 a.key.subj, .int .i64 a.key.obj, .int .i64 a.val, .int .i64 a.fr, .int .i64 a.to, .int .i64 a.known, .int .i64 a.no], .agg #[.int .i64 b.key.kind, .int .i64 b.key.subj, .int .i64 b.key.obj, .int .i64 b.val, .int .i64 b.fr, .int .i64 b.to, .int .i64 b.known, .int .i64 b.no]] w _
  obtain ⟨n, hn⟩ : ∃ n, w.heap.size = n := ⟨_, rfl⟩
  obtain ⟨V, hV⟩ : ∃ V, w.alloc (.cells #[.int .i64 a.key.kind, .int .i64 a.key.subj, .int .i64 a.key.obj, .int .i64 a.val, .int .i64 a.fr, .int .i64 a.to, .int .i64 a.known, .int .i64 a.no] 31) = V := ⟨_, rfl⟩
  obtain ⟨W, hW⟩ : ∃ W, V.alloc (.cells #[.int .i64 b.key.kind, .int .i64 b.key.subj, .int .i64 b.key.obj, .int .i64 b.val, .int .i64 b.fr, .int .i64 b.to, .int .i64 b.known, .int .i64 b.no] 31) = W := ⟨_, rfl⟩
  have c0 : Below w.heap.size w V := hV ▸ (Below.refl _ w).alloc (Nat.le_refl _) _
  have c1 : Below V.heap.size V W := hW ▸ (Below.refl _ V).alloc (Nat.le_refl _) _
  have z0 : V.heap.size = n + 1 := by rw [← hV]; simp [hn]
  have g0 : W.heap[n]? = some (.cells #[.int .i64 a.key.kind, .int .i64 a.key.subj, .int .i64 a.key.obj, .int .i64 a.val, .int .i64 a.fr, .int .i64 a.to, .int .i64 a.known, .int .i64 a.no] 31 (0, 0)) := (c1.block _ (by omega)).trans (by rw [← hV, ← hn]; exact World.alloc_heap_new _ _)
  have g1 : W.heap[n + 1]? = some (.cells #[.int .i64 b.key.kind, .int .i64 b.key.subj, .int .i64 b.key.obj, .int .i64 b.val, .int .i64 b.fr, .int .i64 b.to, .int .i64 b.known, .int .i64 b.no] 31 (0, 0)) := by rw [← hW, ← z0]; exact World.alloc_heap_new _ _
  have HB := hidp (c0.trans (c1.mono c0.size))
  have x0 := cell_of_heap (o := 0) g0
  have x1 := cell_of_heap (o := 1) g0
  have x2 := cell_of_heap (o := 2) g0
  have x3 := cell_of_heap (o := 3) g0
  have x4 := cell_of_heap (o := 4) g0
  have x5 := cell_of_heap (o := 5) g0
  have x6 := cell_of_heap (o := 6) g0
  have x7 := cell_of_heap (o := 7) g0
  have y0 := cell_of_heap (o := 0) g1
  have y1 := cell_of_heap (o := 1) g1
  have y2 := cell_of_heap (o := 2) g1
  have y3 := cell_of_heap (o := 3) g1
  have y4 := cell_of_heap (o := 4) g1
  have y5 := cell_of_heap (o := 5) g1
  have y6 := cell_of_heap (o := 6) g1
  have y7 := cell_of_heap (o := 7) g1
  have l0 := lt_of_heap g0
  have l1 := lt_of_heap g1
  simp only [List.getElem?_toArray, List.getElem?_cons_zero, List.getElem?_cons_succ] at x0 y0 x1 y1 x2 y2 x3 y3 x4 y4 x5 y5 x6 y6 x7 y7
  clear c0 c1 g0 g1
  have hk := fun W => k_neq a.key b.key W
  by_cases he : a.key = b.key
  · have HE : Hid (ltP a b = a.bef b) := by
      show _ = _
      have h0 : b.key.lt b.key = false := by rw [Bool.eq_false_iff]; intro h; simp [Ky.lt] at h
      simp [ltP, he, h0]
    have hd : (!decide (a.key = b.key)) = false := by simp [he]
    rw [hd] at hk
    clear he hd
    go_enter Try.func32, Try.ntmps32
    go_wp2_with fail
    clear hV hW hn z0
    refine (rBefore_any a b W).mono ?_
    rintro e w' ⟨rfl, hb⟩
    go_wp2_with fail
    go_ret
    exact ⟨ret_bool HE.out.symm, HB.out.trans (hb.mono HB.out.size)⟩
  · have HE : Hid (ltP a b = a.key.lt b.key) := by show _ = _; simp [ltP, he]
    have hd : (!decide (a.key = b.key)) = true := by simp [he]
    rw [hd] at hk
    clear he hd
    go_enter Try.func32, Try.ntmps32
    go_wp2_with fail
    clear hV hW hn z0
    refine (rLessKey_any a.key b.key W).mono ?_
    rintro e w' ⟨rfl, hb⟩
    go_wp2_with fail
    go_ret
    exact ⟨ret_bool HE.out.symm, HB.out.trans (hb.mono HB.out.size)⟩
end Go.Proofs.Ytpnfpdkoeednhaa

end
section
/- The reference's samePage. -/
namespace Go.Proofs.Ytpnfpdkoeednhaa
open Go.RowKit Go.Shelf Go.Sort

theorem pgV_ext {a b : Pq} : pgV a = pgV b ↔ a.facts = b.facts ∧ a.kids = b.kids := by
  simp [pgV]
theorem take_ext {l m : List Int} (k : Nat) (h : l.take k = m.take k) {x y : Int} (hx : l[k]? = some x) (hy : m[k]? = some y) : l.take (k + 1) = m.take (k + 1) ↔ x = y := by
  rw [take_snoc hx, take_snoc hy, h]
  constructor
  · intro e
    have := List.append_cancel_left e
    simpa using this
  · intro e; rw [e]
set_option maxRecDepth 100000 in
set_option maxHeartbeats 4000000 in
theorem samePage_any (a b : Pq) (w : World) (ha : PgIn a w w.heap.size) (hb : PgIn b w w.heap.size) :
    Calls Try.prog 59 #[.agg #[.slice a.fA a.fn a.fc, .slice a.kA a.kn a.kc], .agg #[.slice b.fA b.fn b.fc, .slice b.kA b.kn b.kc]] w fun e w' => e = .returned (.bool (decide (pgV a = pgV b))) ∧ Below w.heap.size w w' := by
  obtain ⟨n, hn⟩ : ∃ n, w.heap.size = n := ⟨_, rfl⟩
  obtain ⟨V, hV⟩ : ∃ V, w.alloc (.cells #[.slice a.fA a.fn a.fc, .slice a.kA a.kn a.kc] 66) = V := ⟨_, rfl⟩
  obtain ⟨W, hW⟩ : ∃ W, V.alloc (.cells #[.slice b.fA b.fn b.fc, .slice b.kA b.kn b.kc] 66) = W := ⟨_, rfl⟩
  have c0 : Below w.heap.size w V := hV ▸ (Below.refl _ w).alloc (Nat.le_refl _) _
  have c1 : Below V.heap.size V W := hW ▸ (Below.refl _ V).alloc (Nat.le_refl _) _
  have z0 : V.heap.size = n + 1 := by rw [← hV]; simp [hn]
  have g0 : W.heap[n]? = some (.cells #[.slice a.fA a.fn a.fc, .slice a.kA a.kn a.kc] 66 (0, 0)) := (c1.block _ (by omega)).trans (by rw [← hV, ← hn]; exact World.alloc_heap_new _ _)
  have g1 : W.heap[n + 1]? = some (.cells #[.slice b.fA b.fn b.fc, .slice b.kA b.kn b.kc] 66 (0, 0)) := by rw [← hW, ← z0]; exact World.alloc_heap_new _ _
  have cW := c0.trans (c1.mono c0.size)
  have HB := hidp cW
  have HA : Hid (∀ W', Below W.heap.size W W' → PgIn a W' W'.heap.size) := fun W' h => ha.keep (Nat.le_trans cW.size h.size) (cW.trans (h.mono cW.size)).block
  have HBp : Hid (∀ W', Below W.heap.size W W' → PgIn b W' W'.heap.size) := fun W' h => hb.keep (Nat.le_trans cW.size h.size) (cW.trans (h.mono cW.size)).block
  have HG0 := hidp g0
  have HG1 := hidp g1
  have HLa := hidp ha.2.1
  have HLb := hidp hb.2.1
  have hac := ha.2.2.1
  have hac2 := ha.2.2.2.1
  have x0 := cell_of_heap (o := 0) g0
  have x1 := cell_of_heap (o := 1) g0
  have y0 := cell_of_heap (o := 0) g1
  have y1 := cell_of_heap (o := 1) g1
  have l0 := lt_of_heap g0
  have l1 := lt_of_heap g1
  simp only [List.getElem?_toArray, List.getElem?_cons_zero, List.getElem?_cons_succ] at x0 x1 y0 y1
  clear c0 c1 cW g0 g1 ha hb
  go_enter Try.func59, Try.ntmps59
  go_wp2_with fail
  clear hV hW hn z0
  refine (fSame_any a.fA b.fA a.fn b.fn a.fc b.fc a.facts b.facts W (HA.out W (Below.refl _ _)).1 (HBp.out W (Below.refl _ _)).1).mono ?_
  rintro e w3 ⟨rfl, hb3⟩
  have HB3 := hidp hb3
  clear x0 x1 y0 y1 l0 l1 hb3
  have x1 := cell_of_heap (o := 1) ((HB3.out.block _ (lt_of_heap HG0.out)).trans HG0.out)
  have y1 := cell_of_heap (o := 1) ((HB3.out.block _ (lt_of_heap HG1.out)).trans HG1.out)
  have l0 := lt_of_heap ((HB3.out.block _ (lt_of_heap HG0.out)).trans HG0.out)
  have l1 := lt_of_heap ((HB3.out.block _ (lt_of_heap HG1.out)).trans HG1.out)
  simp only [List.getElem?_toArray, List.getElem?_cons_zero, List.getElem?_cons_succ] at x1 y1
  by_cases hf : a.facts = b.facts
  · rw [decide_eq_true hf]
    have HF := hidp hf
    clear hf
    by_cases hk : a.kn = b.kn
    · have hkn : ((a.kn : Int) != (b.kn : Int)) = false := by simp [hk]
      have HK := hidp hk
      clear hk
      go_wp2_with fail
      clear hkn x1 y1 l0 l1
      go_loopw [5] (fun i wr => ∃ k : Nat, k ≤ a.kn ∧ i = .int .i64 k ∧ Below W.heap.size W wr ∧ a.kids.take k = b.kids.take k) (fun i _ => a.kn - (intOf i).toNat)
      case atStart => exact ⟨0, by omega, rfl, HB3.out, by simp⟩
      case round =>
      obtain ⟨k, hk, rfl, hbw, htk⟩ := hrel
      have HBw := hidp hbw
      have HTk := hidp htk
      have x1 := cell_of_heap (o := 1) ((hbw.block _ (lt_of_heap HG0.out)).trans HG0.out)
      have y1 := cell_of_heap (o := 1) ((hbw.block _ (lt_of_heap HG1.out)).trans HG1.out)
      have l0 := lt_of_heap ((hbw.block _ (lt_of_heap HG0.out)).trans HG0.out)
      have l1 := lt_of_heap ((hbw.block _ (lt_of_heap HG1.out)).trans HG1.out)
      simp only [List.getElem?_toArray, List.getElem?_cons_zero, List.getElem?_cons_succ] at x1 y1
      clear hbw htk
      by_cases hkn : k < a.kn
      · have hkn' : (k : Int) < a.kn := by omega
        obtain ⟨b1, off1, v1, hA1, _, hv1, q1⟩ := iSl.get (HA.out wr HBw.out).2 hkn
        obtain ⟨b2, off2, v2, hA2, _, hv2, q2⟩ := iSl.get (HBp.out wr HBw.out).2 (show k < b.kn by have := HK.out; omega)
        have hix1 := fun W => ix_intsP (c := a.kc) hA1 hkn W
        have hix2 := fun W => ix_intsP (n := b.kn) (c := b.kc) hA2 (show k < b.kn by have := HK.out; omega) W
        have m1 := lt_of_cell q1
        have m2 := lt_of_cell q2
        have HV1 := hidp hv1
        have HV2 := hidp hv2
        clear hv1 hv2 hA1 hA2
        by_cases hv : v1 = v2
        · have hne : (v1 != v2) = false := by simp [hv]
          have HV := hidp hv
          clear hv
          go_upto_region 6 with fail
          go_region_held3 (fun w' => w'.cell? ⟨n, 1, none⟩ = some (.slice a.kA a.kn a.kc) ∧ w'.cell? ⟨n + 1, 1, none⟩ = some (.slice b.kA b.kn b.kc) ∧ w'.cell? ⟨b1, off1 + k, none⟩ = some (.int .i64 v1) ∧ w'.cell? ⟨b2, off2 + k, none⟩ = some (.int .i64 v2))
            (first | exact ⟨x1, y1, q1, q2⟩)
            (first | fail)
          go_wp2_with fail
          go_roundw
          case rel => exact ⟨k + 1, by omega, by go_num, HBw.out.trans ((Below.refl _ _).drew), (take_ext k HTk.out HV1.out HV2.out).2 HV.out⟩
          case measure => simp [intOf]; omega
        · have hne : (v1 != v2) = true := by simp [hv]
          have HV := hidp hv
          clear hv
          go_upto_region 6 with fail
          go_region_held3 (fun w' => w'.cell? ⟨n, 1, none⟩ = some (.slice a.kA a.kn a.kc) ∧ w'.cell? ⟨n + 1, 1, none⟩ = some (.slice b.kA b.kn b.kc) ∧ w'.cell? ⟨b1, off1 + k, none⟩ = some (.int .i64 v1) ∧ w'.cell? ⟨b2, off2 + k, none⟩ = some (.int .i64 v2))
            (first | exact ⟨x1, y1, q1, q2⟩)
            (first | fail)
          go_wp2_with fail
          go_ret
          refine ⟨ret_bool ?_, HB.out.trans ((HBw.out.trans ((Below.refl _ _).drew)).mono HB.out.size)⟩
          symm
          rw [decide_eq_false_iff_not, pgV_ext]
          rintro ⟨_, h⟩
          have h1 := HV1.out
          rw [h, HV2.out] at h1
          cases h1
          exact HV.out rfl
      · have hkn' : ¬ ((k : Int) < a.kn) := by omega
        go_wp2_with fail
        go_ret
        refine ⟨ret_bool ?_, HB.out.trans (HBw.out.mono HB.out.size)⟩
        symm
        rw [decide_eq_true_eq, pgV_ext]
        have h := HTk.out
        rw [List.take_of_length_le (by have := HLa.out; omega), List.take_of_length_le (by have := HLb.out; have := HK.out; omega)] at h
        exact ⟨HF.out, h⟩
    · have hkn : ((a.kn : Int) != (b.kn : Int)) = true := by simp; omega
      have HK := hidp hk
      clear hk
      go_wp2_with fail
      go_ret
      refine ⟨ret_bool ?_, HB.out.trans (HB3.out.mono HB.out.size)⟩
      symm
      rw [decide_eq_false_iff_not, pgV_ext]
      rintro ⟨_, h⟩
      exact HK.out (HLa.out.trans ((congrArg List.length h).trans HLb.out.symm))
  · rw [decide_eq_false hf]
    have HF := hidp hf
    clear hf
    go_wp2_with fail
    go_ret
    refine ⟨ret_bool ?_, HB.out.trans (HB3.out.mono HB.out.size)⟩
    symm
    rw [decide_eq_false_iff_not, pgV_ext]
    rintro ⟨h, _⟩
    exact HF.out h
end Go.Proofs.Ytpnfpdkoeednhaa

end
section
/- The reference's Begins. -/
namespace Go.Proofs.Ytpnfpdkoeednhaa
open Go.RowKit Go.Shelf Go.Sort

theorem take_extG {α : Type} {l m : List α} (k : Nat) (h : l.take k = m.take k) {x y : α} (hx : l[k]? = some x) (hy : m[k]? = some y) : l.take (k + 1) = m.take (k + 1) ↔ x = y := by
  rw [take_snoc hx, take_snoc hy, h]
  constructor
  · intro e
    have := List.append_cancel_left e
    simpa using this
  · intro e; rw [e]
/-- The one is a beginning of the other. -/
def begB (ps qs : List Pv) (rs ss : List Int) : Bool := decide (qs.take ps.length = ps ∧ ss.take rs.length = rs)
theorem begB_false {ps qs : List Pv} {rs ss : List Int} (h : ¬ (qs.take ps.length = ps ∧ ss.take rs.length = rs)) : begB ps qs rs ss = false := decide_eq_false h
theorem begB_len {ps qs : List Pv} {rs ss : List Int} (h : qs.length < ps.length ∨ ss.length < rs.length) : begB ps qs rs ss = false := begB_false fun ⟨h1, h2⟩ => by
  have e1 := congrArg List.length h1
  have e2 := congrArg List.length h2
  rw [List.length_take] at e1 e2
  omega
theorem get_of_take {α : Type} {l m : List α} {n k : Nat} (h : l.take n = m) (hk : k < n) {x y : α} (hx : l[k]? = some x) (hy : m[k]? = some y) : x = y := by
  rw [← h, List.getElem?_take, if_pos hk, hx] at hy
  cases hy; rfl
set_option maxRecDepth 100000 in
set_option maxHeartbeats 8000000 in
theorem begins_any (p q : Ps) (w : World) (hp : PsIn p w w.heap.size) (hq : PsIn q w w.heap.size) :
    Calls Try.prog 30 #[psVal p, psVal q] w fun e w' => e = .returned (.bool (begB (psV p) (psV q) p.roots q.roots)) ∧ Below w.heap.size w w' := by
  obtain ⟨n, hn⟩ : ∃ n, w.heap.size = n := ⟨_, rfl⟩
  obtain ⟨V, hV⟩ : ∃ V, w.alloc (.cells #[.slice p.pA p.pn p.pc, .slice p.rA p.rn p.rc] 25) = V := ⟨_, rfl⟩
  obtain ⟨W, hW⟩ : ∃ W, V.alloc (.cells #[.slice q.pA q.pn q.pc, .slice q.rA q.rn q.rc] 25) = W := ⟨_, rfl⟩
  have c0 : Below w.heap.size w V := hV ▸ (Below.refl _ w).alloc (Nat.le_refl _) _
  have c1 : Below V.heap.size V W := hW ▸ (Below.refl _ V).alloc (Nat.le_refl _) _
  have z0 : V.heap.size = n + 1 := by rw [← hV]; simp [hn]
  have g0 : W.heap[n]? = some (.cells #[.slice p.pA p.pn p.pc, .slice p.rA p.rn p.rc] 25 (0, 0)) := (c1.block _ (by omega)).trans (by rw [← hV, ← hn]; exact World.alloc_heap_new _ _)
  have g1 : W.heap[n + 1]? = some (.cells #[.slice q.pA q.pn q.pc, .slice q.rA q.rn q.rc] 25 (0, 0)) := by rw [← hW, ← z0]; exact World.alloc_heap_new _ _
  have cW := c0.trans (c1.mono c0.size)
  have HB := hidp cW
  have HP : Hid (∀ W', Below W.heap.size W W' → PsIn p W' W'.heap.size) := fun W' h => hp.later (cW.trans (h.mono cW.size))
  have HQ : Hid (∀ W', Below W.heap.size W W' → PsIn q W' W'.heap.size) := fun W' h => hq.later (cW.trans (h.mono cW.size))
  have HG0 := hidp g0
  have HG1 := hidp g1
  have HLp : Hid (p.pn = (psV p).length ∧ p.rn = p.roots.length) := ⟨by rw [psV_len]; exact hp.pages.1, hp.roots.1⟩
  have HLq : Hid (q.pn = (psV q).length ∧ q.rn = q.roots.length) := ⟨by rw [psV_len]; exact hq.pages.1, hq.roots.1⟩
  have hpc := hp.pages.2.1
  have hpc2 := hp.pages.2.2.1
  have hrc := hp.roots.2.1
  have hrc2 := hp.roots.2.2.1
  have x0 := cell_of_heap (o := 0) g0
  have x1 := cell_of_heap (o := 1) g0
  have y0 := cell_of_heap (o := 0) g1
  have y1 := cell_of_heap (o := 1) g1
  have l0 := lt_of_heap g0
  have l1 := lt_of_heap g1
  simp only [List.getElem?_toArray, List.getElem?_cons_zero, List.getElem?_cons_succ] at x0 x1 y0 y1
  clear c0 c1 cW g0 g1 hp hq
  by_cases h1 : q.pn < p.pn
  · have h1' : (q.pn : Int) < p.pn := by omega
    go_enter Try.func30, Try.ntmps30
    go_wp2_with fail
    go_ret
    exact ⟨ret_bool (begB_len (.inl (by have := HLp.out.1; have := HLq.out.1; omega))).symm, HB.out⟩
  · have h1' : ¬ ((q.pn : Int) < p.pn) := by omega
    by_cases h2 : q.rn < p.rn
    · have h2' : (q.rn : Int) < p.rn := by omega
      go_enter Try.func30, Try.ntmps30
      go_wp2_with fail
      go_ret
      exact ⟨ret_bool (begB_len (.inr (by have := HLp.out.2; have := HLq.out.2; omega))).symm, by first | exact HB.out | (rw [← hn]; exact HB.out)⟩
    · have h2' : ¬ ((q.rn : Int) < p.rn) := by omega
      go_enter Try.func30, Try.ntmps30
      go_wp2_with fail
      clear hV hW hn z0 x0 x1 y0 y1 l0 l1
      go_loopw [5] (fun i wr => ∃ k : Nat, k ≤ p.pn ∧ i = .int .i64 k ∧ Below W.heap.size W wr ∧ (psV q).take k = (psV p).take k) (fun i _ => p.pn - (intOf i).toNat)
      case atStart => exact ⟨0, by omega, rfl, Below.refl _ _, by simp⟩
      case round =>
      obtain ⟨k, hk, rfl, hbw, htk⟩ := hrel
      have HBw := hidp hbw
      have HTk := hidp htk
      have x0 := cell_of_heap (o := 0) ((hbw.block _ (lt_of_heap HG0.out)).trans HG0.out)
      have y0 := cell_of_heap (o := 0) ((hbw.block _ (lt_of_heap HG1.out)).trans HG1.out)
      have l0 := lt_of_heap ((hbw.block _ (lt_of_heap HG0.out)).trans HG0.out)
      have l1 := lt_of_heap ((hbw.block _ (lt_of_heap HG1.out)).trans HG1.out)
      simp only [List.getElem?_toArray, List.getElem?_cons_zero] at x0 y0
      clear hbw htk
      by_cases hkn : k < p.pn
      · have hkn' : (k : Int) < p.pn := by omega
        obtain ⟨b1, off1, ga, hA1, _, hv1, q1, r1⟩ := pgSl.get (HP.out wr HBw.out).pages hkn
        obtain ⟨b2, off2, gb, hA2, _, hv2, q2, r2⟩ := pgSl.get (HQ.out wr HBw.out).pages (show k < q.pn by omega)
        have hix1 := fun W => ix_Pages (c := p.pc) hA1 hkn W
        have hix2 := fun W => ix_Pages (n := q.pn) (c := q.pc) hA2 (show k < q.pn by omega) W
        have m1 := lt_of_cell q1
        have m2 := lt_of_cell q2
        have HV1 := hidp hv1
        have HV2 := hidp hv2
        have HGa : Hid (∀ W', Below wr.heap.size wr W' → PgIn ga W' W'.heap.size) := fun W' h => ((HP.out wr HBw.out).each ga (List.mem_of_getElem? hv1)).keep h.size h.block
        have HGb : Hid (∀ W', Below wr.heap.size wr W' → PgIn gb W' W'.heap.size) := fun W' h => ((HQ.out wr HBw.out).each gb (List.mem_of_getElem? hv2)).keep h.size h.block
        clear hv1 hv2 hA1 hA2
        obtain ⟨e, he⟩ : ∃ e, decide (pgV ga = pgV gb) = e := ⟨_, rfl⟩
        have HE := hidp he
        have HCall : Hid (∀ W', Below wr.heap.size wr W' → Calls Try.prog 59 #[.agg #[.slice ga.fA ga.fn ga.fc, .slice ga.kA ga.kn ga.kc], .agg #[.slice gb.fA gb.fn gb.fc, .slice gb.kA gb.kn gb.kc]] W' fun o w' => o = .returned (.bool e) ∧ Below W'.heap.size W' w') := fun W' h => by
          rw [← HE.out]; exact samePage_any ga gb W' (HGa.out _ h) (HGb.out _ h)
        clear he
        go_upto_region 6 with fail
        go_region_held3 (fun w' => w'.cell? ⟨n, 0, none⟩ = some (.slice p.pA p.pn p.pc) ∧ w'.cell? ⟨n + 1, 0, none⟩ = some (.slice q.pA q.pn q.pc) ∧ w'.cell? ⟨b1, off1 + k * 2, none⟩ = some (.slice ga.fA ga.fn ga.fc) ∧ w'.cell? ⟨b1, off1 + k * 2 + 1, none⟩ = some (.slice ga.kA ga.kn ga.kc) ∧ w'.cell? ⟨b2, off2 + k * 2, none⟩ = some (.slice gb.fA gb.fn gb.fc) ∧ w'.cell? ⟨b2, off2 + k * 2 + 1, none⟩ = some (.slice gb.kA gb.kn gb.kc))
          (first | (refine ⟨cellB ?_ x0, cellB ?_ y0, cellB ?_ q1, cellB ?_ r1, cellB ?_ q2, cellB ?_ r2⟩ <;> (repeat (first | exact HB7.out | exact Below.refl _ _ | refine Below.drew ?_))) | (refine ⟨cellB ?_ x0, cellB ?_ y0, cellB ?_ q1, cellB ?_ r1, cellB ?_ q2, cellB ?_ r2⟩ <;> (repeat (first | exact Below.refl _ _ | refine Below.drew ?_))))
          (first | (go_at_call 59; refine (HCall.out _ (by repeat (first | exact Below.refl _ _ | refine Below.drew ?_))).mono ?_; rintro o w7 ⟨rfl, hb7⟩; have hB7 : Below wr.heap.size wr w7 := Below.trans (by repeat (first | exact Below.refl _ _ | refine Below.drew ?_)) (hb7.mono (by simp)); have HB7 := hidp hB7; clear hb7 hB7))
        clear x0 y0 q1 r1 q2 r2
        cases e
        · go_wp2_with fail
          go_ret
          refine ⟨ret_bool (begB_false fun ⟨h, _⟩ => ?_).symm, HB.out.trans ((HBw.out.trans (HB7.out.mono HBw.out.size)).mono HB.out.size)⟩
          have := get_of_take h (by have := HLp.out.1; omega) (psV_get HV2.out) (psV_get HV1.out)
          exact of_decide_eq_false HE.out this.symm
        · go_wp2_with fail
          go_roundw
          case rel => exact ⟨k + 1, by omega, by go_num, HBw.out.trans (HB7.out.mono HBw.out.size), (take_extG k HTk.out (psV_get HV2.out) (psV_get HV1.out)).2 (of_decide_eq_true HE.out).symm⟩
          case measure => simp [intOf]; omega
      · have hkn' : ¬ ((k : Int) < p.pn) := by omega
        have hps : Hid ((psV q).take (psV p).length = psV p) := by
          show _ = _
          have h := HTk.out
          have e : k = (psV p).length := by have := HLp.out.1; omega
          rw [e, List.take_length] at h
          exact h
        go_wp2_with fail
        clear x0 y0 l0 l1
        go_loopw [6] (fun i wr => ∃ k : Nat, k ≤ p.rn ∧ i = .int .i64 k ∧ Below W.heap.size W wr ∧ q.roots.take k = p.roots.take k) (fun i _ => p.rn - (intOf i).toNat)
        case atStart => exact ⟨0, by omega, rfl, HBw.out, by simp⟩
        case round =>
        obtain ⟨j, hj, rfl, hbv, htj⟩ := hrel
        rename World => wv
        have HBv := hidp hbv
        have HTj := hidp htj
        have x1 := cell_of_heap (o := 1) ((hbv.block _ (lt_of_heap HG0.out)).trans HG0.out)
        have y1 := cell_of_heap (o := 1) ((hbv.block _ (lt_of_heap HG1.out)).trans HG1.out)
        have l0 := lt_of_heap ((hbv.block _ (lt_of_heap HG0.out)).trans HG0.out)
        have l1 := lt_of_heap ((hbv.block _ (lt_of_heap HG1.out)).trans HG1.out)
        simp only [List.getElem?_toArray, List.getElem?_cons_zero, List.getElem?_cons_succ] at x1 y1
        clear hbv htj
        by_cases hjn : j < p.rn
        · have hjn' : (j : Int) < p.rn := by omega
          obtain ⟨b1, off1, v1, hA1, _, hv1, q1⟩ := iSl.get (HP.out wv HBv.out).roots hjn
          obtain ⟨b2, off2, v2, hA2, _, hv2, q2⟩ := iSl.get (HQ.out wv HBv.out).roots (show j < q.rn by omega)
          have hix1 := fun W => ix_intsP (c := p.rc) hA1 hjn W
          have hix2 := fun W => ix_intsP (n := q.rn) (c := q.rc) hA2 (show j < q.rn by omega) W
          have m1 := lt_of_cell q1
          have m2 := lt_of_cell q2
          have HV1 := hidp hv1
          have HV2 := hidp hv2
          clear hv1 hv2 hA1 hA2
          obtain ⟨e, he⟩ : ∃ e, (v1 != v2) = e := ⟨_, rfl⟩
          have HE := hidp he
          go_upto_region 11 with fail
          go_region_held3 (fun w' => w'.cell? ⟨n, 1, none⟩ = some (.slice p.rA p.rn p.rc) ∧ w'.cell? ⟨n + 1, 1, none⟩ = some (.slice q.rA q.rn q.rc) ∧ w'.cell? ⟨b1, off1 + j, none⟩ = some (.int .i64 v1) ∧ w'.cell? ⟨b2, off2 + j, none⟩ = some (.int .i64 v2))
            (first | exact ⟨x1, y1, q1, q2⟩)
            (first | fail)
          cases e
          · go_wp2_with fail
            go_roundw
            case rel => exact ⟨j + 1, by omega, by go_num, HBv.out.trans ((Below.refl _ _).drew), (take_extG j HTj.out HV2.out HV1.out).2 (by have := HE.out; simp at this; exact this.symm)⟩
            case measure => simp [intOf]; omega
          · go_wp2_with fail
            go_ret
            refine ⟨ret_bool (begB_false fun ⟨_, h⟩ => ?_).symm, HB.out.trans ((HBv.out.trans ((Below.refl _ _).drew)).mono HB.out.size)⟩
            have := get_of_take h (by have := HLp.out.2; omega) HV2.out HV1.out
            have he2 := HE.out
            simp at he2
            exact he2 this.symm
        · have hjn' : ¬ ((j : Int) < p.rn) := by omega
          go_wp2_with fail
          go_ret
          refine ⟨ret_bool ?_, HB.out.trans (HBv.out.mono HB.out.size)⟩
          symm
          refine decide_eq_true ⟨hps.out, ?_⟩
          have h := HTj.out
          have e : j = p.roots.length := by have := HLp.out.2; omega
          rw [e, List.take_length] at h
          exact h
end Go.Proofs.Ytpnfpdkoeednhaa

end

