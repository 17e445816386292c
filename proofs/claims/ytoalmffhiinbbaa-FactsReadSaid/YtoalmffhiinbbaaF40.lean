/- FactsRead walked. Printed by tools/gen40.py. -/
import Derived.Test.YtoalmffhiinbbaaF39
namespace Go.Proofs.Ytoalmffhiinbbaa
open Go.RowKit Go.Shelf

/-- What a round reads: the span's box, the change, the read's box. -/
structure RdMem (W : World) (bb : Nat) (s : Int × Int) (bc oc : Nat) (ck : Ky) (v : Value) (B : Nat) (r : Rd) : Prop where
  s0 : W.cell? ⟨bb, 0, none⟩ = some (.int .i64 s.1)
  s1 : W.cell? ⟨bb, 1, none⟩ = some (.int .i64 s.2)
  k0 : W.cell? ⟨bc, oc, none⟩ = some (.int .i64 ck.kind)
  k1 : W.cell? ⟨bc, oc + 1, none⟩ = some (.int .i64 ck.subj)
  k2 : W.cell? ⟨bc, oc + 2, none⟩ = some (.int .i64 ck.obj)
  c3 : W.cell? ⟨bc, oc + 3, none⟩ = some v
  r0 : W.cell? ⟨B, 0, none⟩ = some (.int .i64 r.1.kind)
  r1 : W.cell? ⟨B, 1, none⟩ = some (.int .i64 r.1.subj)
  r2 : W.cell? ⟨B, 2, none⟩ = some (.int .i64 r.1.obj)
  r3 : W.cell? ⟨B, 3, none⟩ = some (.int .i64 r.2.1)
  r4 : W.cell? ⟨B, 4, none⟩ = some (.int .i64 r.2.2)
  lb : bb < W.heap.size
  lc : bc < W.heap.size
  lr : B < W.heap.size

set_option maxRecDepth 100000 in
set_option maxHeartbeats 16000000 in
theorem lRead_any (A : Option Addr) (n c : Nat) (l : List Fc) (r : Rd) (before after : Int) (w : World) (hl : fSl w w.heap.size A n c l) :
    Calls Try.prog 9 #[.slice A n c, .agg (rdEnc r).toArray, .int .i64 before, .int .i64 after] w fun e w' => e = .returned (.bool true) ∧ Below w.heap.size w w' := by
  show Calls Try.prog 9 #[.slice A n c, .agg #[.int .i64 r.1.kind, .int .i64 r.1.subj, .int .i64 r.1.obj, .int .i64 r.2.1, .int .i64 r.2.2], .int .i64 before, .int .i64 after] w _
  obtain ⟨W, hW⟩ : ∃ W, w.alloc (.cells #[.int .i64 r.1.kind, .int .i64 r.1.subj, .int .i64 r.1.obj, .int .i64 r.2.1, .int .i64 r.2.2] 54) = W := ⟨_, rfl⟩
  have hBW : Below w.heap.size w W := hW ▸ (Below.refl _ w).alloc (Nat.le_refl _) _
  have hbox : W.heap[w.heap.size]? = some (.cells #[.int .i64 r.1.kind, .int .i64 r.1.subj, .int .i64 r.1.obj, .int .i64 r.2.1, .int .i64 r.2.2] 54 (0, 0)) := hW ▸ World.alloc_heap_new _ _
  have HL : Hid (∀ W', Below W.heap.size W W' → fSl W' W'.heap.size A n c l) := fun W' h => (hl.keep fStable hBW.size hBW.block).keep fStable h.size h.block
  have HR : Hid (∀ W', Below W.heap.size W W' → W'.heap[w.heap.size]? = some (.cells #[.int .i64 r.1.kind, .int .i64 r.1.subj, .int .i64 r.1.obj, .int .i64 r.2.1, .int .i64 r.2.2] 54 (0, 0))) := fun W' h => (h.block _ (lt_of_heap hbox)).trans hbox
  have HW := hidp hW
  have HBW := hidp hBW
  have hlen := hl.2.1
  have hcap := hl.2.2.1
  clear hW hBW hbox hl
  go_enter Try.func9, Try.ntmps9
  go_wp2_with fail
  rw [HW.out]
  refine (sane07_any W).mono ?_
  rintro e w1 ⟨rfl, hb1⟩
  by_cases hn : 10 < n
  · have hd : decide (10 < n) = true := by simpa using hn
    go_wp2_with fail
    go_ret
    exact ⟨rfl, HBW.out.trans (hb1.mono HBW.out.size)⟩
  have hd : decide (10 < n) = false := by simpa using hn
  go_wp2_with fail
  refine (fChanged_any _ _ _ l before after _ (HL.out _ hb1) (by omega)).mono ?_
  rintro e w2 ⟨A2, nc, cc2, raw, rfl, r2, ok2, hb2⟩
  have hB2 := hb1.trans (hb2.mono hb1.size)
  obtain ⟨chs, hchs⟩ : ∃ chs, changedF l before after = chs := ⟨_, rfl⟩
  rw [hchs] at ok2
  have HCH := hidp hchs
  have HC : Hid (∀ W', Below w2.heap.size w2 W' → cSl W' W'.heap.size A2 nc cc2 raw ∧ ChOks W' raw chs) := fun W' h => ⟨r2.keep cStable h.size h.block, ok2.below h⟩
  have hncap := r2.2.2.1
  have hnlen := r2.2.1
  have HNC := hidp r2.1
  have HNC2 := hidp ok2.1
  have HB2 := hidp hB2
  clear hchs r2 ok2 hb2 hb1 hB2
  go_wp2_with fail
  go_loopw [10, 11] (fun hi i wr => ∃ q : Nat, q ≤ nc ∧ i = .int .i64 q ∧ hi = .bool ((chs.take q).any (touchC r)) ∧ Below w2.heap.size w2 wr) (fun _ i _ => nc - (intOf i).toNat)
  case atStart => exact ⟨0, by omega, rfl, rfl, Below.refl _ _⟩
  case round =>
    obtain ⟨q, hq, rfl, rfl, hbe⟩ := hrel
    obtain ⟨hh, hhh⟩ : ∃ b, (chs.take q).any (touchC r) = b := ⟨_, rfl⟩
    rw [hhh]
    have HH := hidp hhh
    clear hhh
    by_cases hlt : q < nc
    · obtain ⟨bc, oc, ⟨ck, cA, cn, cc⟩, rfl, hbc, hzq, -, -, -, hcs⟩ := cSl.get (HC.out _ hbe).1 hlt
      obtain ⟨⟨kk, S⟩, hch, hk1, hS⟩ := (HC.out _ hbe).2.get hzq
      simp only at hk1 hS hcs
      subst hk1
      have hqn : (q : Int) < nc := by omega
      have hscap := hS.2.2.1
      have hslen := hS.2.1
      have HZ := hidp hzq
      have HCq := hidp hch
      have HSl := hidp hS.1
      obtain ⟨w3, rfl⟩ : ∃ w3, w3 = wr := ⟨_, rfl⟩
      have HCC : Hid (∀ W', Below w3.heap.size w3 W' → bc < W'.heap.size ∧ W'.cell? ⟨bc, oc + q * 4, none⟩ = some (.int .i64 ck.kind) ∧ W'.cell? ⟨bc, oc + q * 4 + 1, none⟩ = some (.int .i64 ck.subj) ∧ W'.cell? ⟨bc, oc + q * 4 + 2, none⟩ = some (.int .i64 ck.obj) ∧ W'.cell? ⟨bc, oc + q * 4 + 3, none⟩ = some (.slice cA cn cc)) := fun W' h => by
        obtain ⟨_, _, m, e, hb', hm, z0, z1, z2, z3⟩ := cSl.get (HC.out W' (hbe.trans (h.mono hbe.size))).1 hlt
        cases e
        cases HZ.out.symm.trans hm
        exact ⟨hb', z0, z1, z2, z3⟩
      have HSS : Hid (∀ W', Below w3.heap.size w3 W' → sSl W' W'.heap.size cA cn cc S) := fun W' h => hS.keep sStable h.size h.block
      have HBE := hidp hbe
      clear hzq hch hS hcs hbe
      go_wp2_with fail
      go_loopw [10, 12] (fun hi j wr => ∃ p : Nat, p ≤ cn ∧ j = .int .i64 p ∧ hi = .bool (hh || (S.take p).any (touchS r ck)) ∧ Below w3.heap.size w3 wr) (fun _ j _ => cn - (intOf j).toNat)
      case atStart => exact ⟨0, by omega, rfl, by simp, Below.refl _ _⟩
      case round =>
        obtain ⟨p, hp, rfl, rfl, hbe⟩ := hrel
        obtain ⟨hj, hhj⟩ : ∃ b, (hh || (S.take p).any (touchS r ck)) = b := ⟨_, rfl⟩
        rw [hhj]
        have HJ := hidp hhj
        obtain ⟨lc0, z0, z1, z2, z3⟩ := HCC.out wr hbe
        clear hhj
        by_cases hltp : p < cn
        · obtain ⟨bs, os, s, rfl, hbs, hzs, t0, t1⟩ := sSl.get (HSS.out _ hbe) hltp
          have hpn : (p : Int) < cn := by omega
          have HZs := hidp hzs
          have hrb := HR.out _ (HB2.out.trans ((HBE.out.trans (hbe.mono HBE.out.size)).mono HB2.out.size))
          obtain ⟨hs0, hs1, hs2, hsd, hsp⟩ := change_ok (l := l) (b := before) (a := after) (by rw [HCH.out]; exact List.mem_of_getElem? HCq.out) hzs
          obtain ⟨wb, hwb⟩ : ∃ wb, wr.alloc (.cells #[.int .i64 s.1, .int .i64 s.2] 26) = wb := ⟨_, rfl⟩
          have hbb : Below wr.heap.size wr wb := hwb ▸ (Below.refl _ wr).alloc (Nat.le_refl _) _
          have hsb : wb.heap[wr.heap.size]? = some (.cells #[.int .i64 s.1, .int .i64 s.2] 26 (0, 0)) := hwb ▸ World.alloc_heap_new _ _
          have hB3 := hbe.trans (hbb.mono hbe.size)
          have HM : Hid (∀ W', Below wb.heap.size wb W' → RdMem W' wr.heap.size s bc (oc + q * 4) ck (.slice (some ⟨bs, os, none⟩) cn cc) w.heap.size r) := fun W' h => by
            have h1 := hbb.trans (h.mono hbb.size)
            have h2 := hbe.trans (h1.mono hbe.size)
            obtain ⟨l1, y0, y1, y2, y3⟩ := HCC.out W' h2
            have hs := (h.block _ (lt_of_heap hsb)).trans hsb
            have hr := (h1.block _ (lt_of_heap hrb)).trans hrb
            exact ⟨cell_of_heap hs, cell_of_heap hs, y0, y1, y2, y3, cell_of_heap hr, cell_of_heap hr, cell_of_heap hr, cell_of_heap hr, cell_of_heap hr, lt_of_heap hs, l1, lt_of_heap hr⟩
          have HPV0 : Hid (∀ (pv : Int × Int), 0 < p → S[p - 1]? = some pv → ∀ W', Below wb.heap.size wb W' → bs < W'.heap.size ∧ W'.cell? ⟨bs, os + (p - 1) * 2 + 1, none⟩ = some (.int .i64 pv.2)) := fun pv h0 hpv W' h => by
            obtain ⟨_, _, m, e, hb', hm, _, y1⟩ := sSl.get (HSS.out W' (hB3.trans (h.mono hB3.size))) (k := p - 1) (by omega)
            cases e
            rw [hpv] at hm
            cases hm
            exact ⟨hb', y1⟩
          have e1 : decide (s.2 ≤ s.1) = false := by simp; omega
          have e2 : decide (s.1 < 0) = false := by simp; omega
          have e3 : decide (1024 < s.2) = false := by simp; omega
          have HSP := hidp hsp
          have HSD := hidp hsd
          have HWB := hidp hwb
          have HB3 := hidp hB3
          have HLW : Hid (∀ W', Below wb.heap.size wb W' → fSl W' W'.heap.size A n c l) := fun W' h => by
            have h1 := HBE.out.trans ((hB3.trans (h.mono hB3.size)).mono HBE.out.size)
            exact HL.out W' (HB2.out.trans (h1.mono HB2.out.size))
          have hwrl : w.heap.size < wr.heap.size := lt_of_heap hrb
          clear hzs hsp hsd hwb hbb hsb hrb hs0 hs1 hs2 hB3 hbe
          have rest : True := trivial
          rcases Nat.eq_zero_or_pos p with h0 | h0
          · have hpd : decide (0 < p) = false := by simp [h0]
            clear h0
            go_wp2_with fail
            rw [HWB.out]
            clear t0 t1 z0 z1 z2 z3
            refine wp_region_S wb.heap.size 34 (fun _ => false) (Nat.le_refl _) (by kernel_rfl) (by kernel_rfl) (by kernel_rfl) ?_
            dsimp only [List.take, List.drop]
            apply relS_det (mask := [])
            · rfl
            · kernel_rfl
            · kernel_rfl
            · dsimp only [oblS]
              rintro w9 h9
              go_simp
              exact ⟨Below.refl _ _, rfl⟩
            dsimp only [List.nil_append, List.cons_append]
            apply relS_det (mask := [true]) (x := .int .i64 s.1)
            · rfl
            · kernel_rfl
            · kernel_rfl
            · dsimp only [oblS]
              rintro w9 h9
              obtain ⟨s0, s1, k0, k1, k2, c3, r0, r1, r2, r3, r4, lb, lc, lr⟩ := HM.out w9 h9
              go_simp
              exact ⟨Below.refl _ _, rfl⟩
            dsimp only [List.nil_append, List.cons_append]
            apply relS_det (mask := [false, false])
            · rfl
            · kernel_rfl
            · kernel_rfl
            · dsimp only [oblS]
              rintro w9 h9
              go_simp
              exact ⟨Below.refl _ _, rfl⟩
            dsimp only [List.nil_append, List.cons_append]
            apply relS_det (mask := [false, false, true]) (x := .int .i64 s.2)
            · rfl
            · kernel_rfl
            · kernel_rfl
            · dsimp only [oblS]
              rintro w9 h9
              obtain ⟨s0, s1, k0, k1, k2, c3, r0, r1, r2, r3, r4, lb, lc, lr⟩ := HM.out w9 h9
              go_simp
              exact ⟨Below.refl _ _, rfl⟩
            dsimp only [List.nil_append, List.cons_append]
            apply relS_det (mask := [false, true, false, true]) (x := .bool false)
            · rfl
            · kernel_rfl
            · kernel_rfl
            · dsimp only [oblS]
              rintro w9 h9
              go_simp
              exact ⟨Below.refl _ _, rfl⟩
            dsimp only [List.nil_append, List.cons_append]
            apply relS_det (mask := [false, false, false, false, true])
            · rfl
            · kernel_rfl
            · kernel_rfl
            · dsimp only [oblS]
              rintro w9 h9
              go_simp
              exact ⟨Below.refl _ _, rfl⟩
            dsimp only [List.nil_append, List.cons_append]
            apply relS_detg (mask := [false, false, false, false, false, true]) (t := 56) (want := false)
            · rfl
            · kernel_rfl
            · kernel_rfl
            · dsimp only [oblS]
              refine ⟨by rfl, ?_⟩
              rintro w9 h9
              go_simp
              exact ⟨Below.refl _ _, rfl⟩
            dsimp only [List.nil_append, List.cons_append]
            apply relS_detg (mask := [false, false, false, false, false, true, true]) (t := 56) (want := false) (x := .int .i64 s.1)
            · rfl
            · kernel_rfl
            · kernel_rfl
            · dsimp only [oblS]
              refine ⟨by rfl, ?_⟩
              rintro w9 h9
              obtain ⟨s0, s1, k0, k1, k2, c3, r0, r1, r2, r3, r4, lb, lc, lr⟩ := HM.out w9 h9
              go_simp
              exact ⟨Below.refl _ _, rfl⟩
            dsimp only [List.nil_append, List.cons_append]
            apply relS_detg (mask := [false, false, false, false, false, true, false, true]) (t := 56) (want := false) (x := .bool false)
            · rfl
            · kernel_rfl
            · kernel_rfl
            · dsimp only [oblS]
              refine ⟨by rfl, ?_⟩
              rintro w9 h9
              go_simp
              exact ⟨Below.refl _ _, rfl⟩
            dsimp only [List.nil_append, List.cons_append]
            apply relS_det (mask := [false, false, false, false, false, true, false, false, true]) (x := .bool false)
            · rfl
            · kernel_rfl
            · kernel_rfl
            · dsimp only [oblS]
              rintro w9 h9
              go_simp
              exact ⟨Below.refl _ _, rfl⟩
            dsimp only [List.nil_append, List.cons_append]
            apply relS_det (mask := [false, false, false, false, false, false, false, false, false, true])
            · rfl
            · kernel_rfl
            · kernel_rfl
            · dsimp only [oblS]
              rintro w9 h9
              go_simp
              exact ⟨Below.refl _ _, rfl⟩
            dsimp only [List.nil_append, List.cons_append]
            apply relS_detg (mask := [false, false, false, false, false, false, false, false, false, false, true]) (t := 61) (want := false)
            · rfl
            · kernel_rfl
            · kernel_rfl
            · dsimp only [oblS]
              refine ⟨by rfl, ?_⟩
              rintro w9 h9
              go_simp
              exact ⟨Below.refl _ _, rfl⟩
            dsimp only [List.nil_append, List.cons_append]
            apply relS_detg (mask := [false, false, false, false, false, false, false, false, false, false, true, true]) (t := 61) (want := false) (x := .int .i64 s.2)
            · rfl
            · kernel_rfl
            · kernel_rfl
            · dsimp only [oblS]
              refine ⟨by rfl, ?_⟩
              rintro w9 h9
              obtain ⟨s0, s1, k0, k1, k2, c3, r0, r1, r2, r3, r4, lb, lc, lr⟩ := HM.out w9 h9
              go_simp
              exact ⟨Below.refl _ _, rfl⟩
            dsimp only [List.nil_append, List.cons_append]
            apply relS_detg (mask := [false, false, false, false, false, false, false, false, false, false, true, false, true]) (t := 61) (want := false) (x := .bool false)
            · rfl
            · kernel_rfl
            · kernel_rfl
            · dsimp only [oblS]
              refine ⟨by rfl, ?_⟩
              rintro w9 h9
              go_simp
              exact ⟨Below.refl _ _, rfl⟩
            dsimp only [List.nil_append, List.cons_append]
            apply relS_det (mask := [false, false, false, false, false, false, false, false, false, false, true, false, false, true]) (x := .bool false)
            · rfl
            · kernel_rfl
            · kernel_rfl
            · dsimp only [oblS]
              rintro w9 h9
              go_simp
              exact ⟨Below.refl _ _, rfl⟩
            dsimp only [List.nil_append, List.cons_append]
            apply relS_det (mask := [false, false, false, false, false, false, false, false, false, false, false, false, false, false, true])
            · rfl
            · kernel_rfl
            · kernel_rfl
            · dsimp only [oblS]
              rintro w9 h9
              go_simp
              exact ⟨Below.refl _ _, rfl⟩
            dsimp only [List.nil_append, List.cons_append]
            apply relS_detg (mask := [false, false, false, false, false, false, false, false, false, false, false, false, false, false, false, true]) (t := 66) (want := false)
            · rfl
            · kernel_rfl
            · kernel_rfl
            · dsimp only [oblS]
              refine ⟨by rfl, ?_⟩
              rintro w9 h9
              go_simp
              exact ⟨Below.refl _ _, rfl⟩
            dsimp only [List.nil_append, List.cons_append]
            apply relS_detg (mask := [false, false, false, false, false, false, false, false, false, false, false, false, false, false, false, true, true]) (t := 66) (want := false) (x := .bool false)
            · rfl
            · kernel_rfl
            · kernel_rfl
            · dsimp only [oblS]
              refine ⟨by rfl, ?_⟩
              rintro w9 h9
              go_simp
              exact ⟨Below.refl _ _, rfl⟩
            dsimp only [List.nil_append, List.cons_append]
            apply relS_detg (mask := [false, false, false, false, false, false, false, false, false, false, false, false, false, false, false, true, false, true]) (t := 66) (want := false)
            · rfl
            · kernel_rfl
            · kernel_rfl
            · dsimp only [oblS]
              refine ⟨by rfl, ?_⟩
              rintro w9 h9
              go_simp
              exact ⟨Below.refl _ _, rfl⟩
            dsimp only [List.nil_append, List.cons_append]
            apply relS_not (mask := [false, false, false, false, false, false, false, false, false, false, false, false, false, false, false, false, false, false, true]) (t := 69) (want := true) (hf := by rfl) (hg := by kernel_rfl) (hm := by kernel_rfl)
            · rfl
            dsimp only [List.nil_append, List.cons_append]
            apply relS_not (mask := [false, false, false, false, false, false, false, false, false, false, false, false, false, false, false, false, false, false, true, false]) (t := 69) (want := true) (hf := by rfl) (hg := by kernel_rfl) (hm := by kernel_rfl)
            · rfl
            dsimp only [List.nil_append, List.cons_append]
            apply relS_not (mask := [false, false, false, false, false, false, false, false, false, false, false, false, false, false, false, false, false, false, true, true, true]) (t := 69) (want := true) (hf := by rfl) (hg := by kernel_rfl) (hm := by kernel_rfl)
            · rfl
            dsimp only [List.nil_append, List.cons_append]
            apply relS_not (mask := [false, false, false, false, false, false, false, false, false, false, false, false, false, false, false, false, false, false, true, false, false, true]) (t := 69) (want := true) (hf := by rfl) (hg := by kernel_rfl) (hm := by kernel_rfl)
            · rfl
            dsimp only [List.nil_append, List.cons_append]
            apply relS_not (mask := [false, false, false, false, false, false, false, false, false, false, false, false, false, false, false, false, false, false, true, false, false, false, true]) (t := 69) (want := true) (hf := by rfl) (hg := by kernel_rfl) (hm := by kernel_rfl)
            · rfl
            dsimp only [List.nil_append, List.cons_append]
            apply relS_not (mask := [false, false, false, false, false, false, false, false, false, false, false, false, false, false, false, false, false, false, true, false, false, false, false, false]) (t := 69) (want := true) (hf := by rfl) (hg := by kernel_rfl) (hm := by kernel_rfl)
            · rfl
            dsimp only [List.nil_append, List.cons_append]
            apply relS_not (mask := [false, false, false, false, false, false, false, false, false, false, false, false, false, false, false, false, false, false, true, false, false, false, false, false, true]) (t := 69) (want := true) (hf := by rfl) (hg := by kernel_rfl) (hm := by kernel_rfl)
            · rfl
            dsimp only [List.nil_append, List.cons_append]
            apply relS_not (mask := [false, false, false, false, false, false, false, false, false, false, false, false, false, false, false, false, false, false, true, false, false, false, false, true, false, true]) (t := 69) (want := true) (hf := by rfl) (hg := by kernel_rfl) (hm := by kernel_rfl)
            · rfl
            dsimp only [List.nil_append, List.cons_append]
            apply relS_not (mask := [false, false, false, false, false, false, false, false, false, false, false, false, false, false, false, false, false, false, true, false, false, false, false, false, false, false, true]) (t := 69) (want := true) (hf := by rfl) (hg := by kernel_rfl) (hm := by kernel_rfl)
            · rfl
            dsimp only [List.nil_append, List.cons_append]
            apply relS_not (mask := [false, false, false, false, false, false, false, false, false, false, false, false, false, false, false, false, false, false, true, false, false, false, false, false, false, false, false, true]) (t := 69) (want := true) (hf := by rfl) (hg := by kernel_rfl) (hm := by kernel_rfl)
            · rfl
            dsimp only [List.nil_append, List.cons_append]
            apply relS_not (mask := [false, false, false, false, false, false, false, false, false, false, false, false, false, false, false, false, false, false, true, false, false, false, false, false, false, false, false, false, false]) (t := 69) (want := true) (hf := by rfl) (hg := by kernel_rfl) (hm := by kernel_rfl)
            · rfl
            dsimp only [List.nil_append, List.cons_append]
            apply relS_not (mask := [false, false, false, false, false, false, false, false, false, false, false, false, false, false, false, false, false, false, true, false, false, false, false, false, false, false, false, false, false, true]) (t := 69) (want := true) (hf := by rfl) (hg := by kernel_rfl) (hm := by kernel_rfl)
            · rfl
            dsimp only [List.nil_append, List.cons_append]
            apply relS_not (mask := [false, false, false, false, false, false, false, false, false, false, false, false, false, false, false, false, false, false, true, false, false, false, false, false, false, false, false, false, true, false, true]) (t := 69) (want := true) (hf := by rfl) (hg := by kernel_rfl) (hm := by kernel_rfl)
            · rfl
            dsimp only [List.nil_append, List.cons_append]
            apply relS_detg (mask := [false, false, false, false, false, false, false, false, false, false, false, false, false, false, false, true, false, false, true, false, false, false, false, false, false, false, false, false, false, false, false, true]) (t := 66) (want := false) (x := .bool false)
            · rfl
            · kernel_rfl
            · kernel_rfl
            · dsimp only [oblS]
              refine ⟨by rfl, ?_⟩
              rintro w9 h9
              go_simp
              exact ⟨Below.refl _ _, rfl⟩
            dsimp only [List.nil_append, List.cons_append]
            apply relS_det (mask := [false, false, false, false, false, false, false, false, false, false, false, false, false, false, false, true, false, false, false, false, false, false, false, false, false, false, false, false, false, false, false, false, true]) (x := .bool false)
            · rfl
            · kernel_rfl
            · kernel_rfl
            · dsimp only [oblS]
              rintro w9 h9
              go_simp
              exact ⟨Below.refl _ _, rfl⟩
            dsimp only [List.nil_append, List.cons_append]
            refine relS_end (by rfl) ?_
            dsimp only [finS]
            -- rintro  w8 hb
            intro w5 hb5
            go_frame
            have HB5 := hidp hb5
            have HM5 : Hid (∀ W', Below w5.heap.size w5 W' → RdMem W' wr.heap.size s bc (oc + q * 4) ck (.slice (some ⟨bs, os, none⟩) cn cc) w.heap.size r) := fun W' h => HM.out W' (HB5.out.trans (h.mono HB5.out.size))
            obtain ⟨V1, hV1⟩ : ∃ V, (atF l ck s.1 before).getD 0 = V := ⟨_, rfl⟩
            obtain ⟨S1, hS1⟩ : ∃ V, (atF l ck s.1 before).isSome = V := ⟨_, rfl⟩
            obtain ⟨V2, hV2⟩ : ∃ V, (atF l ck s.1 after).getD 0 = V := ⟨_, rfl⟩
            obtain ⟨S2, hS2⟩ : ∃ V, (atF l ck s.1 after).isSome = V := ⟨_, rfl⟩
            have HV1 := hidp hV1
            have HS1 := hidp hS1
            have HV2 := hidp hV2
            have HS2 := hidp hS2
            have HNE : Hid (S1 = S2 → V1 ≠ V2) := by
              intro h1 h2
              apply HSD.out
              rw [← hS1, ← hS2] at h1
              rw [← hV1, ← hV2] at h2
              cases h3 : atF l ck s.1 before <;> cases h4 : atF l ck s.1 after <;> rw [h3, h4] at h1 h2 <;> simp at h1 h2 ⊢
              exact h2
            have hm5 := HM5.out w5 (Below.refl _ _)
            have hwl5 := hm5.lc
            have hwb5 := hm5.lb
            clear hb5 hV1 hS1 hV2 hS2 hm5
            go_wp2_with fail
            refine wp_region_S w5.heap.size 15 (fun _ => false) (Nat.le_refl _) (by kernel_rfl) (by kernel_rfl) (by kernel_rfl) ?_
            dsimp only [List.take, List.drop]
            apply relS_det (mask := [])
            · rfl
            · kernel_rfl
            · kernel_rfl
            · dsimp only [oblS]
              rintro w9 h9
              go_simp
              exact ⟨Below.refl _ _, rfl⟩
            dsimp only [List.nil_append, List.cons_append]
            apply relS_det (mask := [false])
            · rfl
            · kernel_rfl
            · kernel_rfl
            · dsimp only [oblS]
              rintro w9 h9
              go_simp
              exact ⟨Below.refl _ _, rfl⟩
            dsimp only [List.nil_append, List.cons_append]
            apply relS_det (mask := [false, false])
            · rfl
            · kernel_rfl
            · kernel_rfl
            · dsimp only [oblS]
              rintro w9 h9
              go_simp
              exact ⟨Below.refl _ _, rfl⟩
            dsimp only [List.nil_append, List.cons_append]
            apply relS_det (mask := [false, true, true])
            · rfl
            · kernel_rfl
            · kernel_rfl
            · dsimp only [oblS]
              rintro w9 h9
              go_simp
              exact ⟨Below.refl _ _, rfl⟩
            dsimp only [List.nil_append, List.cons_append]
            apply relS_det (mask := [false, false, false, true])
            · rfl
            · kernel_rfl
            · kernel_rfl
            · dsimp only [oblS]
              rintro w9 h9
              go_simp
              exact ⟨Below.refl _ _, rfl⟩
            dsimp only [List.nil_append, List.cons_append]
            apply relS_det (mask := [false, false, false, false, true]) (x := .agg #[.int .i64 ck.kind, .int .i64 ck.subj, .int .i64 ck.obj])
            · rfl
            · kernel_rfl
            · kernel_rfl
            · dsimp only [oblS]
              rintro w9 h9
              obtain ⟨s0, s1, k0, k1, k2, c3, r0, r1, r2, r3, r4, lb, lc, lr⟩ := HM5.out w9 h9
              go_simp
              exact ⟨Below.refl _ _, rfl⟩
            dsimp only [List.nil_append, List.cons_append]
            apply relS_det (mask := [false, false, false, false, false, false])
            · rfl
            · kernel_rfl
            · kernel_rfl
            · dsimp only [oblS]
              rintro w9 h9
              go_simp
              exact ⟨Below.refl _ _, rfl⟩
            dsimp only [List.nil_append, List.cons_append]
            apply relS_det (mask := [false, false, false, false, false, false, true]) (x := .int .i64 s.1)
            · rfl
            · kernel_rfl
            · kernel_rfl
            · dsimp only [oblS]
              rintro w9 h9
              obtain ⟨s0, s1, k0, k1, k2, c3, r0, r1, r2, r3, r4, lb, lc, lr⟩ := HM5.out w9 h9
              go_simp
              exact ⟨Below.refl _ _, rfl⟩
            dsimp only [List.nil_append, List.cons_append]
            apply relS_det (mask := [false, false, false, false, false, false, false, false])
            · rfl
            · kernel_rfl
            · kernel_rfl
            · dsimp only [oblS]
              rintro w9 h9
              go_simp
              exact ⟨Below.refl _ _, rfl⟩
            dsimp only [List.nil_append, List.cons_append]
            apply relS_det (mask := [true, false, false, false, false, true, false, true, true]) (x := .tuple #[.int .i64 V1, .bool S1])
            · rfl
            · kernel_rfl
            · kernel_rfl
            · dsimp only [oblS]
              rintro w9 h9
              go_simp
              refine (fAt_any _ _ _ l ck s.1 before _ (HLW.out w9 (HB5.out.trans (h9.mono HB5.out.size)))).mono ?_
              rintro e w7 ⟨rfl, hb7⟩
              exact ⟨_, rfl, hb7, by rw [HV1.out, HS1.out]; rfl⟩
            dsimp only [List.nil_append, List.cons_append]
            apply relS_det (mask := [false, false, false, false, false, false, false, false, false, true])
            · rfl
            · kernel_rfl
            · kernel_rfl
            · dsimp only [oblS]
              rintro w9 h9
              go_simp
              exact ⟨Below.refl _ _, rfl⟩
            dsimp only [List.nil_append, List.cons_append]
            apply relS_det (mask := [false, false, false, false, false, false, false, false, false, false, true])
            · rfl
            · kernel_rfl
            · kernel_rfl
            · dsimp only [oblS]
              rintro w9 h9
              go_simp
              exact ⟨Below.refl _ _, rfl⟩
            dsimp only [List.nil_append, List.cons_append]
            apply relS_det (mask := [false, false, false, false, false, false, false, false, false, false, true, false])
            · rfl
            · kernel_rfl
            · kernel_rfl
            · dsimp only [oblS]
              rintro w9 h9
              go_simp
              exact ⟨Below.refl _ _, rfl⟩
            dsimp only [List.nil_append, List.cons_append]
            apply relS_det (mask := [false, false, false, false, false, false, false, false, false, false, false, true, false])
            · rfl
            · kernel_rfl
            · kernel_rfl
            · dsimp only [oblS]
              rintro w9 h9
              go_simp
              exact ⟨Below.refl _ _, rfl⟩
            dsimp only [List.nil_append, List.cons_append]
            apply relS_det (mask := [false, false, false, false, false, false, false, false, false, false, false, false, true, false])
            · rfl
            · kernel_rfl
            · kernel_rfl
            · dsimp only [oblS]
              rintro w9 h9
              go_simp
              exact ⟨Below.refl _ _, rfl⟩
            dsimp only [List.nil_append, List.cons_append]
            refine relS_end (by rfl) ?_
            dsimp only [finS]
            -- rintro  w8 hb
            intro w6 hb6
            go_frame
            have HB6 := hidp (HB5.out.trans (hb6.mono HB5.out.size))
            have HM6 : Hid (∀ W', Below w6.heap.size w6 W' → RdMem W' wr.heap.size s bc (oc + q * 4) ck (.slice (some ⟨bs, os, none⟩) cn cc) w.heap.size r) := fun W' h => HM.out W' (HB6.out.trans (h.mono HB6.out.size))
            have hm6 := HM6.out w6 (Below.refl _ _)
            have hwl6 := hm6.lc
            have hwb6 := hm6.lb
            clear hb6 hm6
            go_wp2_with fail
            refine wp_region_S w6.heap.size 15 (fun _ => false) (Nat.le_refl _) (by kernel_rfl) (by kernel_rfl) (by kernel_rfl) ?_
            dsimp only [List.take, List.drop]
            apply relS_det (mask := [])
            · rfl
            · kernel_rfl
            · kernel_rfl
            · dsimp only [oblS]
              rintro w9 h9
              go_simp
              exact ⟨Below.refl _ _, rfl⟩
            dsimp only [List.nil_append, List.cons_append]
            apply relS_det (mask := [false])
            · rfl
            · kernel_rfl
            · kernel_rfl
            · dsimp only [oblS]
              rintro w9 h9
              go_simp
              exact ⟨Below.refl _ _, rfl⟩
            dsimp only [List.nil_append, List.cons_append]
            apply relS_det (mask := [false, false])
            · rfl
            · kernel_rfl
            · kernel_rfl
            · dsimp only [oblS]
              rintro w9 h9
              go_simp
              exact ⟨Below.refl _ _, rfl⟩
            dsimp only [List.nil_append, List.cons_append]
            apply relS_det (mask := [false, true, true])
            · rfl
            · kernel_rfl
            · kernel_rfl
            · dsimp only [oblS]
              rintro w9 h9
              go_simp
              exact ⟨Below.refl _ _, rfl⟩
            dsimp only [List.nil_append, List.cons_append]
            apply relS_det (mask := [false, false, false, true])
            · rfl
            · kernel_rfl
            · kernel_rfl
            · dsimp only [oblS]
              rintro w9 h9
              go_simp
              exact ⟨Below.refl _ _, rfl⟩
            dsimp only [List.nil_append, List.cons_append]
            apply relS_det (mask := [false, false, false, false, true]) (x := .agg #[.int .i64 ck.kind, .int .i64 ck.subj, .int .i64 ck.obj])
            · rfl
            · kernel_rfl
            · kernel_rfl
            · dsimp only [oblS]
              rintro w9 h9
              obtain ⟨s0, s1, k0, k1, k2, c3, r0, r1, r2, r3, r4, lb, lc, lr⟩ := HM6.out w9 h9
              go_simp
              exact ⟨Below.refl _ _, rfl⟩
            dsimp only [List.nil_append, List.cons_append]
            apply relS_det (mask := [false, false, false, false, false, false])
            · rfl
            · kernel_rfl
            · kernel_rfl
            · dsimp only [oblS]
              rintro w9 h9
              go_simp
              exact ⟨Below.refl _ _, rfl⟩
            dsimp only [List.nil_append, List.cons_append]
            apply relS_det (mask := [false, false, false, false, false, false, true]) (x := .int .i64 s.1)
            · rfl
            · kernel_rfl
            · kernel_rfl
            · dsimp only [oblS]
              rintro w9 h9
              obtain ⟨s0, s1, k0, k1, k2, c3, r0, r1, r2, r3, r4, lb, lc, lr⟩ := HM6.out w9 h9
              go_simp
              exact ⟨Below.refl _ _, rfl⟩
            dsimp only [List.nil_append, List.cons_append]
            apply relS_det (mask := [false, false, false, false, false, false, false, false])
            · rfl
            · kernel_rfl
            · kernel_rfl
            · dsimp only [oblS]
              rintro w9 h9
              go_simp
              exact ⟨Below.refl _ _, rfl⟩
            dsimp only [List.nil_append, List.cons_append]
            apply relS_det (mask := [true, false, false, false, false, true, false, true, true]) (x := .tuple #[.int .i64 V2, .bool S2])
            · rfl
            · kernel_rfl
            · kernel_rfl
            · dsimp only [oblS]
              rintro w9 h9
              go_simp
              refine (fAt_any _ _ _ l ck s.1 after _ (HLW.out w9 (HB6.out.trans (h9.mono HB6.out.size)))).mono ?_
              rintro e w7 ⟨rfl, hb7⟩
              exact ⟨_, rfl, hb7, by rw [HV2.out, HS2.out]; rfl⟩
            dsimp only [List.nil_append, List.cons_append]
            apply relS_det (mask := [false, false, false, false, false, false, false, false, false, true])
            · rfl
            · kernel_rfl
            · kernel_rfl
            · dsimp only [oblS]
              rintro w9 h9
              go_simp
              exact ⟨Below.refl _ _, rfl⟩
            dsimp only [List.nil_append, List.cons_append]
            apply relS_det (mask := [false, false, false, false, false, false, false, false, false, false, true])
            · rfl
            · kernel_rfl
            · kernel_rfl
            · dsimp only [oblS]
              rintro w9 h9
              go_simp
              exact ⟨Below.refl _ _, rfl⟩
            dsimp only [List.nil_append, List.cons_append]
            apply relS_det (mask := [false, false, false, false, false, false, false, false, false, false, true, false])
            · rfl
            · kernel_rfl
            · kernel_rfl
            · dsimp only [oblS]
              rintro w9 h9
              go_simp
              exact ⟨Below.refl _ _, rfl⟩
            dsimp only [List.nil_append, List.cons_append]
            apply relS_det (mask := [false, false, false, false, false, false, false, false, false, false, false, true, false])
            · rfl
            · kernel_rfl
            · kernel_rfl
            · dsimp only [oblS]
              rintro w9 h9
              go_simp
              exact ⟨Below.refl _ _, rfl⟩
            dsimp only [List.nil_append, List.cons_append]
            apply relS_det (mask := [false, false, false, false, false, false, false, false, false, false, false, false, true, false])
            · rfl
            · kernel_rfl
            · kernel_rfl
            · dsimp only [oblS]
              rintro w9 h9
              go_simp
              exact ⟨Below.refl _ _, rfl⟩
            dsimp only [List.nil_append, List.cons_append]
            refine relS_end (by rfl) ?_
            dsimp only [finS]
            -- rintro  w8 hb
            intro w7 hb7
            go_frame
            have HB7 := hidp (HB6.out.trans (hb7.mono HB6.out.size))
            have HM7 : Hid (∀ W', Below w7.heap.size w7 W' → RdMem W' wr.heap.size s bc (oc + q * 4) ck (.slice (some ⟨bs, os, none⟩) cn cc) w.heap.size r) := fun W' h => HM.out W' (HB7.out.trans (h.mono HB7.out.size))
            have hm7 := HM7.out w7 (Below.refl _ _)
            have hwl7 := hm7.lc
            have hwb7 := hm7.lb
            have hwr7 := hm7.lr
            obtain ⟨eS, heS⟩ : ∃ b, (S1 == S2) = b := ⟨_, rfl⟩
            obtain ⟨eV, heV⟩ : ∃ b, (V1 == V2) = b := ⟨_, rfl⟩
            have hcase : (eS = false ∧ eV = eV) ∨ (eS = true ∧ eV = false) := by
              cases hes : eS with
              | false => exact .inl ⟨rfl, rfl⟩
              | true =>
                refine .inr ⟨rfl, ?_⟩
                rw [hes] at heS
                have := HNE.out (by simpa using heS)
                rw [← heV]
                simpa using this
            obtain ⟨kb, hkb⟩ : ∃ b, decide (ck = r.1) = b := ⟨_, rfl⟩
            have hqk := fun W => k_eql ck r.1 W
            rw [hkb] at hqk
            have HKB := hidp hkb
            clear hb7 hm7 hkb
            obtain ⟨mx, hmx⟩ : ∃ m, max r.2.1 s.1 = m := ⟨_, rfl⟩
            obtain ⟨mn, hmn⟩ : ∃ m, min r.2.2 s.2 = m := ⟨_, rfl⟩
            obtain ⟨lb0, hlb0⟩ : ∃ b, decide (mx < mn) = b := ⟨_, rfl⟩
            have HT : Hid ((hh || (S.take (p + 1)).any (touchS r ck)) = (hj || (kb && lb0))) := by
              show _ = _
              rw [take_snoc HZs.out, List.any_append, ← Bool.or_assoc, HJ.out]
              simp only [List.any_cons, List.any_nil, Bool.or_false, touchS]
              rw [HKB.out, hmx, hmn, hlb0]
            have HMX := hidp hmx
            have HMN := hidp hmn
            clear hmx hmn
            rcases hcase with ⟨hcs, hcs2⟩ | ⟨hcs, hcs2⟩
            all_goals
              subst hcs
              try subst hcs2
              try clear hcs2
              go_wp2_with fail
              refine wp_region_S w7.heap.size 21 (fun _ => false) (Nat.le_refl _) (by kernel_rfl) (by kernel_rfl) (by kernel_rfl) ?_
              dsimp only [List.take, List.drop]
              apply relS_det (mask := [])
              · rfl
              · kernel_rfl
              · kernel_rfl
              · dsimp only [oblS]
                rintro w9 h9
                go_simp
                exact ⟨Below.refl _ _, rfl⟩
              dsimp only [List.nil_append, List.cons_append]
              apply relS_det (mask := [false])
              · rfl
              · kernel_rfl
              · kernel_rfl
              · dsimp only [oblS]
                rintro w9 h9
                go_simp
                exact ⟨Below.refl _ _, rfl⟩
              dsimp only [List.nil_append, List.cons_append]
              apply relS_det (mask := [true, true])
              · rfl
              · kernel_rfl
              · kernel_rfl
              · dsimp only [oblS]
                rintro w9 h9
                go_simp
                exact ⟨Below.refl _ _, rfl⟩
              dsimp only [List.nil_append, List.cons_append]
              apply relS_det (mask := [false, false, true])
              · rfl
              · kernel_rfl
              · kernel_rfl
              · dsimp only [oblS]
                rintro w9 h9
                go_simp
                exact ⟨Below.refl _ _, rfl⟩
              dsimp only [List.nil_append, List.cons_append]
              apply relS_det (mask := [false, false, false, true]) (x := .agg #[.int .i64 ck.kind, .int .i64 ck.subj, .int .i64 ck.obj])
              · rfl
              · kernel_rfl
              · kernel_rfl
              · dsimp only [oblS]
                rintro w9 h9
                obtain ⟨s0, s1, k0, k1, k2, c3, r0, r1, r2, r3, r4, lb, lc, lr⟩ := HM7.out w9 h9
                go_simp
                exact ⟨Below.refl _ _, rfl⟩
              dsimp only [List.nil_append, List.cons_append]
              apply relS_det (mask := [false, false, false, false, false])
              · rfl
              · kernel_rfl
              · kernel_rfl
              · dsimp only [oblS]
                rintro w9 h9
                go_simp
                exact ⟨Below.refl _ _, rfl⟩
              dsimp only [List.nil_append, List.cons_append]
              apply relS_det (mask := [false, false, false, false, false, true]) (x := .agg #[.int .i64 r.1.kind, .int .i64 r.1.subj, .int .i64 r.1.obj])
              · rfl
              · kernel_rfl
              · kernel_rfl
              · dsimp only [oblS]
                rintro w9 h9
                obtain ⟨s0, s1, k0, k1, k2, c3, r0, r1, r2, r3, r4, lb, lc, lr⟩ := HM7.out w9 h9
                go_simp
                exact ⟨Below.refl _ _, rfl⟩
              dsimp only [List.nil_append, List.cons_append]
              apply relS_det (mask := [false, false, false, false, true, false, true]) (x := .bool kb)
              · rfl
              · kernel_rfl
              · kernel_rfl
              · dsimp only [oblS]
                rintro w9 h9
                go_simp
                exact ⟨Below.refl _ _, rfl⟩
              dsimp only [List.nil_append, List.cons_append]
              apply relS_det (mask := [false, false, false, false, false, false, false, true]) (x := .bool kb)
              · rfl
              · kernel_rfl
              · kernel_rfl
              · dsimp only [oblS]
                rintro w9 h9
                go_simp
                exact ⟨Below.refl _ _, rfl⟩
              dsimp only [List.nil_append, List.cons_append]
              apply relS_if (mask := [false, false, false, false, false, false, false, false, true]) (t := 127) (want := true) (g := kb)
              · rfl
              · kernel_rfl
              · kernel_rfl
              · dsimp only [oblS]
                refine ⟨⟨.bool kb, by rfl, (guard_free (by simp)).1, (guard_free (by simp)).2⟩, ?_⟩
                intro hg
                rintro w9 h9
                go_simp
                exact ⟨Below.refl _ _, rfl⟩
              dsimp only [List.nil_append, List.cons_append]
              apply relS_if (mask := [false, false, false, false, false, false, false, false, true, true]) (t := 127) (want := true) (g := kb) (x := .int .i64 r.2.1)
              · rfl
              · kernel_rfl
              · kernel_rfl
              · dsimp only [oblS]
                refine ⟨⟨.bool kb, by rfl, (guard_free (by simp)).1, (guard_free (by simp)).2⟩, ?_⟩
                intro hg
                rintro w9 h9
                obtain ⟨s0, s1, k0, k1, k2, c3, r0, r1, r2, r3, r4, lb, lc, lr⟩ := HM7.out w9 h9
                go_simp
                exact ⟨Below.refl _ _, rfl⟩
              dsimp only [List.nil_append, List.cons_append]
              apply relS_if (mask := [false, false, false, false, false, false, false, false, true, false, false]) (t := 127) (want := true) (g := kb)
              · rfl
              · kernel_rfl
              · kernel_rfl
              · dsimp only [oblS]
                refine ⟨⟨.bool kb, by rfl, (guard_free (by simp)).1, (guard_free (by simp)).2⟩, ?_⟩
                intro hg
                rintro w9 h9
                go_simp
                exact ⟨Below.refl _ _, rfl⟩
              dsimp only [List.nil_append, List.cons_append]
              apply relS_if (mask := [false, false, false, false, false, false, false, false, true, false, false, true]) (t := 127) (want := true) (g := kb) (x := .int .i64 s.1)
              · rfl
              · kernel_rfl
              · kernel_rfl
              · dsimp only [oblS]
                refine ⟨⟨.bool kb, by rfl, (guard_free (by simp)).1, (guard_free (by simp)).2⟩, ?_⟩
                intro hg
                rintro w9 h9
                obtain ⟨s0, s1, k0, k1, k2, c3, r0, r1, r2, r3, r4, lb, lc, lr⟩ := HM7.out w9 h9
                go_simp
                exact ⟨Below.refl _ _, rfl⟩
              dsimp only [List.nil_append, List.cons_append]
              apply relS_if (mask := [false, false, false, false, false, false, false, false, true, false, true, false, true]) (t := 127) (want := true) (g := kb) (x := .int .i64 mx)
              · rfl
              · kernel_rfl
              · kernel_rfl
              · dsimp only [oblS]
                refine ⟨⟨.bool kb, by rfl, (guard_free (by simp)).1, (guard_free (by simp)).2⟩, ?_⟩
                intro hg
                rintro w9 h9
                go_simp
                exact ⟨Below.refl _ _, by show _ = _; rw [HMX.out]⟩
              dsimp only [List.nil_append, List.cons_append]
              apply relS_if (mask := [false, false, false, false, false, false, false, false, true, false, false, false, false, false]) (t := 127) (want := true) (g := kb)
              · rfl
              · kernel_rfl
              · kernel_rfl
              · dsimp only [oblS]
                refine ⟨⟨.bool kb, by rfl, (guard_free (by simp)).1, (guard_free (by simp)).2⟩, ?_⟩
                intro hg
                rintro w9 h9
                go_simp
                exact ⟨Below.refl _ _, rfl⟩
              dsimp only [List.nil_append, List.cons_append]
              apply relS_if (mask := [false, false, false, false, false, false, false, false, true, false, false, false, false, false, true]) (t := 127) (want := true) (g := kb) (x := .int .i64 r.2.2)
              · rfl
              · kernel_rfl
              · kernel_rfl
              · dsimp only [oblS]
                refine ⟨⟨.bool kb, by rfl, (guard_free (by simp)).1, (guard_free (by simp)).2⟩, ?_⟩
                intro hg
                rintro w9 h9
                obtain ⟨s0, s1, k0, k1, k2, c3, r0, r1, r2, r3, r4, lb, lc, lr⟩ := HM7.out w9 h9
                go_simp
                exact ⟨Below.refl _ _, rfl⟩
              dsimp only [List.nil_append, List.cons_append]
              apply relS_if (mask := [false, false, false, false, false, false, false, false, true, false, false, false, false, false, false, false]) (t := 127) (want := true) (g := kb)
              · rfl
              · kernel_rfl
              · kernel_rfl
              · dsimp only [oblS]
                refine ⟨⟨.bool kb, by rfl, (guard_free (by simp)).1, (guard_free (by simp)).2⟩, ?_⟩
                intro hg
                rintro w9 h9
                go_simp
                exact ⟨Below.refl _ _, rfl⟩
              dsimp only [List.nil_append, List.cons_append]
              apply relS_if (mask := [false, false, false, false, false, false, false, false, true, false, false, false, false, false, false, false, true]) (t := 127) (want := true) (g := kb) (x := .int .i64 s.2)
              · rfl
              · kernel_rfl
              · kernel_rfl
              · dsimp only [oblS]
                refine ⟨⟨.bool kb, by rfl, (guard_free (by simp)).1, (guard_free (by simp)).2⟩, ?_⟩
                intro hg
                rintro w9 h9
                obtain ⟨s0, s1, k0, k1, k2, c3, r0, r1, r2, r3, r4, lb, lc, lr⟩ := HM7.out w9 h9
                go_simp
                exact ⟨Below.refl _ _, rfl⟩
              dsimp only [List.nil_append, List.cons_append]
              apply relS_if (mask := [false, false, false, false, false, false, false, false, true, false, false, false, false, false, false, true, false, true]) (t := 127) (want := true) (g := kb) (x := .int .i64 mn)
              · rfl
              · kernel_rfl
              · kernel_rfl
              · dsimp only [oblS]
                refine ⟨⟨.bool kb, by rfl, (guard_free (by simp)).1, (guard_free (by simp)).2⟩, ?_⟩
                intro hg
                rintro w9 h9
                go_simp
                exact ⟨Below.refl _ _, by show _ = _; rw [HMN.out]⟩
              dsimp only [List.nil_append, List.cons_append]
              apply relS_if (mask := [false, false, false, false, false, false, false, false, true, false, false, false, false, true, false, false, false, false, true]) (t := 127) (want := true) (g := kb) (x := .bool lb0)
              · rfl
              · kernel_rfl
              · kernel_rfl
              · dsimp only [oblS]
                refine ⟨⟨.bool kb, by rfl, (guard_free (by simp)).1, (guard_free (by simp)).2⟩, ?_⟩
                intro hg
                rintro w9 h9
                go_simp
                exact ⟨Below.refl _ _, rfl⟩
              dsimp only [List.nil_append, List.cons_append]
              apply relS_det (mask := [false, false, false, false, false, false, false, false, true, false, false, false, false, false, false, false, false, false, false, true]) (x := .bool (kb && lb0))
              · rfl
              · kernel_rfl
              · kernel_rfl
              · dsimp only [oblS]
                rintro w9 h9
                cases kb
                · go_simp
                  exact ⟨Below.refl _ _, by simp [IsV]⟩
                · go_simp
                  exact ⟨Below.refl _ _, by simp [IsV]⟩
              dsimp only [List.nil_append, List.cons_append]
              refine relS_endK [false, false, false, false, false, false, false, false, false, false, false, false, false, false, false, false, false, false, false, false, true] (by rfl) (by rfl) ?_
              dsimp only [finK]
              intro q0 q1 q2 q3 q4 q5 q6 q7 q8 q9 q10 q11 q12 q13 q14 q15 q16 q17 q18 q19
              -- rintro  w8 hb
              intro w8 hb8
              go_frame
              have hB8 := HB3.out.trans ((HB7.out.trans (hb8.mono HB7.out.size)).mono HB3.out.size)
              obtain ⟨tt, htt⟩ : ∃ b, (kb && lb0) = b := ⟨_, rfl⟩
              rw [htt]
              rw [htt] at HT
              cases tt
              · go_wp2_with fail
                go_roundw
                case rel => exact ⟨p + 1, by omega, by go_num, by rw [HT.out]; simp, hB8⟩
                case measure => simp [intOf]; omega
              · go_wp2_with fail
                go_roundw
                case rel => exact ⟨p + 1, by omega, by go_num, by rw [HT.out]; simp, hB8⟩
                case measure => simp [intOf]; omega
          · have hpd : decide (0 < p) = true := by simpa using h0
            obtain ⟨pv, hpv⟩ : ∃ pv, S[p - 1]? = some pv := ⟨_, List.getElem?_eq_getElem (by rw [← HSl.out]; omega)⟩
            have HPV := hidp (HPV0.out pv h0 hpv)
            have e4 : decide (s.1 ≤ pv.2) = false := by have := HSP.out pv h0 hpv; simp; omega
            have hpos : (1 : Int) ≤ p := by omega
            have hin1 : (p : Int) - 1 < cn := by omega
            have hwrap : IntKind.i64.wrap ((p : Int) - 1) = (p : Int) - 1 := IntWalk.i64_in _ (by omega)
            have hto : ((p : Int) - 1).toNat = p - 1 := by omega
            clear hpv
            go_wp2_with fail
            rw [HWB.out]
            clear t0 t1 z0 z1 z2 z3
            refine wp_region_S wb.heap.size 34 (fun _ => false) (Nat.le_refl _) (by kernel_rfl) (by kernel_rfl) (by kernel_rfl) ?_
            dsimp only [List.take, List.drop]
            apply relS_det (mask := [])
            · rfl
            · kernel_rfl
            · kernel_rfl
            · dsimp only [oblS]
              rintro w9 h9
              go_simp
              exact ⟨Below.refl _ _, rfl⟩
            dsimp only [List.nil_append, List.cons_append]
            apply relS_det (mask := [true]) (x := .int .i64 s.1)
            · rfl
            · kernel_rfl
            · kernel_rfl
            · dsimp only [oblS]
              rintro w9 h9
              obtain ⟨s0, s1, k0, k1, k2, c3, r0, r1, r2, r3, r4, lb, lc, lr⟩ := HM.out w9 h9
              go_simp
              exact ⟨Below.refl _ _, rfl⟩
            dsimp only [List.nil_append, List.cons_append]
            apply relS_det (mask := [false, false])
            · rfl
            · kernel_rfl
            · kernel_rfl
            · dsimp only [oblS]
              rintro w9 h9
              go_simp
              exact ⟨Below.refl _ _, rfl⟩
            dsimp only [List.nil_append, List.cons_append]
            apply relS_det (mask := [false, false, true]) (x := .int .i64 s.2)
            · rfl
            · kernel_rfl
            · kernel_rfl
            · dsimp only [oblS]
              rintro w9 h9
              obtain ⟨s0, s1, k0, k1, k2, c3, r0, r1, r2, r3, r4, lb, lc, lr⟩ := HM.out w9 h9
              go_simp
              exact ⟨Below.refl _ _, rfl⟩
            dsimp only [List.nil_append, List.cons_append]
            apply relS_det (mask := [false, true, false, true]) (x := .bool false)
            · rfl
            · kernel_rfl
            · kernel_rfl
            · dsimp only [oblS]
              rintro w9 h9
              go_simp
              exact ⟨Below.refl _ _, rfl⟩
            dsimp only [List.nil_append, List.cons_append]
            apply relS_det (mask := [false, false, false, false, true])
            · rfl
            · kernel_rfl
            · kernel_rfl
            · dsimp only [oblS]
              rintro w9 h9
              go_simp
              exact ⟨Below.refl _ _, rfl⟩
            dsimp only [List.nil_append, List.cons_append]
            apply relS_detg (mask := [false, false, false, false, false, true]) (t := 56) (want := false)
            · rfl
            · kernel_rfl
            · kernel_rfl
            · dsimp only [oblS]
              refine ⟨by rfl, ?_⟩
              rintro w9 h9
              go_simp
              exact ⟨Below.refl _ _, rfl⟩
            dsimp only [List.nil_append, List.cons_append]
            apply relS_detg (mask := [false, false, false, false, false, true, true]) (t := 56) (want := false) (x := .int .i64 s.1)
            · rfl
            · kernel_rfl
            · kernel_rfl
            · dsimp only [oblS]
              refine ⟨by rfl, ?_⟩
              rintro w9 h9
              obtain ⟨s0, s1, k0, k1, k2, c3, r0, r1, r2, r3, r4, lb, lc, lr⟩ := HM.out w9 h9
              go_simp
              exact ⟨Below.refl _ _, rfl⟩
            dsimp only [List.nil_append, List.cons_append]
            apply relS_detg (mask := [false, false, false, false, false, true, false, true]) (t := 56) (want := false) (x := .bool false)
            · rfl
            · kernel_rfl
            · kernel_rfl
            · dsimp only [oblS]
              refine ⟨by rfl, ?_⟩
              rintro w9 h9
              go_simp
              exact ⟨Below.refl _ _, rfl⟩
            dsimp only [List.nil_append, List.cons_append]
            apply relS_det (mask := [false, false, false, false, false, true, false, false, true]) (x := .bool false)
            · rfl
            · kernel_rfl
            · kernel_rfl
            · dsimp only [oblS]
              rintro w9 h9
              go_simp
              exact ⟨Below.refl _ _, rfl⟩
            dsimp only [List.nil_append, List.cons_append]
            apply relS_det (mask := [false, false, false, false, false, false, false, false, false, true])
            · rfl
            · kernel_rfl
            · kernel_rfl
            · dsimp only [oblS]
              rintro w9 h9
              go_simp
              exact ⟨Below.refl _ _, rfl⟩
            dsimp only [List.nil_append, List.cons_append]
            apply relS_detg (mask := [false, false, false, false, false, false, false, false, false, false, true]) (t := 61) (want := false)
            · rfl
            · kernel_rfl
            · kernel_rfl
            · dsimp only [oblS]
              refine ⟨by rfl, ?_⟩
              rintro w9 h9
              go_simp
              exact ⟨Below.refl _ _, rfl⟩
            dsimp only [List.nil_append, List.cons_append]
            apply relS_detg (mask := [false, false, false, false, false, false, false, false, false, false, true, true]) (t := 61) (want := false) (x := .int .i64 s.2)
            · rfl
            · kernel_rfl
            · kernel_rfl
            · dsimp only [oblS]
              refine ⟨by rfl, ?_⟩
              rintro w9 h9
              obtain ⟨s0, s1, k0, k1, k2, c3, r0, r1, r2, r3, r4, lb, lc, lr⟩ := HM.out w9 h9
              go_simp
              exact ⟨Below.refl _ _, rfl⟩
            dsimp only [List.nil_append, List.cons_append]
            apply relS_detg (mask := [false, false, false, false, false, false, false, false, false, false, true, false, true]) (t := 61) (want := false) (x := .bool false)
            · rfl
            · kernel_rfl
            · kernel_rfl
            · dsimp only [oblS]
              refine ⟨by rfl, ?_⟩
              rintro w9 h9
              go_simp
              exact ⟨Below.refl _ _, rfl⟩
            dsimp only [List.nil_append, List.cons_append]
            apply relS_det (mask := [false, false, false, false, false, false, false, false, false, false, true, false, false, true]) (x := .bool false)
            · rfl
            · kernel_rfl
            · kernel_rfl
            · dsimp only [oblS]
              rintro w9 h9
              go_simp
              exact ⟨Below.refl _ _, rfl⟩
            dsimp only [List.nil_append, List.cons_append]
            apply relS_det (mask := [false, false, false, false, false, false, false, false, false, false, false, false, false, false, true])
            · rfl
            · kernel_rfl
            · kernel_rfl
            · dsimp only [oblS]
              rintro w9 h9
              go_simp
              exact ⟨Below.refl _ _, rfl⟩
            dsimp only [List.nil_append, List.cons_append]
            apply relS_detg (mask := [false, false, false, false, false, false, false, false, false, false, false, false, false, false, false, true]) (t := 66) (want := false)
            · rfl
            · kernel_rfl
            · kernel_rfl
            · dsimp only [oblS]
              refine ⟨by rfl, ?_⟩
              rintro w9 h9
              go_simp
              exact ⟨Below.refl _ _, rfl⟩
            dsimp only [List.nil_append, List.cons_append]
            apply relS_detg (mask := [false, false, false, false, false, false, false, false, false, false, false, false, false, false, false, true, true]) (t := 66) (want := false) (x := .bool true)
            · rfl
            · kernel_rfl
            · kernel_rfl
            · dsimp only [oblS]
              refine ⟨by rfl, ?_⟩
              rintro w9 h9
              go_simp
              exact ⟨Below.refl _ _, rfl⟩
            dsimp only [List.nil_append, List.cons_append]
            apply relS_detg (mask := [false, false, false, false, false, false, false, false, false, false, false, false, false, false, false, true, false, true]) (t := 66) (want := false)
            · rfl
            · kernel_rfl
            · kernel_rfl
            · dsimp only [oblS]
              refine ⟨by rfl, ?_⟩
              rintro w9 h9
              go_simp
              exact ⟨Below.refl _ _, rfl⟩
            dsimp only [List.nil_append, List.cons_append]
            apply relS_detg (mask := [false, false, false, false, false, false, false, false, false, false, false, false, false, false, false, false, false, false, true]) (t := 69) (want := true)
            · rfl
            · kernel_rfl
            · kernel_rfl
            · dsimp only [oblS]
              refine ⟨by rfl, ?_⟩
              rintro w9 h9
              go_simp
              exact ⟨Below.refl _ _, rfl⟩
            dsimp only [List.nil_append, List.cons_append]
            apply relS_detg (mask := [false, false, false, false, false, false, false, false, false, false, false, false, false, false, false, false, false, false, true, false]) (t := 69) (want := true)
            · rfl
            · kernel_rfl
            · kernel_rfl
            · dsimp only [oblS]
              refine ⟨by rfl, ?_⟩
              rintro w9 h9
              go_simp
              exact ⟨Below.refl _ _, rfl⟩
            dsimp only [List.nil_append, List.cons_append]
            apply relS_detg (mask := [false, false, false, false, false, false, false, false, false, false, false, false, false, false, false, false, false, false, true, true, true]) (t := 69) (want := true)
            · rfl
            · kernel_rfl
            · kernel_rfl
            · dsimp only [oblS]
              refine ⟨by rfl, ?_⟩
              rintro w9 h9
              go_simp
              exact ⟨Below.refl _ _, rfl⟩
            dsimp only [List.nil_append, List.cons_append]
            apply relS_detg (mask := [false, false, false, false, false, false, false, false, false, false, false, false, false, false, false, false, false, false, true, false, false, true]) (t := 69) (want := true)
            · rfl
            · kernel_rfl
            · kernel_rfl
            · dsimp only [oblS]
              refine ⟨by rfl, ?_⟩
              rintro w9 h9
              go_simp
              exact ⟨Below.refl _ _, rfl⟩
            dsimp only [List.nil_append, List.cons_append]
            apply relS_detg (mask := [false, false, false, false, false, false, false, false, false, false, false, false, false, false, false, false, false, false, true, false, false, false, true]) (t := 69) (want := true) (x := .slice (some ⟨bs, os, none⟩) cn cc)
            · rfl
            · kernel_rfl
            · kernel_rfl
            · dsimp only [oblS]
              refine ⟨by rfl, ?_⟩
              rintro w9 h9
              obtain ⟨s0, s1, k0, k1, k2, c3, r0, r1, r2, r3, r4, lb, lc, lr⟩ := HM.out w9 h9
              go_simp
              exact ⟨Below.refl _ _, rfl⟩
            dsimp only [List.nil_append, List.cons_append]
            apply relS_detg (mask := [false, false, false, false, false, false, false, false, false, false, false, false, false, false, false, false, false, false, true, false, false, false, false, false]) (t := 69) (want := true)
            · rfl
            · kernel_rfl
            · kernel_rfl
            · dsimp only [oblS]
              refine ⟨by rfl, ?_⟩
              rintro w9 h9
              go_simp
              exact ⟨Below.refl _ _, rfl⟩
            dsimp only [List.nil_append, List.cons_append]
            apply relS_detg (mask := [false, false, false, false, false, false, false, false, false, false, false, false, false, false, false, false, false, false, true, false, false, false, false, false, true]) (t := 69) (want := true)
            · rfl
            · kernel_rfl
            · kernel_rfl
            · dsimp only [oblS]
              refine ⟨by rfl, ?_⟩
              rintro w9 h9
              go_simp
              exact ⟨Below.refl _ _, rfl⟩
            dsimp only [List.nil_append, List.cons_append]
            apply relS_detg (mask := [false, false, false, false, false, false, false, false, false, false, false, false, false, false, false, false, false, false, true, false, false, false, false, true, false, true]) (t := 69) (want := true)
            · rfl
            · kernel_rfl
            · kernel_rfl
            · dsimp only [oblS]
              refine ⟨by rfl, ?_⟩
              rintro w9 h9
              go_simp
              exact ⟨Below.refl _ _, rfl⟩
            dsimp only [List.nil_append, List.cons_append]
            apply relS_detg (mask := [false, false, false, false, false, false, false, false, false, false, false, false, false, false, false, false, false, false, true, false, false, false, false, false, false, false, true]) (t := 69) (want := true)
            · rfl
            · kernel_rfl
            · kernel_rfl
            · dsimp only [oblS]
              refine ⟨by rfl, ?_⟩
              rintro w9 h9
              go_simp
              exact ⟨Below.refl _ _, rfl⟩
            dsimp only [List.nil_append, List.cons_append]
            apply relS_detg (mask := [false, false, false, false, false, false, false, false, false, false, false, false, false, false, false, false, false, false, true, false, false, false, false, false, false, false, false, true]) (t := 69) (want := true) (x := .int .i64 pv.2)
            · rfl
            · kernel_rfl
            · kernel_rfl
            · dsimp only [oblS]
              refine ⟨by rfl, ?_⟩
              rintro w9 h9
              obtain ⟨p0, p1⟩ := HPV.out w9 h9
              go_simp
              exact ⟨Below.refl _ _, rfl⟩
            dsimp only [List.nil_append, List.cons_append]
            apply relS_detg (mask := [false, false, false, false, false, false, false, false, false, false, false, false, false, false, false, false, false, false, true, false, false, false, false, false, false, false, false, false, false]) (t := 69) (want := true)
            · rfl
            · kernel_rfl
            · kernel_rfl
            · dsimp only [oblS]
              refine ⟨by rfl, ?_⟩
              rintro w9 h9
              go_simp
              exact ⟨Below.refl _ _, rfl⟩
            dsimp only [List.nil_append, List.cons_append]
            apply relS_detg (mask := [false, false, false, false, false, false, false, false, false, false, false, false, false, false, false, false, false, false, true, false, false, false, false, false, false, false, false, false, false, true]) (t := 69) (want := true) (x := .int .i64 s.1)
            · rfl
            · kernel_rfl
            · kernel_rfl
            · dsimp only [oblS]
              refine ⟨by rfl, ?_⟩
              rintro w9 h9
              obtain ⟨s0, s1, k0, k1, k2, c3, r0, r1, r2, r3, r4, lb, lc, lr⟩ := HM.out w9 h9
              go_simp
              exact ⟨Below.refl _ _, rfl⟩
            dsimp only [List.nil_append, List.cons_append]
            apply relS_detg (mask := [false, false, false, false, false, false, false, false, false, false, false, false, false, false, false, false, false, false, true, false, false, false, false, false, false, false, false, false, true, false, true]) (t := 69) (want := true) (x := .bool false)
            · rfl
            · kernel_rfl
            · kernel_rfl
            · dsimp only [oblS]
              refine ⟨by rfl, ?_⟩
              rintro w9 h9
              go_simp
              exact ⟨Below.refl _ _, rfl⟩
            dsimp only [List.nil_append, List.cons_append]
            apply relS_detg (mask := [false, false, false, false, false, false, false, false, false, false, false, false, false, false, false, true, false, false, true, false, false, false, false, false, false, false, false, false, false, false, false, true]) (t := 66) (want := false) (x := .bool false)
            · rfl
            · kernel_rfl
            · kernel_rfl
            · dsimp only [oblS]
              refine ⟨by rfl, ?_⟩
              rintro w9 h9
              go_simp
              exact ⟨Below.refl _ _, rfl⟩
            dsimp only [List.nil_append, List.cons_append]
            apply relS_det (mask := [false, false, false, false, false, false, false, false, false, false, false, false, false, false, false, true, false, false, false, false, false, false, false, false, false, false, false, false, false, false, false, false, true]) (x := .bool false)
            · rfl
            · kernel_rfl
            · kernel_rfl
            · dsimp only [oblS]
              rintro w9 h9
              go_simp
              exact ⟨Below.refl _ _, rfl⟩
            dsimp only [List.nil_append, List.cons_append]
            refine relS_end (by rfl) ?_
            dsimp only [finS]
            -- rintro  w8 hb
            intro w5 hb5
            go_frame
            have HB5 := hidp hb5
            have HM5 : Hid (∀ W', Below w5.heap.size w5 W' → RdMem W' wr.heap.size s bc (oc + q * 4) ck (.slice (some ⟨bs, os, none⟩) cn cc) w.heap.size r) := fun W' h => HM.out W' (HB5.out.trans (h.mono HB5.out.size))
            obtain ⟨V1, hV1⟩ : ∃ V, (atF l ck s.1 before).getD 0 = V := ⟨_, rfl⟩
            obtain ⟨S1, hS1⟩ : ∃ V, (atF l ck s.1 before).isSome = V := ⟨_, rfl⟩
            obtain ⟨V2, hV2⟩ : ∃ V, (atF l ck s.1 after).getD 0 = V := ⟨_, rfl⟩
            obtain ⟨S2, hS2⟩ : ∃ V, (atF l ck s.1 after).isSome = V := ⟨_, rfl⟩
            have HV1 := hidp hV1
            have HS1 := hidp hS1
            have HV2 := hidp hV2
            have HS2 := hidp hS2
            have HNE : Hid (S1 = S2 → V1 ≠ V2) := by
              intro h1 h2
              apply HSD.out
              rw [← hS1, ← hS2] at h1
              rw [← hV1, ← hV2] at h2
              cases h3 : atF l ck s.1 before <;> cases h4 : atF l ck s.1 after <;> rw [h3, h4] at h1 h2 <;> simp at h1 h2 ⊢
              exact h2
            have hm5 := HM5.out w5 (Below.refl _ _)
            have hwl5 := hm5.lc
            have hwb5 := hm5.lb
            clear hb5 hV1 hS1 hV2 hS2 hm5
            go_wp2_with fail
            refine wp_region_S w5.heap.size 15 (fun _ => false) (Nat.le_refl _) (by kernel_rfl) (by kernel_rfl) (by kernel_rfl) ?_
            dsimp only [List.take, List.drop]
            apply relS_det (mask := [])
            · rfl
            · kernel_rfl
            · kernel_rfl
            · dsimp only [oblS]
              rintro w9 h9
              go_simp
              exact ⟨Below.refl _ _, rfl⟩
            dsimp only [List.nil_append, List.cons_append]
            apply relS_det (mask := [false])
            · rfl
            · kernel_rfl
            · kernel_rfl
            · dsimp only [oblS]
              rintro w9 h9
              go_simp
              exact ⟨Below.refl _ _, rfl⟩
            dsimp only [List.nil_append, List.cons_append]
            apply relS_det (mask := [false, false])
            · rfl
            · kernel_rfl
            · kernel_rfl
            · dsimp only [oblS]
              rintro w9 h9
              go_simp
              exact ⟨Below.refl _ _, rfl⟩
            dsimp only [List.nil_append, List.cons_append]
            apply relS_det (mask := [false, true, true])
            · rfl
            · kernel_rfl
            · kernel_rfl
            · dsimp only [oblS]
              rintro w9 h9
              go_simp
              exact ⟨Below.refl _ _, rfl⟩
            dsimp only [List.nil_append, List.cons_append]
            apply relS_det (mask := [false, false, false, true])
            · rfl
            · kernel_rfl
            · kernel_rfl
            · dsimp only [oblS]
              rintro w9 h9
              go_simp
              exact ⟨Below.refl _ _, rfl⟩
            dsimp only [List.nil_append, List.cons_append]
            apply relS_det (mask := [false, false, false, false, true]) (x := .agg #[.int .i64 ck.kind, .int .i64 ck.subj, .int .i64 ck.obj])
            · rfl
            · kernel_rfl
            · kernel_rfl
            · dsimp only [oblS]
              rintro w9 h9
              obtain ⟨s0, s1, k0, k1, k2, c3, r0, r1, r2, r3, r4, lb, lc, lr⟩ := HM5.out w9 h9
              go_simp
              exact ⟨Below.refl _ _, rfl⟩
            dsimp only [List.nil_append, List.cons_append]
            apply relS_det (mask := [false, false, false, false, false, false])
            · rfl
            · kernel_rfl
            · kernel_rfl
            · dsimp only [oblS]
              rintro w9 h9
              go_simp
              exact ⟨Below.refl _ _, rfl⟩
            dsimp only [List.nil_append, List.cons_append]
            apply relS_det (mask := [false, false, false, false, false, false, true]) (x := .int .i64 s.1)
            · rfl
            · kernel_rfl
            · kernel_rfl
            · dsimp only [oblS]
              rintro w9 h9
              obtain ⟨s0, s1, k0, k1, k2, c3, r0, r1, r2, r3, r4, lb, lc, lr⟩ := HM5.out w9 h9
              go_simp
              exact ⟨Below.refl _ _, rfl⟩
            dsimp only [List.nil_append, List.cons_append]
            apply relS_det (mask := [false, false, false, false, false, false, false, false])
            · rfl
            · kernel_rfl
            · kernel_rfl
            · dsimp only [oblS]
              rintro w9 h9
              go_simp
              exact ⟨Below.refl _ _, rfl⟩
            dsimp only [List.nil_append, List.cons_append]
            apply relS_det (mask := [true, false, false, false, false, true, false, true, true]) (x := .tuple #[.int .i64 V1, .bool S1])
            · rfl
            · kernel_rfl
            · kernel_rfl
            · dsimp only [oblS]
              rintro w9 h9
              go_simp
              refine (fAt_any _ _ _ l ck s.1 before _ (HLW.out w9 (HB5.out.trans (h9.mono HB5.out.size)))).mono ?_
              rintro e w7 ⟨rfl, hb7⟩
              exact ⟨_, rfl, hb7, by rw [HV1.out, HS1.out]; rfl⟩
            dsimp only [List.nil_append, List.cons_append]
            apply relS_det (mask := [false, false, false, false, false, false, false, false, false, true])
            · rfl
            · kernel_rfl
            · kernel_rfl
            · dsimp only [oblS]
              rintro w9 h9
              go_simp
              exact ⟨Below.refl _ _, rfl⟩
            dsimp only [List.nil_append, List.cons_append]
            apply relS_det (mask := [false, false, false, false, false, false, false, false, false, false, true])
            · rfl
            · kernel_rfl
            · kernel_rfl
            · dsimp only [oblS]
              rintro w9 h9
              go_simp
              exact ⟨Below.refl _ _, rfl⟩
            dsimp only [List.nil_append, List.cons_append]
            apply relS_det (mask := [false, false, false, false, false, false, false, false, false, false, true, false])
            · rfl
            · kernel_rfl
            · kernel_rfl
            · dsimp only [oblS]
              rintro w9 h9
              go_simp
              exact ⟨Below.refl _ _, rfl⟩
            dsimp only [List.nil_append, List.cons_append]
            apply relS_det (mask := [false, false, false, false, false, false, false, false, false, false, false, true, false])
            · rfl
            · kernel_rfl
            · kernel_rfl
            · dsimp only [oblS]
              rintro w9 h9
              go_simp
              exact ⟨Below.refl _ _, rfl⟩
            dsimp only [List.nil_append, List.cons_append]
            apply relS_det (mask := [false, false, false, false, false, false, false, false, false, false, false, false, true, false])
            · rfl
            · kernel_rfl
            · kernel_rfl
            · dsimp only [oblS]
              rintro w9 h9
              go_simp
              exact ⟨Below.refl _ _, rfl⟩
            dsimp only [List.nil_append, List.cons_append]
            refine relS_end (by rfl) ?_
            dsimp only [finS]
            -- rintro  w8 hb
            intro w6 hb6
            go_frame
            have HB6 := hidp (HB5.out.trans (hb6.mono HB5.out.size))
            have HM6 : Hid (∀ W', Below w6.heap.size w6 W' → RdMem W' wr.heap.size s bc (oc + q * 4) ck (.slice (some ⟨bs, os, none⟩) cn cc) w.heap.size r) := fun W' h => HM.out W' (HB6.out.trans (h.mono HB6.out.size))
            have hm6 := HM6.out w6 (Below.refl _ _)
            have hwl6 := hm6.lc
            have hwb6 := hm6.lb
            clear hb6 hm6
            go_wp2_with fail
            refine wp_region_S w6.heap.size 15 (fun _ => false) (Nat.le_refl _) (by kernel_rfl) (by kernel_rfl) (by kernel_rfl) ?_
            dsimp only [List.take, List.drop]
            apply relS_det (mask := [])
            · rfl
            · kernel_rfl
            · kernel_rfl
            · dsimp only [oblS]
              rintro w9 h9
              go_simp
              exact ⟨Below.refl _ _, rfl⟩
            dsimp only [List.nil_append, List.cons_append]
            apply relS_det (mask := [false])
            · rfl
            · kernel_rfl
            · kernel_rfl
            · dsimp only [oblS]
              rintro w9 h9
              go_simp
              exact ⟨Below.refl _ _, rfl⟩
            dsimp only [List.nil_append, List.cons_append]
            apply relS_det (mask := [false, false])
            · rfl
            · kernel_rfl
            · kernel_rfl
            · dsimp only [oblS]
              rintro w9 h9
              go_simp
              exact ⟨Below.refl _ _, rfl⟩
            dsimp only [List.nil_append, List.cons_append]
            apply relS_det (mask := [false, true, true])
            · rfl
            · kernel_rfl
            · kernel_rfl
            · dsimp only [oblS]
              rintro w9 h9
              go_simp
              exact ⟨Below.refl _ _, rfl⟩
            dsimp only [List.nil_append, List.cons_append]
            apply relS_det (mask := [false, false, false, true])
            · rfl
            · kernel_rfl
            · kernel_rfl
            · dsimp only [oblS]
              rintro w9 h9
              go_simp
              exact ⟨Below.refl _ _, rfl⟩
            dsimp only [List.nil_append, List.cons_append]
            apply relS_det (mask := [false, false, false, false, true]) (x := .agg #[.int .i64 ck.kind, .int .i64 ck.subj, .int .i64 ck.obj])
            · rfl
            · kernel_rfl
            · kernel_rfl
            · dsimp only [oblS]
              rintro w9 h9
              obtain ⟨s0, s1, k0, k1, k2, c3, r0, r1, r2, r3, r4, lb, lc, lr⟩ := HM6.out w9 h9
              go_simp
              exact ⟨Below.refl _ _, rfl⟩
            dsimp only [List.nil_append, List.cons_append]
            apply relS_det (mask := [false, false, false, false, false, false])
            · rfl
            · kernel_rfl
            · kernel_rfl
            · dsimp only [oblS]
              rintro w9 h9
              go_simp
              exact ⟨Below.refl _ _, rfl⟩
            dsimp only [List.nil_append, List.cons_append]
            apply relS_det (mask := [false, false, false, false, false, false, true]) (x := .int .i64 s.1)
            · rfl
            · kernel_rfl
            · kernel_rfl
            · dsimp only [oblS]
              rintro w9 h9
              obtain ⟨s0, s1, k0, k1, k2, c3, r0, r1, r2, r3, r4, lb, lc, lr⟩ := HM6.out w9 h9
              go_simp
              exact ⟨Below.refl _ _, rfl⟩
            dsimp only [List.nil_append, List.cons_append]
            apply relS_det (mask := [false, false, false, false, false, false, false, false])
            · rfl
            · kernel_rfl
            · kernel_rfl
            · dsimp only [oblS]
              rintro w9 h9
              go_simp
              exact ⟨Below.refl _ _, rfl⟩
            dsimp only [List.nil_append, List.cons_append]
            apply relS_det (mask := [true, false, false, false, false, true, false, true, true]) (x := .tuple #[.int .i64 V2, .bool S2])
            · rfl
            · kernel_rfl
            · kernel_rfl
            · dsimp only [oblS]
              rintro w9 h9
              go_simp
              refine (fAt_any _ _ _ l ck s.1 after _ (HLW.out w9 (HB6.out.trans (h9.mono HB6.out.size)))).mono ?_
              rintro e w7 ⟨rfl, hb7⟩
              exact ⟨_, rfl, hb7, by rw [HV2.out, HS2.out]; rfl⟩
            dsimp only [List.nil_append, List.cons_append]
            apply relS_det (mask := [false, false, false, false, false, false, false, false, false, true])
            · rfl
            · kernel_rfl
            · kernel_rfl
            · dsimp only [oblS]
              rintro w9 h9
              go_simp
              exact ⟨Below.refl _ _, rfl⟩
            dsimp only [List.nil_append, List.cons_append]
            apply relS_det (mask := [false, false, false, false, false, false, false, false, false, false, true])
            · rfl
            · kernel_rfl
            · kernel_rfl
            · dsimp only [oblS]
              rintro w9 h9
              go_simp
              exact ⟨Below.refl _ _, rfl⟩
            dsimp only [List.nil_append, List.cons_append]
            apply relS_det (mask := [false, false, false, false, false, false, false, false, false, false, true, false])
            · rfl
            · kernel_rfl
            · kernel_rfl
            · dsimp only [oblS]
              rintro w9 h9
              go_simp
              exact ⟨Below.refl _ _, rfl⟩
            dsimp only [List.nil_append, List.cons_append]
            apply relS_det (mask := [false, false, false, false, false, false, false, false, false, false, false, true, false])
            · rfl
            · kernel_rfl
            · kernel_rfl
            · dsimp only [oblS]
              rintro w9 h9
              go_simp
              exact ⟨Below.refl _ _, rfl⟩
            dsimp only [List.nil_append, List.cons_append]
            apply relS_det (mask := [false, false, false, false, false, false, false, false, false, false, false, false, true, false])
            · rfl
            · kernel_rfl
            · kernel_rfl
            · dsimp only [oblS]
              rintro w9 h9
              go_simp
              exact ⟨Below.refl _ _, rfl⟩
            dsimp only [List.nil_append, List.cons_append]
            refine relS_end (by rfl) ?_
            dsimp only [finS]
            -- rintro  w8 hb
            intro w7 hb7
            go_frame
            have HB7 := hidp (HB6.out.trans (hb7.mono HB6.out.size))
            have HM7 : Hid (∀ W', Below w7.heap.size w7 W' → RdMem W' wr.heap.size s bc (oc + q * 4) ck (.slice (some ⟨bs, os, none⟩) cn cc) w.heap.size r) := fun W' h => HM.out W' (HB7.out.trans (h.mono HB7.out.size))
            have hm7 := HM7.out w7 (Below.refl _ _)
            have hwl7 := hm7.lc
            have hwb7 := hm7.lb
            have hwr7 := hm7.lr
            obtain ⟨eS, heS⟩ : ∃ b, (S1 == S2) = b := ⟨_, rfl⟩
            obtain ⟨eV, heV⟩ : ∃ b, (V1 == V2) = b := ⟨_, rfl⟩
            have hcase : (eS = false ∧ eV = eV) ∨ (eS = true ∧ eV = false) := by
              cases hes : eS with
              | false => exact .inl ⟨rfl, rfl⟩
              | true =>
                refine .inr ⟨rfl, ?_⟩
                rw [hes] at heS
                have := HNE.out (by simpa using heS)
                rw [← heV]
                simpa using this
            obtain ⟨kb, hkb⟩ : ∃ b, decide (ck = r.1) = b := ⟨_, rfl⟩
            have hqk := fun W => k_eql ck r.1 W
            rw [hkb] at hqk
            have HKB := hidp hkb
            clear hb7 hm7 hkb
            obtain ⟨mx, hmx⟩ : ∃ m, max r.2.1 s.1 = m := ⟨_, rfl⟩
            obtain ⟨mn, hmn⟩ : ∃ m, min r.2.2 s.2 = m := ⟨_, rfl⟩
            obtain ⟨lb0, hlb0⟩ : ∃ b, decide (mx < mn) = b := ⟨_, rfl⟩
            have HT : Hid ((hh || (S.take (p + 1)).any (touchS r ck)) = (hj || (kb && lb0))) := by
              show _ = _
              rw [take_snoc HZs.out, List.any_append, ← Bool.or_assoc, HJ.out]
              simp only [List.any_cons, List.any_nil, Bool.or_false, touchS]
              rw [HKB.out, hmx, hmn, hlb0]
            have HMX := hidp hmx
            have HMN := hidp hmn
            clear hmx hmn
            rcases hcase with ⟨hcs, hcs2⟩ | ⟨hcs, hcs2⟩
            all_goals
              subst hcs
              try subst hcs2
              try clear hcs2
              go_wp2_with fail
              refine wp_region_S w7.heap.size 21 (fun _ => false) (Nat.le_refl _) (by kernel_rfl) (by kernel_rfl) (by kernel_rfl) ?_
              dsimp only [List.take, List.drop]
              apply relS_det (mask := [])
              · rfl
              · kernel_rfl
              · kernel_rfl
              · dsimp only [oblS]
                rintro w9 h9
                go_simp
                exact ⟨Below.refl _ _, rfl⟩
              dsimp only [List.nil_append, List.cons_append]
              apply relS_det (mask := [false])
              · rfl
              · kernel_rfl
              · kernel_rfl
              · dsimp only [oblS]
                rintro w9 h9
                go_simp
                exact ⟨Below.refl _ _, rfl⟩
              dsimp only [List.nil_append, List.cons_append]
              apply relS_det (mask := [true, true])
              · rfl
              · kernel_rfl
              · kernel_rfl
              · dsimp only [oblS]
                rintro w9 h9
                go_simp
                exact ⟨Below.refl _ _, rfl⟩
              dsimp only [List.nil_append, List.cons_append]
              apply relS_det (mask := [false, false, true])
              · rfl
              · kernel_rfl
              · kernel_rfl
              · dsimp only [oblS]
                rintro w9 h9
                go_simp
                exact ⟨Below.refl _ _, rfl⟩
              dsimp only [List.nil_append, List.cons_append]
              apply relS_det (mask := [false, false, false, true]) (x := .agg #[.int .i64 ck.kind, .int .i64 ck.subj, .int .i64 ck.obj])
              · rfl
              · kernel_rfl
              · kernel_rfl
              · dsimp only [oblS]
                rintro w9 h9
                obtain ⟨s0, s1, k0, k1, k2, c3, r0, r1, r2, r3, r4, lb, lc, lr⟩ := HM7.out w9 h9
                go_simp
                exact ⟨Below.refl _ _, rfl⟩
              dsimp only [List.nil_append, List.cons_append]
              apply relS_det (mask := [false, false, false, false, false])
              · rfl
              · kernel_rfl
              · kernel_rfl
              · dsimp only [oblS]
                rintro w9 h9
                go_simp
                exact ⟨Below.refl _ _, rfl⟩
              dsimp only [List.nil_append, List.cons_append]
              apply relS_det (mask := [false, false, false, false, false, true]) (x := .agg #[.int .i64 r.1.kind, .int .i64 r.1.subj, .int .i64 r.1.obj])
              · rfl
              · kernel_rfl
              · kernel_rfl
              · dsimp only [oblS]
                rintro w9 h9
                obtain ⟨s0, s1, k0, k1, k2, c3, r0, r1, r2, r3, r4, lb, lc, lr⟩ := HM7.out w9 h9
                go_simp
                exact ⟨Below.refl _ _, rfl⟩
              dsimp only [List.nil_append, List.cons_append]
              apply relS_det (mask := [false, false, false, false, true, false, true]) (x := .bool kb)
              · rfl
              · kernel_rfl
              · kernel_rfl
              · dsimp only [oblS]
                rintro w9 h9
                go_simp
                exact ⟨Below.refl _ _, rfl⟩
              dsimp only [List.nil_append, List.cons_append]
              apply relS_det (mask := [false, false, false, false, false, false, false, true]) (x := .bool kb)
              · rfl
              · kernel_rfl
              · kernel_rfl
              · dsimp only [oblS]
                rintro w9 h9
                go_simp
                exact ⟨Below.refl _ _, rfl⟩
              dsimp only [List.nil_append, List.cons_append]
              apply relS_if (mask := [false, false, false, false, false, false, false, false, true]) (t := 127) (want := true) (g := kb)
              · rfl
              · kernel_rfl
              · kernel_rfl
              · dsimp only [oblS]
                refine ⟨⟨.bool kb, by rfl, (guard_free (by simp)).1, (guard_free (by simp)).2⟩, ?_⟩
                intro hg
                rintro w9 h9
                go_simp
                exact ⟨Below.refl _ _, rfl⟩
              dsimp only [List.nil_append, List.cons_append]
              apply relS_if (mask := [false, false, false, false, false, false, false, false, true, true]) (t := 127) (want := true) (g := kb) (x := .int .i64 r.2.1)
              · rfl
              · kernel_rfl
              · kernel_rfl
              · dsimp only [oblS]
                refine ⟨⟨.bool kb, by rfl, (guard_free (by simp)).1, (guard_free (by simp)).2⟩, ?_⟩
                intro hg
                rintro w9 h9
                obtain ⟨s0, s1, k0, k1, k2, c3, r0, r1, r2, r3, r4, lb, lc, lr⟩ := HM7.out w9 h9
                go_simp
                exact ⟨Below.refl _ _, rfl⟩
              dsimp only [List.nil_append, List.cons_append]
              apply relS_if (mask := [false, false, false, false, false, false, false, false, true, false, false]) (t := 127) (want := true) (g := kb)
              · rfl
              · kernel_rfl
              · kernel_rfl
              · dsimp only [oblS]
                refine ⟨⟨.bool kb, by rfl, (guard_free (by simp)).1, (guard_free (by simp)).2⟩, ?_⟩
                intro hg
                rintro w9 h9
                go_simp
                exact ⟨Below.refl _ _, rfl⟩
              dsimp only [List.nil_append, List.cons_append]
              apply relS_if (mask := [false, false, false, false, false, false, false, false, true, false, false, true]) (t := 127) (want := true) (g := kb) (x := .int .i64 s.1)
              · rfl
              · kernel_rfl
              · kernel_rfl
              · dsimp only [oblS]
                refine ⟨⟨.bool kb, by rfl, (guard_free (by simp)).1, (guard_free (by simp)).2⟩, ?_⟩
                intro hg
                rintro w9 h9
                obtain ⟨s0, s1, k0, k1, k2, c3, r0, r1, r2, r3, r4, lb, lc, lr⟩ := HM7.out w9 h9
                go_simp
                exact ⟨Below.refl _ _, rfl⟩
              dsimp only [List.nil_append, List.cons_append]
              apply relS_if (mask := [false, false, false, false, false, false, false, false, true, false, true, false, true]) (t := 127) (want := true) (g := kb) (x := .int .i64 mx)
              · rfl
              · kernel_rfl
              · kernel_rfl
              · dsimp only [oblS]
                refine ⟨⟨.bool kb, by rfl, (guard_free (by simp)).1, (guard_free (by simp)).2⟩, ?_⟩
                intro hg
                rintro w9 h9
                go_simp
                exact ⟨Below.refl _ _, by show _ = _; rw [HMX.out]⟩
              dsimp only [List.nil_append, List.cons_append]
              apply relS_if (mask := [false, false, false, false, false, false, false, false, true, false, false, false, false, false]) (t := 127) (want := true) (g := kb)
              · rfl
              · kernel_rfl
              · kernel_rfl
              · dsimp only [oblS]
                refine ⟨⟨.bool kb, by rfl, (guard_free (by simp)).1, (guard_free (by simp)).2⟩, ?_⟩
                intro hg
                rintro w9 h9
                go_simp
                exact ⟨Below.refl _ _, rfl⟩
              dsimp only [List.nil_append, List.cons_append]
              apply relS_if (mask := [false, false, false, false, false, false, false, false, true, false, false, false, false, false, true]) (t := 127) (want := true) (g := kb) (x := .int .i64 r.2.2)
              · rfl
              · kernel_rfl
              · kernel_rfl
              · dsimp only [oblS]
                refine ⟨⟨.bool kb, by rfl, (guard_free (by simp)).1, (guard_free (by simp)).2⟩, ?_⟩
                intro hg
                rintro w9 h9
                obtain ⟨s0, s1, k0, k1, k2, c3, r0, r1, r2, r3, r4, lb, lc, lr⟩ := HM7.out w9 h9
                go_simp
                exact ⟨Below.refl _ _, rfl⟩
              dsimp only [List.nil_append, List.cons_append]
              apply relS_if (mask := [false, false, false, false, false, false, false, false, true, false, false, false, false, false, false, false]) (t := 127) (want := true) (g := kb)
              · rfl
              · kernel_rfl
              · kernel_rfl
              · dsimp only [oblS]
                refine ⟨⟨.bool kb, by rfl, (guard_free (by simp)).1, (guard_free (by simp)).2⟩, ?_⟩
                intro hg
                rintro w9 h9
                go_simp
                exact ⟨Below.refl _ _, rfl⟩
              dsimp only [List.nil_append, List.cons_append]
              apply relS_if (mask := [false, false, false, false, false, false, false, false, true, false, false, false, false, false, false, false, true]) (t := 127) (want := true) (g := kb) (x := .int .i64 s.2)
              · rfl
              · kernel_rfl
              · kernel_rfl
              · dsimp only [oblS]
                refine ⟨⟨.bool kb, by rfl, (guard_free (by simp)).1, (guard_free (by simp)).2⟩, ?_⟩
                intro hg
                rintro w9 h9
                obtain ⟨s0, s1, k0, k1, k2, c3, r0, r1, r2, r3, r4, lb, lc, lr⟩ := HM7.out w9 h9
                go_simp
                exact ⟨Below.refl _ _, rfl⟩
              dsimp only [List.nil_append, List.cons_append]
              apply relS_if (mask := [false, false, false, false, false, false, false, false, true, false, false, false, false, false, false, true, false, true]) (t := 127) (want := true) (g := kb) (x := .int .i64 mn)
              · rfl
              · kernel_rfl
              · kernel_rfl
              · dsimp only [oblS]
                refine ⟨⟨.bool kb, by rfl, (guard_free (by simp)).1, (guard_free (by simp)).2⟩, ?_⟩
                intro hg
                rintro w9 h9
                go_simp
                exact ⟨Below.refl _ _, by show _ = _; rw [HMN.out]⟩
              dsimp only [List.nil_append, List.cons_append]
              apply relS_if (mask := [false, false, false, false, false, false, false, false, true, false, false, false, false, true, false, false, false, false, true]) (t := 127) (want := true) (g := kb) (x := .bool lb0)
              · rfl
              · kernel_rfl
              · kernel_rfl
              · dsimp only [oblS]
                refine ⟨⟨.bool kb, by rfl, (guard_free (by simp)).1, (guard_free (by simp)).2⟩, ?_⟩
                intro hg
                rintro w9 h9
                go_simp
                exact ⟨Below.refl _ _, rfl⟩
              dsimp only [List.nil_append, List.cons_append]
              apply relS_det (mask := [false, false, false, false, false, false, false, false, true, false, false, false, false, false, false, false, false, false, false, true]) (x := .bool (kb && lb0))
              · rfl
              · kernel_rfl
              · kernel_rfl
              · dsimp only [oblS]
                rintro w9 h9
                cases kb
                · go_simp
                  exact ⟨Below.refl _ _, by simp [IsV]⟩
                · go_simp
                  exact ⟨Below.refl _ _, by simp [IsV]⟩
              dsimp only [List.nil_append, List.cons_append]
              refine relS_endK [false, false, false, false, false, false, false, false, false, false, false, false, false, false, false, false, false, false, false, false, true] (by rfl) (by rfl) ?_
              dsimp only [finK]
              intro q0 q1 q2 q3 q4 q5 q6 q7 q8 q9 q10 q11 q12 q13 q14 q15 q16 q17 q18 q19
              -- rintro  w8 hb
              intro w8 hb8
              go_frame
              have hB8 := HB3.out.trans ((HB7.out.trans (hb8.mono HB7.out.size)).mono HB3.out.size)
              obtain ⟨tt, htt⟩ : ∃ b, (kb && lb0) = b := ⟨_, rfl⟩
              rw [htt]
              rw [htt] at HT
              cases tt
              · go_wp2_with fail
                go_roundw
                case rel => exact ⟨p + 1, by omega, by go_num, by rw [HT.out]; simp, hB8⟩
                case measure => simp [intOf]; omega
              · go_wp2_with fail
                go_roundw
                case rel => exact ⟨p + 1, by omega, by go_num, by rw [HT.out]; simp, hB8⟩
                case measure => simp [intOf]; omega
        · obtain rfl : cn = p := by omega
          have HT : Hid ((chs.take (q + 1)).any (touchC r) = hj) := by
            show _ = _
            rw [take_snoc HCq.out, List.any_append, HH.out]
            have : (S.take cn) = S := List.take_of_length_le (by rw [← HSl.out]; omega)
            have h2 := HJ.out
            rw [this] at h2
            simpa [touchC] using h2
          go_wp2_with fail
          go_roundw
          case rel => exact ⟨q + 1, by omega, by go_num, by rw [HT.out], HBE.out.trans (hbe.mono HBE.out.size)⟩
          case measure => simp [intOf]; omega
    · obtain rfl : nc = q := by omega
      have hBf := HB2.out.trans (hbe.mono HB2.out.size)
      have hrb := HR.out _ hBf
      have HLaw : Hid (alikeF l [r] before after = !hh) := by
        show _ = _
        rw [read_law, HCH.out, ← HH.out, List.take_of_length_le (by rw [← HNC2.out, ← HNC.out]; omega)]
      have x0 := cell_of_heap (o := 0) hrb
      have x1 := cell_of_heap (o := 1) hrb
      have x2 := cell_of_heap (o := 2) hrb
      have x3 := cell_of_heap (o := 3) hrb
      have x4 := cell_of_heap (o := 4) hrb
      simp only [List.getElem?_toArray, List.getElem?_cons_zero, List.getElem?_cons_succ] at x0 x1 x2 x3 x4
      have hrl := lt_of_heap hrb
      obtain ⟨wx, hwx⟩ : ∃ wx, wr.alloc (.cells #[.int .i64 r.1.kind, .int .i64 r.1.subj, .int .i64 r.1.obj, .int .i64 r.2.1, .int .i64 r.2.2] 54) = wx := ⟨_, rfl⟩
      have hbx : Below wr.heap.size wr wx := hwx ▸ (Below.refl _ wr).alloc (Nat.le_refl _) _
      have hxh : wx.heap[wr.heap.size]? = some (.cells #[.int .i64 r.1.kind, .int .i64 r.1.subj, .int .i64 r.1.obj, .int .i64 r.2.1, .int .i64 r.2.2] 54 (0, 0)) := hwx ▸ World.alloc_heap_new _ _
      have rr : RdSl wx wx.heap.size (some ⟨wr.heap.size, 0, none⟩) 1 1 [r] := rows_of_heap (l := [r]) rdEnc_len hxh (Nat.le_refl _) (by decide) rfl
      have hBx := hBf.trans (hbx.mono hBf.size)
      have HWX := hidp hwx
      have HRR := hidp rr
      clear hwx hxh rr hrb hbx
      go_wp2_with fail
      rw [HWX.out]
      refine (fAlike_any _ _ _ _ _ _ l [r] before after _ (HL.out _ hBx) HRR.out).mono ?_
      rintro e w9 ⟨rfl, hb9⟩
      rw [HLaw.out]
      have hee : ((!hh) == (!hh)) = true := by simp
      go_wp2_with fail
      go_ret
      exact ⟨by first | rfl | simp, HBW.out.trans ((hBx.trans (hb9.mono hBx.size)).mono HBW.out.size)⟩
def ReadCalls : Prop := ∀ (A : Option Addr) (n c : Nat) (l : List Fc) (r : Rd) (before after : Int) (w : World), fSl w w.heap.size A n c l → Calls Try.prog 9 #[.slice A n c, .agg (rdEnc r).toArray, .int .i64 before, .int .i64 after] w fun e w' => e = .returned (.bool true) ∧ Below w.heap.size w w'
theorem read_calls : ReadCalls := lRead_any
end Go.Proofs.Ytoalmffhiinbbaa
