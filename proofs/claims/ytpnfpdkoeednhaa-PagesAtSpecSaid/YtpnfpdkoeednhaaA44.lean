/- The reference's Reach (printed by tools/gen154.py). -/
import Derived.Test.YtpnfpdkoeednhaaA42
import Derived.Test.YtpnfpdkoeednhaaAP18
import Derived.Test.YtpnfpdkoeednhaaA13
import Derived.BigQuiet
namespace Go.Proofs.Ytpnfpdkoeednhaa
open Go.RowKit Go.Shelf

theorem bInfoP : (Try.prog.info? 4).map (fun i => (i.zero, i.size, i.bytes)) = some (some (.bool false), 1, 1) := by kernel_rfl
def bEncP (b : Bool) : List Value := [.bool b]
theorem bEncP_len (b : Bool) : (bEncP b).length = 1 := rfl
theorem made_listP (n : Nat) : (madeCells (Value.bool false).cells n).toList = List.replicate n (.bool false) := by
  refine List.ext_getElem (by simp [madeCells]) fun i h1 h2 => ?_
  have hc : (Value.bool false).cells = #[.bool false] := rfl
  simp [madeCells, hc, Nat.mod_one]
theorem rep_flatP (n : Nat) (b : Bool) : (List.replicate n b).flatMap bEncP = List.replicate n (.bool b) := by
  induction n with
  | zero => rfl
  | succ n ih => rw [List.replicate_succ, List.flatMap_cons, ih, List.replicate_succ]; rfl
theorem made_ownP (w : World) (base n : Nat) (hn : n ≤ 1000) (hb : base ≤ w.heap.size) : ∃ w', (Instr.makeSlice 94 (.int .i64 (n : Int)) (.int .i64 (n : Int))).run Try.prog w = .ok (.slice (some ⟨w.heap.size, 0, none⟩) n n) w' ∧
    w'.ownsRow base 4 1 (.slice (some ⟨w.heap.size, 0, none⟩) n n) n ((List.replicate n false).flatMap bEncP) ∧ Below w.heap.size w w' := by
  obtain ⟨i0, hi, hz, hs, hbb⟩ := info_parts bInfoP
  have hr := run_make (P := Try.prog) w 94 4 i0 (.bool false) Try.underlying94 hi hz .i64 .i64 n n (by omega) (Int.le_refl _) (by rw [hbb]; omega) (by omega)
  rw [hs, Int.toNat_natCast, Nat.mul_one] at hr
  refine ⟨_, hr, ⟨by rw [flat_len bEncP_len, List.length_replicate], .inr ⟨w.heap.size, n, _, rfl, hb, World.alloc_heap_new _ _, Nat.le_refl _, by unfold maxLen; omega, by rw [size_madeCells, Nat.mul_one], ?_⟩⟩, (Below.refl _ _).alloc (Nat.le_refl _) _⟩
  rw [made_listP, rep_flatP, Nat.mul_one, List.take_of_length_le (by simp)]
theorem ix_boolsP {n c k b off : Nat} (hk : k < n) (W : World) : (Instr.indexAt 94 (.slice (some ⟨b, off, none⟩) n c) (.int .i64 k)).run Try.prog W = .ok (.pointer (some ⟨b, off + k, none⟩)) W := by
  have hk' : (k : Int) < n := by omega
  simp [go_sem, hk']
/-- The marks in memory. -/
structure MkB (N B : Nat) (bs : List Bool) (w0 w : World) : Prop where
  own : w.ownsRow B 4 1 (.slice (some ⟨B, 0, none⟩) N N) N (bs.flatMap bEncP)
  below : Below w0.heap.size w0 w
theorem MkB.later {N B : Nat} {bs : List Bool} {w0 w w' : World} (h : MkB N B bs w0 w) (hb : Below w.heap.size w w') : MkB N B bs w0 w' :=
  ⟨own_keepB h.own fun g hg => hb.block g (h.own.lt g hg).2, h.below.trans (hb.mono h.below.size)⟩
theorem MkB.set {N B i : Nat} {bs : List Bool} {w0 w : World} (h : MkB N B bs w0 w) (hB : w0.heap.size ≤ B) {b0 : Bool} (hi : bs[i]? = some b0) : MkB N B (bs.set i true) w0 (w.setCell ⟨B, i, none⟩ (.bool true)) := by
  have h1 := own_set bEncP_len h.own (by decide) hi (j := 0) (by decide) (x' := true) (u := .bool true) rfl
  simp only [Nat.mul_one, Nat.add_zero] at h1
  exact ⟨h1, h.below.setCell (p := ⟨B, i, none⟩) hB _⟩
theorem MkB.cell {N B i : Nat} {bs : List Bool} {w0 w : World} (h : MkB N B bs w0 w) {b0 : Bool} (hi : bs[i]? = some b0) : w.cell? ⟨B, i, none⟩ = some (.bool b0) ∧ B < w.heap.size ∧ w.frozen? ⟨B, i, none⟩ = false := by
  obtain ⟨A, c, e, hr⟩ := own_rows bEncP_len (by decide) h.own
  cases e
  obtain ⟨b2, off, x, cs, e2, hlt, hx, hcs, hc⟩ := Rows.get hr (show i < N by have := hr.1; have := (List.getElem?_eq_some_iff.1 hi).1; omega)
  cases e2
  rw [hi] at hx
  cases hx
  have h1 := hc 0 (.bool b0) (by rw [show cs = bEncP b0 from hcs]; rfl)
  simp only [Nat.mul_one, Nat.zero_add, Nat.add_zero] at h1
  refine ⟨h1, hlt, ?_⟩
  obtain ⟨cs2, h2⟩ := own_kindP h.own (g := B) rfl
  exact frozen_of_heap h2
set_option maxRecDepth 100000 in
set_option maxHeartbeats 8000000 in
theorem r47Reach_any (s : Ps) (v : Int) (w : World) (hps : PsIn s w w.heap.size) (hsm : ∀ g ∈ s.gs, g.fn ≤ 1000000 ∧ g.kn ≤ 1000000) (hT : ((psV s).flatMap (·.facts)).length ≤ 1000000) (hN : s.gs.length ≤ 1000) :
    Calls Try.prog 22 #[psVal s, .int .i64 v] w fun e w' => ∃ A n c, e = .returned (.tuple #[.slice A n c, .int .i64 (errP (verOk s v))]) ∧ iSl w' w'.heap.size A n c (reachV s v) ∧ Below w.heap.size w w' := by
  obtain ⟨i0, hi, hz, hss, hbb⟩ := info_parts iInfo
  obtain ⟨b, hb⟩ : ∃ b, w.heap.size = b := ⟨_, rfl⟩
  obtain ⟨W, hW⟩ : ∃ W, w.alloc (.cells #[.slice s.pA s.pn s.pc, .slice s.rA s.rn s.rc] 25) = W := ⟨_, rfl⟩
  have c1 : Below w.heap.size w W := hW ▸ (Below.refl _ w).alloc (Nat.le_refl _) _
  have g1 : W.heap[b]? = some (.cells #[.slice s.pA s.pn s.pc, .slice s.rA s.rn s.rc] 25 (0, 0)) := by rw [← hW, ← hb]; exact World.alloc_heap_new _ _
  have HPs : Hid (∀ W', Below W.heap.size W W' → PsIn s W' W'.heap.size) := fun W' h => hps.later (c1.trans (h.mono c1.size))
  have HC1 := hidp c1
  have HG1 := hidp g1
  have HSm := hidp hsm
  have HT := hidp hT
  have HRn := hidp hps.roots.1
  have HPn : Hid (s.pn = s.gs.length) := hps.pages.1
  have hrc := hps.roots.2.1
  have hrc2 := hps.roots.2.2.1
  have hpc := hps.pages.2.1
  have hpc2 := hps.pages.2.2.1
  clear hps c1 g1 hsm hT
  have HNn := hidp hN
  clear hN
  have x0 := cell_of_heap (o := 0) (HG1.out)
  have x1 := cell_of_heap (o := 1) (HG1.out)
  have x2 := lt_of_heap (HG1.out)
  simp only [List.getElem?_toArray, List.getElem?_cons_zero, List.getElem?_cons_succ] at x0 x1
  go_enter Try.func22, Try.ntmps22
  go_wp2_with fail
  clear hb hW
  refine (r47Check_any s W (HPs.out W (Below.refl _ _)) HSm.out HT.out).mono ?_
  rintro e w1 ⟨rfl, hb1⟩
  obtain ⟨ck, hck⟩ : ∃ b, checkP (psV s) s.roots = b := ⟨_, rfl⟩
  have HCk := hidp hck
  rw [hck]
  have HB1 := hidp hb1
  have HG2 := hidp ((hb1.block _ x2).trans HG1.out)
  clear x0 x1 x2 hck hb1
  have x0 := cell_of_heap (o := 0) (HG2.out)
  have x1 := cell_of_heap (o := 1) (HG2.out)
  have x2 := lt_of_heap (HG2.out)
  simp only [List.getElem?_toArray, List.getElem?_cons_zero, List.getElem?_cons_succ] at x0 x1
  have HNil : Hid (∀ W : World, iSl W W.heap.size none 0 0 ([] : List Int)) := fun W => Rows.nil (by show (0 : Nat) ≤ _; omega)
  cases ck
  · have HV : Hid (verOk s v = false) := by show _ = _; unfold verOk; rw [HCk.out]; rfl
    have HA : Hid (reachV s v = []) := by show _ = _; unfold reachV; rw [HV.out]; rfl
    rw [show errP false = 470 from rfl]
    go_wp2_with fail
    go_ret2
    exact ⟨none, 0, 0, by rw [HV.out]; rfl, by rw [HA.out]; exact HNil.out _, HC1.out.trans (HB1.out.mono HC1.out.size)⟩
  rw [show errP true = 0 from rfl]
  by_cases hv0 : v < 0
  · have HV : Hid (verOk s v = false) := by show _ = _; unfold verOk; rw [decide_eq_false (p := 0 ≤ v) (by omega)]; simp
    have HA : Hid (reachV s v = []) := by show _ = _; unfold reachV; rw [HV.out]; rfl
    go_wp2_with fail
    go_ret2
    exact ⟨none, 0, 0, by rw [HV.out]; rfl, by rw [HA.out]; exact HNil.out _, HC1.out.trans (HB1.out.mono HC1.out.size)⟩
  obtain ⟨n, hn⟩ : ∃ n : Nat, v = n := ⟨v.toNat, by omega⟩
  subst hn
  by_cases hvn : s.rn ≤ n
  · have hvn' : (s.rn : Int) ≤ n := by omega
    have HV : Hid (verOk s (n : Int) = false) := by
      show _ = _
      unfold verOk
      rw [decide_eq_false (p := (n : Int) < (s.roots.length : Int)) (by have := HRn.out; omega)]; simp
    have HA : Hid (reachV s (n : Int) = []) := by show _ = _; unfold reachV; rw [HV.out]; rfl
    clear hvn
    go_wp2_with fail
    go_ret2
    exact ⟨none, 0, 0, by rw [HV.out]; rfl, by rw [HA.out]; exact HNil.out _, HC1.out.trans (HB1.out.mono HC1.out.size)⟩
  have hvn' : ¬ ((s.rn : Int) ≤ n) := by omega
  have HV : Hid (verOk s (n : Int) = true) := by
    show _ = _
    unfold verOk
    rw [HCk.out, decide_eq_true (p := (0 : Int) ≤ (n : Int)) (by omega), decide_eq_true (p := (n : Int) < (s.roots.length : Int)) (by have := HRn.out; omega)]; rfl
  have hnr : n < s.rn := by omega
  obtain ⟨rb, ro, z, hrA, hrb, hz, q0⟩ := iSl.get (HPs.out w1 HB1.out).roots hnr
  have hixr := fun W => ix_intsP (c := s.rc) hrA hnr W
  have lq := lt_of_cell q0
  obtain ⟨h0, d, hG⟩ := (checkP_iff.1 HCk.out).2 z (List.mem_of_getElem? hz)
  obtain ⟨q, hq⟩ : ∃ q : Nat, z = q := ⟨z.toNat, by omega⟩
  subst hq
  rw [Int.toNat_natCast] at hG
  have HGd := hidp hG
  have hqn : q < s.pn := by have := hG.1.lt; rw [psV_len] at this; have := HPn.out; omega
  have HRv : Hid (reachV s (n : Int) = reachL (psV s) q) := by
    show _ = _
    obtain ⟨r2, d2, e1, _, _, e2⟩ := reachB_good (v := n) (by rw [← verOk_eq]; exact HV.out)
    rw [hz] at e1
    have e3 : (q : Int) = r2 := Option.some.inj e1
    rw [reachV_eq, e2, ← e3, Int.toNat_natCast]
  obtain ⟨W2, hmk, ow, hbm⟩ := made_ownP w1 w1.heap.size s.pn (by have := HPn.out; have := HNn.out; omega) (Nat.le_refl _)
  obtain ⟨B, hB⟩ : ∃ B, w1.heap.size = B := ⟨_, rfl⟩
  have HBz : Hid (w1.heap.size ≤ B ∧ rb < B) := ⟨by omega, by omega⟩
  rw [hB] at hmk ow
  have HM0 : Hid (MkB s.pn B (List.replicate s.pn false) w1 W2) := ⟨ow, hbm⟩
  have HM1 : Hid (MkB s.pn B ((List.replicate s.pn false).set q true) w1 (W2.setCell ⟨B, q, none⟩ (.bool true))) := HM0.out.set HBz.out.1 (b0 := false) (by rw [List.getElem?_replicate, if_pos hqn])
  have HMk1 : Hid (Mk (psV s) q s.pn ((List.replicate s.pn false).set q true)) := by
    have h := Mk.start HGd.out.1
    rw [psV_len, ← HPn.out] at h
    exact h
  obtain ⟨mc0, mc1, mc2⟩ := HM0.out.cell (i := q) (b0 := false) (by rw [List.getElem?_replicate, if_pos hqn])
  have hixb := fun W => ix_boolsP (c := s.pn) (b := B) (off := 0) hqn W
  simp only [Nat.zero_add] at hixb
  have HGm := hidp ((hbm.block _ x2).trans HG2.out)
  have y0 := cell_of_heap (o := 0) HGm.out
  have y1 := cell_of_heap (o := 1) HGm.out
  have y2 := lt_of_heap HGm.out
  simp only [List.getElem?_toArray, List.getElem?_cons_zero, List.getElem?_cons_succ] at y0 y1
  have q1 := ((bcell hbm).1 rb (ro + n) lq).trans q0
  have lq1 := lt_of_cell q1
  have hwl : IntKind.i64.wrap ((s.pn : Int) - 1) = (s.pn : Int) - 1 := IntWalk.i64_in _ (by omega)
  clear hz hrA hG h0 hvn hv0 ow hbm hrb
  go_wp2_with fail
  clear hmk x0 x1 x2 y0 y1 y2 q0 q1 lq lq1 mc0 mc1 mc2 hixb hixr hB hwl
  have HBe : Hid (b < B) := by
    have := lt_of_heap HG2.out
    have := HBz.out.1
    show _ < _
    omega
  go_loopw [8, 9] (fun s8 s9 wr => ∃ (m : Nat) (z8 : Int) (bs : List Bool) (v9 : Value), m ≤ s.pn ∧ s8 = .int .i64 z8 ∧ v9 = s9 ∧ Hid (z8 = (m : Int) - 1) ∧ MkB s.pn B bs w1 wr ∧ Mk (psV s) q m bs) (fun s8 _ _ => (intOf s8 + 1).toNat)
  case atStart => exact ⟨s.pn, _, _, _, by omega, rfl, rfl, rfl, HM1.out, HMk1.out⟩
  case round =>
  obtain ⟨m, z8, bs, v9, hm, rfl, rfl, HZ8, hmb, hmk⟩ := hrel
  have HMb := hidp hmb
  have HMk := hidp hmk
  clear hmb hmk
  by_cases hm0 : m = 0
  case neg =>
    obtain ⟨i, HI⟩ : ∃ i, Hid (m = i + 1) := ⟨m - 1, (by omega : m = m - 1 + 1)⟩
    have hiN : i < s.pn := by have := HI.out; omega
    obtain rfl : z8 = (i : Int) := by have := HZ8.out; have := HI.out; omega
    have hge : (0 : Int) ≤ (i : Int) := by omega
    have hwi : IntKind.i64.wrap ((i : Int) - 1) = (i : Int) - 1 := IntWalk.i64_in _ (by omega)
    have HMk' : Hid (Mk (psV s) q (i + 1) bs) := by have := HI.out; rw [← this]; exact HMk.out
    have hixb := fun W => ix_boolsP (c := s.pn) (b := B) (off := 0) hiN W
    simp only [Nat.zero_add] at hixb
    obtain ⟨b0, hb0⟩ : ∃ b0, bs[i]? = some b0 := ⟨_, List.getElem?_eq_getElem (by have := HMk.out.len; rw [psV_len] at this; have := HPn.out; omega)⟩
    have HB0 := hidp hb0
    clear hm0 hb0
    cases b0
    · go_wp2_with fail
      go_loopw [9] (fun s9 wu => s9 = .int .i64 0 ∧ MkB s.pn B bs w1 wu) (fun _ _ => 0)
      case atStart => exact ⟨rfl, HMb.out⟩
      case round =>
      obtain ⟨rfl, hmu⟩ := hrel
      rename World => wu
      have HMu := hidp hmu
      obtain ⟨mc0, mc1, -⟩ := hmu.cell HB0.out
      clear hmu
      go_wp2_with fail
      go_roundw
      case rel => exact ⟨i, _, bs, _, by omega, rfl, rfl, hidp rfl, HMu.out, HMk'.out.skip HB0.out⟩
      case measure => first | (simp [intOf]; done) | (simp [intOf]; omega)
    · obtain ⟨g, hg⟩ : ∃ g, s.gs[i]? = some g := ⟨_, List.getElem?_eq_getElem (by have := HPn.out; omega)⟩
      have HGg := hidp hg
      have HPage := hidp (HMk'.out.page HGd.out.1 HB0.out (psV_get hg))
      have HPgI : Hid (∀ W', Below w1.heap.size w1 W' → PgIn g W' w1.heap.size) := fun W' h => ((HPs.out w1 HB1.out).each g (List.mem_of_getElem? hg)).keep (Nat.le_refl _) h.block
      have hkc := (HPgI.out w1 (Below.refl _ _)).2.2.1
      have hkc2 := (HPgI.out w1 (Below.refl _ _)).2.2.2.1
      have HKn := hidp (HPgI.out w1 (Below.refl _ _)).2.1
      obtain ⟨pb, po, g', hpA, hpb, hg', e0, e1⟩ := pgSl.get (HPs.out w1 HB1.out).pages hiN
      obtain rfl : g = g' := Option.some.inj (hg.symm.trans hg')
      have hixp := fun W => ix_Pages (c := s.pc) hpA hiN W
      have HPc : Hid (∀ W', Below w1.heap.size w1 W' → W'.cell? ⟨pb, po + i * 2, none⟩ = some (.slice g.fA g.fn g.fc) ∧ W'.cell? ⟨pb, po + i * 2 + 1, none⟩ = some (.slice g.kA g.kn g.kc) ∧ pb < W'.heap.size) := fun W' h => ⟨((bcell h).1 pb _ hpb).trans e0, ((bcell h).1 pb _ hpb).trans e1, Nat.lt_of_lt_of_le hpb h.size⟩
      clear hg hg' hpA hpb e0 e1
      go_wp2_with fail
      go_loopw [9] (fun s9 wu => ∃ (k : Nat) (cs : List Bool), k ≤ g.kn ∧ s9 = .int .i64 k ∧ MkB s.pn B cs w1 wu ∧ Mk (psV s) q (i + 1) cs ∧ cs[i]? = some true ∧ ∀ kid ∈ g.kids.take k, cs[kid.toNat]? = some true) (fun s9 _ => g.kn - (intOf s9).toNat)
      case atStart => exact ⟨0, bs, by omega, rfl, HMb.out, HMk'.out, HB0.out, fun kid h => by simp at h⟩
      case round =>
      obtain ⟨k, cs, hk, rfl, hmu, hmku, hci, hck⟩ := hrel
      rename World => wu
      have HMu := hidp hmu
      have HMku := hidp hmku
      have HCi := hidp hci
      have HCk2 := hidp hck
      obtain ⟨mc0, mc1, -⟩ := hmu.cell hci
      obtain ⟨pc0, pc1, pc2⟩ := HPc.out wu hmu.below
      have HGu := hidp ((hmu.below.block _ (lt_of_heap HG2.out)).trans HG2.out)
      clear hmu hmku hci hck
      have x0 := cell_of_heap (o := 0) (HGu.out)
      have x1 := cell_of_heap (o := 1) (HGu.out)
      have x2 := lt_of_heap (HGu.out)
      simp only [List.getElem?_toArray, List.getElem?_cons_zero, List.getElem?_cons_succ] at x0 x1
      by_cases hkn : k < g.kn
      · have hd : decide ((k : Int) < (g.kn : Int)) = true := decide_eq_true (by omega)
        have hkn' : (k : Int) < g.kn := by omega
        obtain ⟨kb, ko, kid, hkA, hkb, hkid, d0⟩ := iSl.get (HPgI.out wu HMu.out.below).2 hkn
        have hixk := fun W => ix_intsP (c := g.kc) hkA hkn W
        have ld := lt_of_cell d0
        obtain ⟨hk0, hki⟩ := HPage.out kid (List.mem_of_getElem? hkid)
        obtain ⟨kq, hkq⟩ : ∃ x : Nat, kid = x := ⟨kid.toNat, by omega⟩
        subst hkq
        have hkqi : kq < i := by omega
        have HKid := hidp hkid
        have hwk : IntKind.i64.wrap ((k : Int) + 1) = (k : Int) + 1 := IntWalk.i64_in _ (by omega)
        have hixb2 := fun W => ix_boolsP (c := s.pn) (b := B) (off := 0) (show kq < s.pn by omega) W
        simp only [Nat.zero_add] at hixb2
        obtain ⟨bk, hbk⟩ : ∃ b, cs[kq]? = some b := ⟨_, List.getElem?_eq_getElem (by have := HMku.out.len; rw [psV_len] at this; have := HPn.out; omega)⟩
        have HBk := hidp hbk
        clear hkA hkid hk0 hki hbk
        obtain ⟨mb0, mb1, mb2⟩ := HMu.out.cell HBk.out
        have HMs := hidp (HMu.out.set HBz.out.1 HBk.out)
        go_wp2_with fail
        go_roundw
        case rel =>
          refine ⟨k + 1, cs.set kq true, by omega, by go_num, HMs.out, HMku.out.mark HGd.out.1 HCi.out (psV_get HGg.out) (List.mem_of_getElem? HKid.out) hkqi, set_true (by have := (List.getElem?_eq_some_iff.1 HCi.out).1; omega) HCi.out, fun kid hkm => ?_⟩
          rw [take_snoc HKid.out] at hkm
          have hl : kq < cs.length := (List.getElem?_eq_some_iff.1 HBk.out).1
          rcases List.mem_append.1 hkm with h | h
          · exact set_true hl (HCk2.out kid h)
          · simp at h; subst h
            rw [Int.toNat_natCast, List.getElem?_set, if_pos rfl, if_pos hl]
        case measure => first | (simp [intOf]; done) | (simp [intOf]; omega)
      · have hd : decide ((k : Int) < (g.kn : Int)) = false := decide_eq_false (by omega)
        have HDone : Hid (Mk (psV s) q i cs) := HMku.out.done (psV_get HGg.out) (by
          have e : g.kids.take k = g.kids := List.take_of_length_le (by have := HKn.out; omega)
          rw [e] at HCk2
          exact HCk2.out)
        go_wp2_with fail
        go_roundw
        case rel => exact ⟨i, _, cs, _, by omega, rfl, rfl, hidp rfl, HMu.out, HDone.out⟩
        case measure => first | (simp [intOf]; done) | (simp [intOf]; omega)
  have hz8 : ¬ ((0 : Int) ≤ z8) := by have := HZ8.out; omega
  subst hm0
  have HMk0 := HMk
  have HAll : Hid (∀ j, j < s.pn → bs[j]? = some (decide ((j : Int) ∈ reachT (psV s) q))) := fun j hj => HMk0.out.all HGd.out.1 (by rw [psV_len]; have := HPn.out; omega)
  go_wp2_with fail
  have HBo : Hid (B < wr.heap.size) := (HMb.out.own.lt B rfl).2
  go_loopw [10, 11] (fun s10 s11 wu => ∃ (k : Nat) (v10 : Value), k ≤ s.pn ∧ s11 = .int .i64 k ∧ v10 = s10 ∧ wu.ownsRow wr.heap.size 3 1 v10 (outL (psV s) q k).length ((outL (psV s) q k).flatMap iEnc) ∧ Below wr.heap.size wr wu) (fun _ s11 _ => s.pn - (intOf s11).toNat)
  case atStart => exact ⟨0, _, by omega, rfl, rfl, own_emptyP wr wr.heap.size 1 3 (Nat.le_refl _), (Below.refl _ _).alloc (Nat.le_refl _) _⟩
  case round =>
  obtain ⟨k, v10, hk, rfl, rfl, hown, hbu⟩ := hrel
  rename World => wu
  have HMu := hidp (HMb.out.later hbu)
  by_cases hkn : k < s.pn
  case neg =>
    have hkn' : ¬ ((k : Int) < s.pn) := by omega
    obtain ⟨A, c, rfl, hr⟩ := own_rows iEnc_len (by decide) hown
    have HRr := hidp hr
    have HOl : Hid (outL (psV s) q k = reachV s (n : Int)) := by
      show _ = _
      rw [HRv.out, ← outL_all, psV_len, ← HPn.out]
      congr 1
      omega
    clear hown hr hbu
    go_wp2_with fail
    go_ret2
    refine ⟨A, _, c, by rw [HV.out]; rfl, by rw [← HOl.out]; exact HRr.out, ?_⟩
    have h1 := HB1.out.trans (HMu.out.below.mono HB1.out.size)
    exact HC1.out.trans (h1.mono HC1.out.size)
  have hkn' : (k : Int) < s.pn := by omega
  have hixb := fun W => ix_boolsP (c := s.pn) (b := B) (off := 0) hkn W
  simp only [Nat.zero_add] at hixb
  have hwk : IntKind.i64.wrap ((k : Int) + 1) = (k : Int) + 1 := IntWalk.i64_in _ (by omega)
  obtain ⟨mb, hmb⟩ : ∃ b, decide ((k : Int) ∈ reachT (psV s) q) = b := ⟨_, rfl⟩
  have hcell := HAll.out k hkn
  rw [hmb] at hcell
  obtain ⟨mc0, mc1, -⟩ := HMu.out.cell hcell
  have HSt : Hid (outL (psV s) q (k + 1) = outL (psV s) q k ++ (if mb = true then [(k : Int)] else [])) := by show _ = _; rw [outL_succ, hmb]
  have hol : (outL (psV s) q k).length ≤ 1000 := Nat.le_trans (outL_len _ _ _) (by have := HPn.out; have := HNn.out; omega)
  clear hmb hcell
  cases mb
  · have HOw := hidp hown
    have HBu := hidp hbu
    clear hown hbu
    go_wp2_with fail
    go_roundw
    case rel => exact ⟨k + 1, _, by omega, by go_num, rfl, by rw [HSt.out]; simpa using HOw.out, HBu.out⟩
    case measure => first | (simp [intOf]; done) | (simp [intOf]; omega)
  · obtain ⟨v5, w5', hrun, hown5, hg5, hat5⟩ := run_append_one (P := Try.prog) (ty := 23) (l := outL (psV s) q k) (enc := iEnc) (w := wu) (base := wr.heap.size) Try.underlying23 hi hz hss hbb rfl iEnc_len (by decide) iEnc_one hown (k : Int) (by omega) (by omega) hbu.size
    have hb5 : Below wr.heap.size wu w5' := ((Below.refl _ _).alloc hbu.size _).grown hg5 (by simp; exact Nat.le_trans hbu.size (by omega)) fun g hg => (hown.lt g hg).1
    have HR5 := hidp hrun
    have HO5 := hidp hown5
    have HB5 := hidp (hbu.trans hb5)
    obtain ⟨A9, c9, rfl, _⟩ := own_rows iEnc_len (by decide) hown
    clear hrun hown5 hg5 hat5 hown hbu hb5
    go_wp2_with (at_builtin; refine wpList_append_known rfl (.tmp 83) (.tmp 85) 23 rfl rfl rfl HR5.out ?_)
    go_roundw
    case rel => exact ⟨k + 1, _, by omega, by go_num, rfl, by rw [HSt.out]; simpa using HO5.out, HB5.out⟩
    case measure => first | (simp [intOf]; done) | (simp [intOf]; omega)
end Go.Proofs.Ytpnfpdkoeednhaa
