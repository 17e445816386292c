/- The reference's Keys walked. -/
import Derived.Test.YtoalmffhiinbbaaF19
import Derived.Test.YtoalmffhiinbbaaF8
import Derived.Test.YtoalmffhiinbbaaClip
namespace Go.Proofs.Ytoalmffhiinbbaa
open Go.RowKit Go.Shelf

/-- How many keys come before. -/
def befK (k : Ky) (ks : List Ky) : Nat := (ks.takeWhile fun x => x.lt k).length
theorem insK_eq : ∀ (k : Ky) (ks : List Ky), insK k ks = if ks[befK k ks]? = some k then ks else ks.take (befK k ks) ++ k :: ks.drop (befK k ks)
  | k, [] => by simp [insK, befK]
  | k, x :: l => by
    by_cases h : x.lt k = true
    · have hb : befK k (x :: l) = befK k l + 1 := by simp [befK, h]
      rw [insK, if_pos h, insK_eq k l, hb]
      by_cases h2 : l[befK k l]? = some k
      · simp [h2]
      · simp [h2]
    · have hb : befK k (x :: l) = 0 := by simp [befK, h]
      rw [insK, if_neg h, hb]
      by_cases h2 : x = k
      · simp [h2]
      · simp [h2]
theorem befK_le (k : Ky) (ks : List Ky) : befK k ks ≤ ks.length := (List.takeWhile_prefix _).length_le
theorem befK_at {k : Ky} {ks : List Ky} {j : Nat} (hj : ∀ i x, i < j → ks[i]? = some x → x.lt k = true) (he : ∀ x, ks[j]? = some x → x.lt k = false) (hl : j ≤ ks.length) : befK k ks = j := by
  induction ks generalizing j with
  | nil => simp at hl; simp [befK, hl]
  | cons y l ih =>
    cases j with
    | zero =>
      have := he y rfl
      simp [befK, this]
    | succ j =>
      have h0 := hj 0 y (by omega) rfl
      have := ih (j := j) (fun i x hi hx => hj (i + 1) x (by omega) (by simpa using hx)) (fun x hx => he x (by simpa using hx)) (by simpa using hl)
      simp only [befK] at this ⊢
      simp [h0, this]
theorem insK_len (k : Ky) (ks : List Ky) : (insK k ks).length ≤ ks.length + 1 := by
  rw [insK_eq]
  split
  · omega
  · have := befK_le k ks
    simp; omega
def keysTo (l : List Fc) (n : Nat) : List Ky := keysF (l.take n)
theorem keysTo_step {l : List Fc} {n : Nat} {x : Fc} (h : l[n]? = some x) : keysTo l (n + 1) = insK x.key (keysTo l n) := by
  rw [keysTo, take_snoc h, keysF, List.foldl_append]; rfl
theorem keysTo_len (l : List Fc) (n : Nat) : (keysTo l n).length ≤ n := by
  have : ∀ (l : List Fc) (a : List Ky), (l.foldl (fun s f => insK f.key s) a).length ≤ a.length + l.length := by
    intro l
    induction l with
    | nil => simp
    | cons x l ih =>
      intro a
      have h1 := ih (insK x.key a)
      have h2 := insK_len x.key a
      simp only [List.foldl_cons, List.length_cons]
      omega
  have h := this (l.take n) []
  rw [keysTo, keysF]
  simp at h ⊢
  omega
theorem insK_found {k : Ky} {ks : List Ky} {q : Nat} (hb : befK k ks = q) (hk : ks[q]? = some k) : insK k ks = ks := by rw [insK_eq, hb, if_pos hk]
theorem insK_new {k : Ky} {ks : List Ky} {q : Nat} (hb : befK k ks = q) (hk : ks[q]? ≠ some k) : insK k ks = ks.take q ++ (k :: ks.drop q) := by rw [insK_eq, hb, if_neg hk]
def KeysPost (l : List Fc) (w : World) (e : Ending) (w' : World) : Prop := ∃ A n c, e = .returned (.slice A n c) ∧ kSl w' w'.heap.size A n c (keysF l) ∧ Below w.heap.size w w'
def LtUp (ks : List Ky) (k : Ky) (q : Nat) : Prop := ∀ (i : Nat) (x : Ky), i < q → ks[i]? = some x → x.lt k = true
theorem LtUp.step {ks : List Ky} {k x : Ky} {q : Nat} (h : LtUp ks k q) (hx : ks[q]? = some x) (hl : x.lt k = true) : LtUp ks k (q + 1) := by
  intro i y hi hy
  rcases Nat.lt_or_ge i q with h1 | h1
  · exact h i y h1 hy
  · obtain rfl : i = q := by omega
    rw [hx] at hy; cases hy; exact hl

set_option maxRecDepth 100000 in
set_option maxHeartbeats 2000000 in
theorem rKeys_any (A : Option Addr) (n c : Nat) (l : List Fc) (w : World) (hl : fSl w w.heap.size A n c l) (hn : n ≤ 1000000) :
    Calls Try.prog 43 #[.slice A n c] w (KeysPost l w) := by
  obtain ⟨i0, hi, hz, hs, hbb⟩ := info_parts kInfo
  have HN := hidp hl.1
  have hcap := hl.2.2.1
  have hlen := hl.2.1
  have hB1 : Below w.heap.size w (w.alloc (.cells #[] 24)) := (Below.refl _ w).alloc (Nat.le_refl _) _
  have hr0 : kSl (w.alloc (.cells #[] 24)) (w.alloc (.cells #[] 24)).heap.size (some ⟨w.heap.size, 0, none⟩) 0 0 (keysTo l 0) := Rows.nil (by decide)
  have HB1 := hidp hB1
  have HR0 := hidp hr0
  clear hB1 hr0
  go_enter Try.func43, Try.ntmps43
  go_wp2_with fail
  go_loopw [3, 4, 5, 6] (fun o i _ _ wr => ∃ (k m c' : Nat) (A' : Option Addr), k ≤ n ∧ i = .int .i64 k ∧ o = .slice A' m c' ∧ kSl wr wr.heap.size A' m c' (keysTo l k) ∧ Below w.heap.size w wr) (fun _ i _ _ _ => n - (intOf i).toNat)
  case atStart => exact ⟨0, 0, 0, _, by omega, rfl, rfl, HR0.out, HB1.out⟩
  case round =>
    obtain ⟨k, m, c', A', hk, rfl, rfl, hks, hbe⟩ := hrel
    have hmk : m ≤ k := by have := keysTo_len l k; rw [← hks.1] at this; exact this
    have hcap2 := hks.2.2.1
    have hlen2 := hks.2.1
    have HM := hidp hks.1
    by_cases hlt : k < n
    · obtain ⟨b, off, x, rfl, hb, hzx, c0, c1, c2, c3, c4, c5, c6, c7⟩ := fSl.get (hl.below fStable hbe) hlt
      have HX := hidp hzx
      have HKT := hidp (keysTo_step hzx)
      clear hzx c0 c1 c2 c3 c4 c5 c6 c7
      have hkn : (k : Int) < n := by omega
      obtain ⟨ks, hkseq⟩ : ∃ ks, keysTo l k = ks := ⟨_, rfl⟩
      have HKS := hidp hkseq
      rw [hkseq] at hks
      clear hkseq
      go_wp2_with fail
      go_loopw [5] (fun j wr2 => ∃ q : Nat, q ≤ m ∧ j = .int .i64 q ∧ LtUp ks x.key q ∧ kSl wr2 wr2.heap.size A' m c' ks ∧ Below w.heap.size w wr2) (fun j _ => m - (intOf j).toNat)
      case atStart => exact ⟨0, by omega, rfl, fun i y h => by omega, hks, hbe⟩
      case round =>
        obtain ⟨q, hq, rfl, hup, hks2, hb2⟩ := hrel
        have HU := hidp hup
        clear hup hks
        by_cases hqm : q < m
        · obtain ⟨b2, off2, y, rfl, hb2', hzy, d0, d1, d2⟩ := kSl.get hks2 hqm
          have HY := hidp hzy
          obtain ⟨b3, off3, x3, he3, _, hx3, e0, e1, e2, e3, e4, e5, e6, e7⟩ := fSl.get (hl.below fStable hb2) hlt
          simp only [Option.some.injEq, Addr.mk.injEq, and_true] at he3
          obtain ⟨rfl, rfl⟩ := he3
          have hxx : x3 = x := by have := HX.out; rw [hx3] at this; exact Option.some.inj this
          rw [hxx] at e0 e1 e2
          clear hzy hx3 hxx e3 e4 e5 e6 e7
          have hl2 := lt_of_cell d0
          have hl3 := lt_of_cell e0
          have hqm' : (q : Int) < m := by omega
          have hqd : decide (q < m) = true := by simpa using hqm
          obtain ⟨z, hz0⟩ : ∃ z, y.lt x.key = z := ⟨_, rfl⟩
          have HZ := hidp hz0
          clear hz0
          go_wp2_with fail
          refine wp_region_below wr.heap.size (by kernel_rfl) (by kernel_rfl) ?_
          repeat
            first
            | go_big_quiet_skip
            | (refine q_step (by rfl) ?_
               apply Exists.intro
               refine ⟨fun w9 h9 => ?_, ?_⟩
               · have hc9 := (bcell h9).1
                 go_simp
                 first | done | rfl | exact calls_below h9 (Nat.le_refl _) (rLessKey_any y x.key w9)
               go_simp)
          refine wpQuiet_nil ?_
          intro w9 hb9
          have hb3 := hb2.trans (hb9.mono hb2.size)
          have hks3 := hks2.keep kStable hb9.size hb9.block
          clear d0 d1 d2 e0 e1 e2 hl2 hl3 hks2
          rw [HZ.out]
          cases z
          · have hbq : befK x.key ks = q := befK_at HU.out (fun y' hy' => by rw [HY.out] at hy'; cases hy'; exact HZ.out) (by rw [← HKS.out, ← HM.out]; exact hq)
            have HBq := hidp hbq
            obtain ⟨ze, hze⟩ : ∃ z, decide (y = x.key) = z := ⟨_, rfl⟩
            have HE := hidp hze
            have hqe := fun W => k_eql y x.key W
            rw [hze] at hqe
            clear hbq hze
            obtain ⟨b2, off2, y2, he2, _, hzy2, d0, d1, d2⟩ := kSl.get hks3 hqm
            simp only [Option.some.injEq, Addr.mk.injEq, and_true] at he2
            obtain ⟨rfl, rfl⟩ := he2
            have hyy : y2 = y := by have := HY.out; rw [hzy2] at this; exact Option.some.inj this
            rw [hyy] at d0 d1 d2
            obtain ⟨b3, off3, x3, he3, _, hx3, e0, e1, e2, e3, e4, e5, e6, e7⟩ := fSl.get (hl.below fStable hb3) hlt
            simp only [Option.some.injEq, Addr.mk.injEq, and_true] at he3
            obtain ⟨rfl, rfl⟩ := he3
            have hxx : x3 = x := by have := HX.out; rw [hx3] at this; exact Option.some.inj this
            rw [hxx] at e0 e1 e2
            clear hzy2 hyy hx3 hxx e3 e4 e5 e6 e7
            have hl2 := lt_of_cell d0
            have hl3 := lt_of_cell e0
            go_wp2_with fail
            refine wp_region_below w9.heap.size (by kernel_rfl) (by kernel_rfl) ?_
            repeat
              first
              | go_big_quiet_skip
              | (refine q_step (by rfl) ?_
                 apply Exists.intro
                 refine ⟨fun w8 h8 => ?_, ?_⟩
                 · have hc8 := (bcell h8).1
                   go_simp
                   first | done | rfl
                 go_simp)
            refine wpQuiet_nil ?_
            intro wt hbt
            have hbW := hb3.trans (hbt.mono hb3.size)
            have hksW := hks3.keep kStable hbt.size hbt.block
            clear d0 d1 d2 e0 e1 e2 hl2 hl3 hks3 hqe hqm' hqd
            cases ze
            · have HNe : Hid (ks[q]? ≠ some x.key) := by
                show _ ≠ _
                rw [HY.out]
                intro h
                have := HE.out
                rw [Option.some.inj h] at this
                simp at this
              have hcut := fun W => run_cut_low (P := Try.prog) W Try.underlying37 hi (some (⟨b2, off2, none⟩ : Addr)) m c' q .i64 (q : Int) rfl hq
              rw [hs] at hcut
              have hqc : q ≤ c' := by omega
              have hrc := hksW.cut (m := q) hq
              have hrt := hksW.take (m := q) hq
              generalize cutA (some (⟨b2, off2, none⟩ : Addr)) c' q 3 = A2 at hcut hrc
              have HXc : ∀ w9, Below wt.heap.size wt w9 → w9.cell? ⟨b, off + k * 8, none⟩ = some (.int .i64 x.key.kind) ∧ w9.cell? ⟨b, off + k * 8 + 1, none⟩ = some (.int .i64 x.key.subj) ∧ w9.cell? ⟨b, off + k * 8 + 2, none⟩ = some (.int .i64 x.key.obj) ∧ b < w9.heap.size := by
                intro w9 h9
                obtain ⟨b3, off3, x3, he3, _, hx3, e0, e1, e2, _⟩ := fSl.get (hl.below fStable (hbW.trans (h9.mono hbW.size))) hlt
                simp only [Option.some.injEq, Addr.mk.injEq, and_true] at he3
                obtain ⟨rfl, rfl⟩ := he3
                have hxx : x3 = x := by have := HX.out; rw [hx3] at this; exact Option.some.inj this
                rw [hxx] at e0 e1 e2
                exact ⟨e0, e1, e2, lt_of_cell e0⟩
              have HXC := hidp HXc
              clear HXc
              go_wp2_with fail
              refine wp_region_rel wt.heap.size (· == 9) (fun k => k == 5 || k == 9 || k == 10) (Nat.le_refl _) (by kernel_rfl) (by kernel_rfl) (by kernel_rfl) ?_
              try dsimp only [List.nil_append, List.cons_append]
              apply rel_det
              · skip
                intro w9 hw9
                refine relAt_wanted (by rfl) ?_
                obtain ⟨e0, e1, e2, e3⟩ := HXC.out w9 hw9
                go_simp
                exact ⟨Below.refl _ _, rfl⟩
              try dsimp only [List.nil_append, List.cons_append]
              apply rel_det
              · skip
                refine obl_skip (by kernel_rfl) ?_
                intro w9 hw9
                refine relAt_wanted (by rfl) ?_
                obtain ⟨e0, e1, e2, e3⟩ := HXC.out w9 hw9
                go_simp
                exact ⟨Below.refl _ _, rfl⟩
              try dsimp only [List.nil_append, List.cons_append]
              apply rel_det
              · skip
                refine obl_det (by kernel_rfl) ?_
                refine obl_det (by kernel_rfl) ?_
                intro w9 hw9
                refine relAt_wanted (by rfl) ?_
                obtain ⟨e0, e1, e2, e3⟩ := HXC.out w9 hw9
                go_simp
                exact ⟨Below.refl _ _, rfl⟩
              try dsimp only [List.nil_append, List.cons_append]
              apply rel_det
              · skip
                iterate 2 refine obl_skip (by kernel_rfl) ?_
                refine obl_det (by kernel_rfl) ?_
                intro w9 hw9
                refine relAt_wanted (by rfl) ?_
                obtain ⟨e0, e1, e2, e3⟩ := HXC.out w9 hw9
                go_simp
                exact ⟨Below.refl _ _, rfl⟩
              try dsimp only [List.nil_append, List.cons_append]
              apply rel_det
              · skip
                iterate 3 refine obl_skip (by kernel_rfl) ?_
                refine obl_det (by kernel_rfl) ?_
                intro w9 hw9
                refine relAt_wanted (by rfl) ?_
                obtain ⟨e0, e1, e2, e3⟩ := HXC.out w9 hw9
                go_simp
                exact ⟨Below.refl _ _, rfl⟩
              try dsimp only [List.nil_append, List.cons_append]
              refine rel_any (fun v w => w.ownsRow wt.heap.size 24 3 v 1 ([x.key].flatMap kEnc)) rfl (own_stable _ _ _ _ _) ?_ ?_
              · skip
                iterate 4 refine obl_skip (by kernel_rfl) ?_
                refine obl_det (by kernel_rfl) ?_
                intro w9 hw9
                refine relAt_cps (by rfl) fun T' hT' => ?_
                go_simp
                exact ⟨(Below.refl _ w9).alloc (Nat.le_refl _) _, hT' _ _ ⟨rfl, .inr ⟨w9.heap.size, 1, _, rfl, hw9.size, World.alloc_heap_new w9 _, Nat.le_refl _, by decide, rfl, rfl⟩⟩⟩
              try dsimp only [List.nil_append, List.cons_append]
              apply rel_det
              · skip
                iterate 6 refine obl_skip (by kernel_rfl) ?_
                intro w9 hw9
                refine relAt_wanted (by rfl) ?_
                obtain ⟨e0, e1, e2, e3⟩ := HXC.out w9 hw9
                go_simp
                exact ⟨Below.refl _ _, rfl⟩
              try dsimp only [List.nil_append, List.cons_append]
              apply rel_det
              · skip
                iterate 7 refine obl_skip (by kernel_rfl) ?_
                intro w9 hw9
                refine relAt_wanted (by rfl) ?_
                obtain ⟨e0, e1, e2, e3⟩ := HXC.out w9 hw9
                go_simp
                exact ⟨Below.refl _ _, rfl⟩
              try dsimp only [List.nil_append, List.cons_append]
              refine rel_det (x := .slice A2 (m - q) (c' - q)) ?_ ?_
              · skip
                iterate 6 refine obl_skip (by kernel_rfl) ?_
                refine obl_det (by kernel_rfl) ?_
                refine obl_det (by kernel_rfl) ?_
                intro w9 hw9
                refine relAt_wanted (by rfl) ?_
                go_simp
                exact ⟨Below.refl _ _, rfl⟩
              try dsimp only [List.nil_append, List.cons_append]
              refine rel_any (fun v w => w.ownsRow wt.heap.size 24 3 v (1 + (m - q)) (([x.key] ++ ks.drop q).flatMap kEnc)) rfl (own_stable _ _ _ _ _) ?_ ?_
              · skip
                iterate 5 refine obl_skip (by kernel_rfl) ?_
                refine obl_var (by kernel_rfl) fun _ => ?_
                iterate 2 refine obl_skip (by kernel_rfl) ?_
                refine obl_det (by kernel_rfl) ?_
                rintro w9 ⟨hw, hown⟩
                refine relAt_wanted (by rfl) ?_
                obtain ⟨v', w', hrun, hown', hg, hat⟩ := run_append_rows (P := Try.prog) (ty := 37) (enc := kEnc) Try.underlying37 hi hz hs hbb rfl kEnc_len (by decide) kEnc_one hown (hrc.keep kStable hw.size hw.block) (by omega) (by omega) hw.size
                exact relUpon_append (.tmp 53) (.tmp 56) 37 rfl rfl rfl hrun ((Below.refl _ w9).grown hg hw.size (fun g hg => (hown.lt g hg).1)) hown'
              try dsimp only [List.nil_append, List.cons_append]
              refine rel_any (fun v w => w.ownsRow wt.heap.size 24 3 v (1 + (m - q)) (([x.key] ++ ks.drop q).flatMap kEnc)) rfl (own_stable _ _ _ _ _) ?_ ?_
              · skip
                iterate 9 refine obl_skip (by kernel_rfl) ?_
                refine obl_var (by kernel_rfl) fun _ => ?_
                rintro w9 ⟨hw, hown⟩
                refine relAt_cps (by rfl) fun T' hT' => ?_
                go_simp
                exact ⟨Below.refl _ _, hT' _ _ hown⟩
              try dsimp only [List.nil_append, List.cons_append]
              iterate 10 refine fin_dead fun _ => ?_
              refine fin_var rfl fun v7 => ?_
              rintro w4 ⟨hb4, hown⟩
              go_frame
              obtain ⟨A4, c4, rfl, r4⟩ := own_rows kEnc_len (by decide) hown
              obtain ⟨v8, w8, hrun8, hown8, hb8⟩ := run_append_clip (P := Try.prog) (ty := 37) (enc := kEnc) Try.underlying37 hi hz hs hbb rfl kEnc_len (by decide) kEnc_one (hrt.keep kStable hb4.size hb4.block) r4 (by omega) (by omega) (by omega)
              have HR8 := hidp hrun8
              have HO8 := hidp hown8
              have hb48 := hbW.trans ((hb4.mono hbW.size).trans (hb8.mono (Nat.le_trans hbW.size hb4.size)))
              clear hown hrun8 hown8 HXC hcut
              obtain ⟨A9, c9, rfl, r9⟩ := own_rows kEnc_len (by decide) HO8.out
              go_wp2_with (at_builtin; refine wpList_append_known rfl (.tmp 61) (.tmp 62) 37 rfl rfl rfl HR8.out ?_)
              go_roundw
              case rel => exact ⟨k + 1, q + (1 + (m - q)), c9, A9, by omega, by go_num, rfl, by rw [HKT.out, HKS.out, insK_new HBq.out HNe.out]; exact r9, hb48⟩
              case measure => simp [intOf]; omega
            · have HF : Hid (ks[q]? = some x.key) := by
                show _ = _
                rw [HY.out]
                have := HE.out
                simp at this
                rw [this]
              go_wp2_with fail
              go_roundw
              case rel => exact ⟨k + 1, m, c', _, by omega, by go_num, rfl, by rw [HKT.out, HKS.out, insK_found HBq.out HF.out]; exact hksW, hbW⟩
              case measure => simp [intOf]; omega
          · go_wp2_with fail
            go_roundw
            case rel => exact ⟨q + 1, by omega, by go_num, HU.out.step HY.out HZ.out, hks3, hb3⟩
            case measure => simp [intOf]; omega
        · obtain rfl : q = m := by omega
          have hkl : ks.length = q := by rw [← HKS.out, ← HM.out]
          have hbq : befK x.key ks = q := befK_at HU.out (fun y hy => by rw [List.getElem?_eq_none (by omega)] at hy; cases hy) (by omega)
          have HBq := hidp hbq
          have HNe : Hid (ks[q]? ≠ some x.key) := by
            show _ ≠ _
            rw [List.getElem?_eq_none (by omega)]
            intro h; cases h
          clear hbq hkl
          go_wp2_with fail
          go_quiet (fail)
          have hbA := below_drewN hb2 nq
          have hkA : kSl (wr.drewN nq) (wr.drewN nq).heap.size A' q c' ks := hks2.keep kStable (Nat.le_refl _) (fun _ _ => rfl)
          generalize wr.drewN nq = wA at hbA hkA ⊢
          go_wp2_with fail
          go_quiet (fail)
          have hbW := below_drewN hbA nq
          have hksW : kSl (wA.drewN nq) (wA.drewN nq).heap.size A' q c' ks := hkA.keep kStable (Nat.le_refl _) (fun _ _ => rfl)
          generalize wA.drewN nq = WW at hbW hksW ⊢
          have hcut := fun W => run_cut_low (P := Try.prog) W Try.underlying37 hi (A') q c' q .i64 (q : Int) rfl hq
          rw [hs] at hcut
          have hqc : q ≤ c' := by omega
          have hrc := hksW.cut (m := q) hq
          have hrt := hksW.take (m := q) hq
          generalize cutA (A') c' q 3 = A2 at hcut hrc
          have HXc : ∀ w9, Below WW.heap.size WW w9 → w9.cell? ⟨b, off + k * 8, none⟩ = some (.int .i64 x.key.kind) ∧ w9.cell? ⟨b, off + k * 8 + 1, none⟩ = some (.int .i64 x.key.subj) ∧ w9.cell? ⟨b, off + k * 8 + 2, none⟩ = some (.int .i64 x.key.obj) ∧ b < w9.heap.size := by
            intro w9 h9
            obtain ⟨b3, off3, x3, he3, _, hx3, e0, e1, e2, _⟩ := fSl.get (hl.below fStable (hbW.trans (h9.mono hbW.size))) hlt
            simp only [Option.some.injEq, Addr.mk.injEq, and_true] at he3
            obtain ⟨rfl, rfl⟩ := he3
            have hxx : x3 = x := by have := HX.out; rw [hx3] at this; exact Option.some.inj this
            rw [hxx] at e0 e1 e2
            exact ⟨e0, e1, e2, lt_of_cell e0⟩
          have HXC := hidp HXc
          clear HXc
          go_wp2_with fail
          refine wp_region_rel WW.heap.size (· == 9) (fun k => k == 5 || k == 9 || k == 10) (Nat.le_refl _) (by kernel_rfl) (by kernel_rfl) (by kernel_rfl) ?_
          try dsimp only [List.nil_append, List.cons_append]
          apply rel_det
          · skip
            intro w9 hw9
            refine relAt_wanted (by rfl) ?_
            obtain ⟨e0, e1, e2, e3⟩ := HXC.out w9 hw9
            go_simp
            exact ⟨Below.refl _ _, rfl⟩
          try dsimp only [List.nil_append, List.cons_append]
          apply rel_det
          · skip
            refine obl_skip (by kernel_rfl) ?_
            intro w9 hw9
            refine relAt_wanted (by rfl) ?_
            obtain ⟨e0, e1, e2, e3⟩ := HXC.out w9 hw9
            go_simp
            exact ⟨Below.refl _ _, rfl⟩
          try dsimp only [List.nil_append, List.cons_append]
          apply rel_det
          · skip
            refine obl_det (by kernel_rfl) ?_
            refine obl_det (by kernel_rfl) ?_
            intro w9 hw9
            refine relAt_wanted (by rfl) ?_
            obtain ⟨e0, e1, e2, e3⟩ := HXC.out w9 hw9
            go_simp
            exact ⟨Below.refl _ _, rfl⟩
          try dsimp only [List.nil_append, List.cons_append]
          apply rel_det
          · skip
            iterate 2 refine obl_skip (by kernel_rfl) ?_
            refine obl_det (by kernel_rfl) ?_
            intro w9 hw9
            refine relAt_wanted (by rfl) ?_
            obtain ⟨e0, e1, e2, e3⟩ := HXC.out w9 hw9
            go_simp
            exact ⟨Below.refl _ _, rfl⟩
          try dsimp only [List.nil_append, List.cons_append]
          apply rel_det
          · skip
            iterate 3 refine obl_skip (by kernel_rfl) ?_
            refine obl_det (by kernel_rfl) ?_
            intro w9 hw9
            refine relAt_wanted (by rfl) ?_
            obtain ⟨e0, e1, e2, e3⟩ := HXC.out w9 hw9
            go_simp
            exact ⟨Below.refl _ _, rfl⟩
          try dsimp only [List.nil_append, List.cons_append]
          refine rel_any (fun v w => w.ownsRow WW.heap.size 24 3 v 1 ([x.key].flatMap kEnc)) rfl (own_stable _ _ _ _ _) ?_ ?_
          · skip
            iterate 4 refine obl_skip (by kernel_rfl) ?_
            refine obl_det (by kernel_rfl) ?_
            intro w9 hw9
            refine relAt_cps (by rfl) fun T' hT' => ?_
            go_simp
            exact ⟨(Below.refl _ w9).alloc (Nat.le_refl _) _, hT' _ _ ⟨rfl, .inr ⟨w9.heap.size, 1, _, rfl, hw9.size, World.alloc_heap_new w9 _, Nat.le_refl _, by decide, rfl, rfl⟩⟩⟩
          try dsimp only [List.nil_append, List.cons_append]
          apply rel_det
          · skip
            iterate 6 refine obl_skip (by kernel_rfl) ?_
            intro w9 hw9
            refine relAt_wanted (by rfl) ?_
            obtain ⟨e0, e1, e2, e3⟩ := HXC.out w9 hw9
            go_simp
            exact ⟨Below.refl _ _, rfl⟩
          try dsimp only [List.nil_append, List.cons_append]
          apply rel_det
          · skip
            iterate 7 refine obl_skip (by kernel_rfl) ?_
            intro w9 hw9
            refine relAt_wanted (by rfl) ?_
            obtain ⟨e0, e1, e2, e3⟩ := HXC.out w9 hw9
            go_simp
            exact ⟨Below.refl _ _, rfl⟩
          try dsimp only [List.nil_append, List.cons_append]
          refine rel_det (x := .slice A2 (q - q) (c' - q)) ?_ ?_
          · skip
            iterate 6 refine obl_skip (by kernel_rfl) ?_
            refine obl_det (by kernel_rfl) ?_
            refine obl_det (by kernel_rfl) ?_
            intro w9 hw9
            refine relAt_wanted (by rfl) ?_
            go_simp
            exact ⟨Below.refl _ _, rfl⟩
          try dsimp only [List.nil_append, List.cons_append]
          refine rel_any (fun v w => w.ownsRow WW.heap.size 24 3 v (1 + (q - q)) (([x.key] ++ ks.drop q).flatMap kEnc)) rfl (own_stable _ _ _ _ _) ?_ ?_
          · skip
            iterate 5 refine obl_skip (by kernel_rfl) ?_
            refine obl_var (by kernel_rfl) fun _ => ?_
            iterate 2 refine obl_skip (by kernel_rfl) ?_
            refine obl_det (by kernel_rfl) ?_
            rintro w9 ⟨hw, hown⟩
            refine relAt_wanted (by rfl) ?_
            obtain ⟨v', w', hrun, hown', hg, hat⟩ := run_append_rows (P := Try.prog) (ty := 37) (enc := kEnc) Try.underlying37 hi hz hs hbb rfl kEnc_len (by decide) kEnc_one hown (hrc.keep kStable hw.size hw.block) (by omega) (by omega) hw.size
            exact relUpon_append (.tmp 53) (.tmp 56) 37 rfl rfl rfl hrun ((Below.refl _ w9).grown hg hw.size (fun g hg => (hown.lt g hg).1)) hown'
          try dsimp only [List.nil_append, List.cons_append]
          refine rel_any (fun v w => w.ownsRow WW.heap.size 24 3 v (1 + (q - q)) (([x.key] ++ ks.drop q).flatMap kEnc)) rfl (own_stable _ _ _ _ _) ?_ ?_
          · skip
            iterate 9 refine obl_skip (by kernel_rfl) ?_
            refine obl_var (by kernel_rfl) fun _ => ?_
            rintro w9 ⟨hw, hown⟩
            refine relAt_cps (by rfl) fun T' hT' => ?_
            go_simp
            exact ⟨Below.refl _ _, hT' _ _ hown⟩
          try dsimp only [List.nil_append, List.cons_append]
          iterate 10 refine fin_dead fun _ => ?_
          refine fin_var rfl fun v7 => ?_
          rintro w4 ⟨hb4, hown⟩
          go_frame
          obtain ⟨A4, c4, rfl, r4⟩ := own_rows kEnc_len (by decide) hown
          obtain ⟨v8, w8, hrun8, hown8, hb8⟩ := run_append_clip (P := Try.prog) (ty := 37) (enc := kEnc) Try.underlying37 hi hz hs hbb rfl kEnc_len (by decide) kEnc_one (hrt.keep kStable hb4.size hb4.block) r4 (by omega) (by omega) (by omega)
          have HR8 := hidp hrun8
          have HO8 := hidp hown8
          have hb48 := hbW.trans ((hb4.mono hbW.size).trans (hb8.mono (Nat.le_trans hbW.size hb4.size)))
          clear hown hrun8 hown8 HXC hcut
          obtain ⟨A9, c9, rfl, r9⟩ := own_rows kEnc_len (by decide) HO8.out
          go_wp2_with (at_builtin; refine wpList_append_known rfl (.tmp 61) (.tmp 62) 37 rfl rfl rfl HR8.out ?_)
          go_roundw
          case rel => exact ⟨k + 1, q + 1, c9, A9, by omega, by go_num, rfl, by rw [HKT.out, HKS.out, insK_new HBq.out HNe.out]; exact (show q + (1 + (q - q)) = q + 1 by omega) ▸ r9, hb48⟩
          case measure => simp [intOf]; omega
    · obtain rfl : k = n := by omega
      have HT : Hid (l.take k = l) := List.take_of_length_le (by rw [← HN.out]; omega)
      go_wp2_with fail
      go_ret
      exact ⟨A', m, c', rfl, by have := hks; rw [keysTo, HT.out] at this; exact this, hbe⟩
end Go.Proofs.Ytoalmffhiinbbaa
