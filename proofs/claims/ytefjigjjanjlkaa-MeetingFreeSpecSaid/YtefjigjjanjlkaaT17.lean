import Derived.Test.YtefjigjjanjlkaaT14
import Derived.Test.YtefjigjjanjlkaaRel
namespace Go.Proofs.Ytefjigjjanjlkaa
open Go.RowKit Go.Shelf

theorem pairs_any_iff (zs : List Mt) (p : Mt × Mt → Bool) : (pairsTo zs zs.length).any p = true ↔ ∃ (i j : Nat) (x y : Mt), i < j ∧ zs[i]? = some x ∧ zs[j]? = some y ∧ p (x, y) = true := by
  rw [List.any_eq_true]
  constructor
  · rintro ⟨q, hq, hp⟩
    obtain ⟨i, hi, hm⟩ := List.mem_flatMap.1 hq
    split at hm
    · rename_i m hm'
      obtain ⟨x, hx, rfl⟩ := List.mem_map.1 hm
      obtain ⟨j, hj⟩ := List.mem_iff_getElem?.1 hx
      rw [List.getElem?_drop] at hj
      exact ⟨i, _, m, x, by omega, hm', hj, hp⟩
    · simp at hm
  · rintro ⟨i, j, x, y, hij, hx, hy, hp⟩
    refine ⟨(x, y), List.mem_flatMap.2 ⟨i, List.mem_range.2 (List.getElem?_eq_some_iff.1 hx).1, ?_⟩, hp⟩
    rw [hx]
    refine List.mem_map.2 ⟨y, List.mem_iff_getElem?.2 ⟨j - (i + 1), ?_⟩, rfl⟩
    rw [List.getElem?_drop, show i + 1 + (j - (i + 1)) = j by omega]
    exact hy
theorem pairs_any_snoc (l : List Mt) (m : Mt) (p : Mt × Mt → Bool) : (pairsTo (l ++ [m]) (l ++ [m]).length).any p = ((pairsTo l l.length).any p || l.any fun x => p (x, m)) := by
  rw [Bool.eq_iff_iff, Bool.or_eq_true, pairs_any_iff, pairs_any_iff, List.any_eq_true]
  constructor
  · rintro ⟨i, j, x, y, hij, hx, hy, hp⟩
    have hj := (List.getElem?_eq_some_iff.1 hy).1
    simp at hj
    rcases Nat.lt_or_ge j l.length with h | h
    · rw [List.getElem?_append_left (by omega)] at hx hy
      exact .inl ⟨i, j, x, y, hij, hx, hy, hp⟩
    · obtain rfl : j = l.length := by omega
      simp at hy
      subst hy
      rw [List.getElem?_append_left (by omega)] at hx
      exact .inr ⟨x, List.mem_of_getElem? hx, hp⟩
  · rintro (⟨i, j, x, y, hij, hx, hy, hp⟩ | ⟨x, hx, hp⟩)
    · have h1 := (List.getElem?_eq_some_iff.1 hx).1
      have h2 := (List.getElem?_eq_some_iff.1 hy).1
      exact ⟨i, j, x, y, hij, by rw [List.getElem?_append_left h1]; exact hx, by rw [List.getElem?_append_left h2]; exact hy, hp⟩
    · obtain ⟨i, hi⟩ := List.mem_iff_getElem?.1 hx
      have h1 := (List.getElem?_eq_some_iff.1 hi).1
      exact ⟨i, l.length, x, m, h1, by rw [List.getElem?_append_left h1]; exact hi, by simp, hp⟩
theorem checkM_one (m : Mt) : checkM [m] = if m.ok = true then 0 else 220 := by
  have : (pairsTo [m] [m].length).any Mt.ovP = false := by
    simp [pairsTo]
  unfold checkM
  rw [this]
  cases h : m.ok <;> simp [h]
theorem checkM_snoc (l : List Mt) (m : Mt) (h : checkM l = 0) (hl : l.length < 16) : checkM (l ++ [m]) = if m.ok = true ∧ clashB l [m] = false then 0 else 220 := by
  rcases checkM_cases l with h' | ⟨_, _, hall, hp⟩
  · omega
  have hc : clashB l [m] = l.any fun x => Mt.ovP (x, m) := by simp [clashB]
  rw [checkM, pairs_any_snoc, hp, hc, List.all_append, hall]
  have : ¬ 16 < (l ++ [m]).length := by simp; omega
  cases h1 : m.ok <;> cases h2 : l.any fun x => Mt.ovP (x, m) <;> simp_all

def AddCalls : Prop := ∀ (A : Option Addr) (n c : Nat) (l : List Mt) (m : Mt) (w : World), MSl w w.heap.size A n c l →
    Calls Try.prog 8 #[.slice A n c, .agg (mEnc m).toArray] w fun e w' => e = .returned (.bool true) ∧ Below w.heap.size w w'

set_option maxRecDepth 100000 in
set_option maxHeartbeats 1000000 in
/-- 'few' of one list. -/
theorem few1 (A : Option Addr) (n ca : Nat) (w : World) (hn : n ≤ 9223372036854775807) :
    Calls Try.prog 10 #[.slice (some ⟨w.heap.size, 0, none⟩) 1 1] (w.alloc (.cells #[.slice A n ca] 22)) fun e w' => e = .returned (.bool (decide (n ≤ 20))) ∧ Below w.heap.size w w' := by
  have hnew := World.alloc_heap_new w (.cells #[.slice A n ca] 22)
  refine (few_any (some ⟨w.heap.size, 0, none⟩) 1 1 [n] _ ⟨rfl, Nat.le_refl _, by decide, fun _ => ⟨w.heap.size, 0, rfl, by simp, fun i x hi => ?_⟩⟩).mono ?_
  · match i, hi with
    | 0, h => simp at h; subst h; exact ⟨_, ⟨hn, A, ca, rfl⟩, fun j u hj => by rw [cell_of_heap hnew]; match j, hj with | 0, h => simpa using h⟩
  · rintro e w' ⟨rfl, hb⟩
    exact ⟨by simp, ((Below.refl _ w).alloc (Nat.le_refl _) _).trans (hb.mono (by simp))⟩

set_option maxRecDepth 100000 in
set_option maxHeartbeats 4000000 in
theorem add_calls : AddCalls := by
  intro A n c l m w hl
  obtain ⟨i0, hi, hz, hs, hbb⟩ := info_parts mtInfo
  have hn := hl.2.1
  have hc := hl.2.2.1
  have HN := hidp hl.1
  go_enter Try.func8, Try.ntmps8
  go_wp2_with fail
  refine (sane_any _).mono ?_
  rintro e w1 ⟨rfl, hb1⟩
  have hbox := (hb1.block _ (by simp)).trans (World.alloc_heap_new w (.cells (mEnc m).toArray 38))
  have hB1 : Below w.heap.size w w1 := ((Below.refl _ w).alloc (Nat.le_refl _) _).trans (hb1.mono (by simp))
  go_wp2_with fail
  refine (few1 A n c w1 (by omega)).mono ?_
  rintro e w2 ⟨rfl, hb2⟩
  have hB2 := hB1.trans (hb2.mono hB1.size)
  have hbox2 := (hb2.block _ (lt_of_heap hbox)).trans hbox
  have HB2 := hidp hbox2
  clear hbox hbox2 hb1 hb2 hB1
  by_cases hfew : n ≤ 20
  · have HF := hidp (decide_eq_true hfew)
    rw [HF.out]
    have ra := hl.keep mStable hB2.size hB2.block
    clear hl
    go_wp2_with fail
    refine (check_any _ _ _ _ _ ra).mono ?_
    rintro e w3 ⟨rfl, hb3⟩
    have hB3 := hB2.trans (hb3.mono hB2.size)
    have hbox3 := (hb3.block _ (lt_of_heap HB2.out)).trans HB2.out
    have HB3 := hidp hbox3
    have ra3 := ra.keep mStable hb3.size hb3.block
    clear hbox3 hb3 ra HB2
    rcases checkM_cases l with hcl | ⟨hcl, _⟩
    · rw [hcl]
      have HC := hidp hcl
      clear hcl
      go_wp2_with fail
      go_ret
      exact ⟨rfl, hB3⟩
    · rw [hcl]
      have HC := hidp hcl
      clear hcl
      by_cases h16 : 16 ≤ n
      · go_wp2_with fail
        go_ret
        exact ⟨rfl, hB3⟩
      · have hnew := World.alloc_heap_new w3 (.cells (mEnc m).toArray 38)
        have hbox4 := (Below.heap_alloc w3 (.cells (mEnc m).toArray 38) _ (lt_of_heap HB3.out)).trans HB3.out
        have H4 := hidp hbox4
        have HNew := hidp hnew
        have e0 := cell_of_heap (o := 0) HB3.out
        have e1 := cell_of_heap (o := 1) HB3.out
        have e2 := cell_of_heap (o := 2) HB3.out
        have e3 := cell_of_heap (o := 3) HB3.out
        have e4 := cell_of_heap (o := 4) HB3.out
        simp only [mEnc, List.getElem?_toArray, List.getElem?_cons_zero, List.getElem?_cons_succ] at e0 e1 e2 e3 e4
        clear hbox4 hnew
        go_wp2_with fail
        obtain ⟨wr, hwr⟩ : ∃ wr, wr = w3.alloc (.cells #[.int .i64 m.day, .int .i64 m.fr, .int .i64 m.to, .int .i64 m.first, .int .i64 m.last] 38) := ⟨_, rfl⟩
        have hBr : Below w.heap.size w wr := hwr ▸ hB3.alloc hB3.size _
        have rar : MSl wr wr.heap.size A n c l := hwr ▸ ra3.keep mStable (by simp) (fun b hb => Below.heap_alloc _ _ _ hb)
        have hboxr : wr.heap[w.heap.size]? = some (.cells (mEnc m).toArray 38 (0, 0)) := hwr ▸ H4.out
        have honer : wr.heap[w3.heap.size]? = some (.cells (mEnc m).toArray 38 (0, 0)) := hwr ▸ HNew.out
        rw [← hwr]
        clear hwr e0 e1 e2 e3 e4 H4 HNew HB3 ra3 hB3
        refine wp_region_rel wr.heap.size (· == 5) (fun _ => true) (Nat.le_refl _) (by kernel_rfl) (by kernel_rfl) (by kernel_rfl) ?_
        refine rel_any (fun v w => ∃ g, v = .slice (some ⟨g, 0, none⟩) 0 0 ∧ wr.heap.size ≤ g ∧ w.heap[g]? = some (.cells #[] 38 (0, 0))) rfl (fun v w w' hb ⟨g, hv, hg, hh⟩ => ⟨g, hv, hg, (hb.block g (lt_of_heap hh)).trans hh⟩) ?_ ?_
        · intro w9 hw
          refine relAt_cps (by rfl) fun T' hT' => ?_
          go_simp
          exact ⟨(Below.refl _ w9).alloc (Nat.le_refl _) _, hT' _ _ ⟨_, rfl, hw.size, World.alloc_heap_new w9 _⟩⟩
        apply rel_det
        · repeat (first | refine obl_skip (by rfl) ?_ | refine obl_det (by rfl) ?_ | refine obl_var (by rfl) fun _ => ?_)
          intro w9 hw9
          refine relAt_wanted (by rfl) ?_
          go_simp
          exact ⟨Below.refl _ _, rfl⟩
        refine rel_any (fun v w => w.ownsRow wr.heap.size 38 5 v n (l.flatMap mEnc)) rfl (own_stable _ _ _ _ _) ?_ ?_
        · repeat (first | refine obl_skip (by rfl) ?_ | refine obl_det (by rfl) ?_ | refine obl_var (by rfl) fun _ => ?_)
          rintro w9 ⟨hw, g, rfl, hg, hh⟩
          refine relAt_wanted (by rfl) ?_
          obtain ⟨v', w', hrun, hown', hb'⟩ := run_append_first (P := Try.prog) (ty := 22) (enc := mEnc) Try.underlying22 hi hz hs hbb rfl mEnc_len (by decide) hh hg (rar.keep mStable hw.size hw.block) (by omega) (by omega)
          exact relUpon_append (.tmp 33) (.tmp 34) 22 rfl rfl rfl hrun hb' hown'
        refine rel_det (x := .agg #[.int .i64 m.day, .int .i64 m.fr, .int .i64 m.to, .int .i64 m.first, .int .i64 m.last]) ?_ ?_
        · repeat (first | refine obl_skip (by rfl) ?_ | refine obl_det (by rfl) ?_ | refine obl_var (by rfl) fun _ => ?_)
          rintro w9 hw
          have hh := (hw.block _ (lt_of_heap hboxr)).trans hboxr
          have hl9 := lt_of_heap hh
          refine relAt_wanted (by rfl) ?_
          have e0 := cell_of_heap (o := 0) hh
          have e1 := cell_of_heap (o := 1) hh
          have e2 := cell_of_heap (o := 2) hh
          have e3 := cell_of_heap (o := 3) hh
          have e4 := cell_of_heap (o := 4) hh
          simp only [mEnc, List.getElem?_toArray, List.getElem?_cons_zero, List.getElem?_cons_succ] at e0 e1 e2 e3 e4
          go_simp
          exact ⟨Below.refl _ _, rfl⟩
        refine rel_any (fun v w => ∃ A c, v = .slice A 1 c ∧ MSl w w.heap.size A 1 c [m]) rfl (rows_stable mStable _ _) ?_ ?_
        · repeat (first | refine obl_skip (by rfl) ?_ | refine obl_det (by rfl) ?_ | refine obl_var (by rfl) fun _ => ?_)
          rintro w9 hw
          refine relAt_cps (by rfl) fun T' hT' => ?_
          go_simp
          exact ⟨(Below.refl _ w9).alloc (Nat.le_refl _) _, hT' _ _ ⟨_, _, rfl, rows_of_heap (l := [m]) mEnc_len (World.alloc_heap_new w9 _) (Nat.le_refl _) (by decide) rfl⟩⟩
        refine rel_any (fun v w => w.ownsRow wr.heap.size 38 5 v (n + 1) ((l ++ [m]).flatMap mEnc)) rfl (own_stable _ _ _ _ _) ?_ ?_
        · repeat (first | refine obl_skip (by rfl) ?_ | refine obl_det (by rfl) ?_ | refine obl_var (by rfl) fun _ => ?_)
          rintro w9 ⟨⟨hw, hown⟩, A1, c1, rfl, hone⟩
          refine relAt_wanted (by rfl) ?_
          obtain ⟨v', w', hrun, hown', hg, hat⟩ := run_append_rows (P := Try.prog) (ty := 22) (enc := mEnc) Try.underlying22 hi hz hs hbb rfl mEnc_len (by decide) mEnc_one hown hone (by omega) (by omega) hw.size
          exact relUpon_append (.tmp 35) (.tmp 37) 22 rfl rfl rfl hrun ((Below.refl _ w9).grown hg hw.size (fun g hg => (hown.lt g hg).1)) hown'
        refine rel_any (fun v w => w.ownsRow wr.heap.size 38 5 v (n + 1) ((l ++ [m]).flatMap mEnc)) rfl (own_stable _ _ _ _ _) ?_ ?_
        · repeat (first | refine obl_skip (by rfl) ?_ | refine obl_det (by rfl) ?_ | refine obl_var (by rfl) fun _ => ?_)
          rintro w9 ⟨hw, hown⟩
          refine relAt_cps (by rfl) fun T' hT' => ?_
          go_simp
          exact ⟨Below.refl _ _, hT' _ _ hown⟩
        refine fin_dead fun v1 => fin_dead fun v2 => fin_dead fun v3 => fin_dead fun v4 => fin_dead fun v5 => fin_dead fun v6 => fin_var rfl fun v7 => ?_
        rintro w4 ⟨hb4, hown⟩
        obtain ⟨A4, c4, rfl, r4⟩ := own_rows mEnc_len (by decide) hown
        clear hown
        have rone : MSl wr wr.heap.size (some ⟨w3.heap.size, 0, none⟩) 1 1 [m] := rows_of_heap (l := [m]) mEnc_len honer (Nat.le_refl _) (by decide) rfl
        have r1 := rone.keep mStable hb4.size hb4.block
        have rl := rar.keep mStable hb4.size hb4.block
        have hB4 := hBr.trans (hb4.mono hBr.size)
        clear hb4 hBr rar rone hboxr honer
        have HLen : l.length < 16 := by rw [← HN.out]; omega
        have H1 := hidp (checkM_one m)
        have H2 := hidp (checkM_snoc l m HC.out HLen)
        have HE : Hid (clashE l [m] = checkM [m]) := by show _ = _; rw [clashE, HC.out]; rfl
        have HR : Hid (clashR l [m] = (decide (checkM [m] = 0) && clashB l [m])) := by show _ = _; rw [clashR, HE.out]
        clear HLen
        cases hok : m.ok
        · have G1 : Hid (checkM [m] = 220) := by show _ = _; rw [H1.out, hok]; rfl
          have G2 : Hid (checkM (l ++ [m]) = 220) := by show _ = _; rw [H2.out, hok]; rfl
          have G3 : Hid (clashR l [m] = false) := by show _ = _; rw [HR.out, G1.out]; rfl
          clear hok
          go_wp2_with fail
          refine (clash_any _ _ _ _ _ _ _ _ _ rl r1).mono ?_
          rintro e w5 ⟨rfl, hb5⟩
          rw [HE.out, G1.out, G3.out]
          go_wp2_with fail
          refine (check_any _ _ _ _ _ (r4.keep mStable hb5.size hb5.block)).mono ?_
          rintro e w6 ⟨rfl, hb6⟩
          rw [G2.out]
          have hb46 := hb5.trans (hb6.mono hb5.size)
          go_wp2_with fail
          refine (check_any _ _ _ _ _ (r1.keep mStable hb46.size hb46.block)).mono ?_
          rintro e w7 ⟨rfl, hb7⟩
          rw [G1.out]
          have hb47 := hb46.trans (hb7.mono hb46.size)
          go_wp2_with fail
          refine (check_any _ _ _ _ _ (r4.keep mStable hb47.size hb47.block)).mono ?_
          rintro e w8 ⟨rfl, hb8⟩
          rw [G2.out]
          go_wp2_with fail
          go_ret
          exact ⟨rfl, (hB4.trans (hb47.mono hB4.size)).trans (hb8.mono (Nat.le_trans hB4.size hb47.size))⟩
        · have G1 : Hid (checkM [m] = 0) := by show _ = _; rw [H1.out, hok]; rfl
          have HOK := hidp hok
          cases hz : clashB l [m]
          · have G2 : Hid (checkM (l ++ [m]) = 0) := by show _ = _; rw [H2.out, hok, hz]; rfl
            have G3 : Hid (clashR l [m] = false) := by show _ = _; rw [HR.out, G1.out, hz]; rfl
            clear hok hz
            go_wp2_with fail
            refine (clash_any _ _ _ _ _ _ _ _ _ rl r1).mono ?_
            rintro e w5 ⟨rfl, hb5⟩
            rw [HE.out, G1.out, G3.out]
            go_wp2_with fail
            refine (check_any _ _ _ _ _ (r4.keep mStable hb5.size hb5.block)).mono ?_
            rintro e w6 ⟨rfl, hb6⟩
            rw [G2.out]
            have hb46 := hb5.trans (hb6.mono hb5.size)
            go_wp2_with fail
            refine (check_any _ _ _ _ _ (r1.keep mStable hb46.size hb46.block)).mono ?_
            rintro e w7 ⟨rfl, hb7⟩
            rw [G1.out]
            have hb47 := hb46.trans (hb7.mono hb46.size)
            go_wp2_with fail
            refine (check_any _ _ _ _ _ (r4.keep mStable hb47.size hb47.block)).mono ?_
            rintro e w8 ⟨rfl, hb8⟩
            rw [G2.out]
            have hb48 := hb47.trans (hb8.mono hb47.size)
            clear hb5 hb6 hb7 hb8 hb46 hb47
            have B1 := minsM_bd l (by rcases checkM_cases l with h | ⟨_, _, h, _⟩; · rw [HC.out] at h; cases h
                                      · exact h)
            have B2 := minsM_bd [m] (by simp [HOK.out])
            have B3 := sum_snoc l m
            have B4 : minsM [m] = m.mins := by simp [minsM]
            rw [← B4] at B3
            have B5 : l.length = n := HN.out.symm
            have B6 : [m].length = 1 := rfl
            rw [B5] at B1
            rw [B6] at B2
            obtain ⟨x, hx⟩ : ∃ x, minsM l = x := ⟨_, rfl⟩
            obtain ⟨y, hy⟩ : ∃ y, minsM [m] = y := ⟨_, rfl⟩
            rw [hx, hy] at B3
            rw [hx] at B1
            rw [hy] at B2
            have HX := hidp hx
            have HY := hidp hy
            have HZ := hidp B3
            clear hx hy B3 B4 B5 B6
            go_wp2_with fail
            refine (minutes_any _ _ _ _ _ (rl.keep mStable hb48.size hb48.block)).mono ?_
            rintro e w9 ⟨rfl, hb9⟩
            rw [HC.out, HX.out, if_pos rfl]
            have hb49 := hb48.trans (hb9.mono hb48.size)
            go_wp2_with fail
            refine (minutes_any _ _ _ _ _ (r1.keep mStable hb49.size hb49.block)).mono ?_
            rintro e w10 ⟨rfl, hb10⟩
            rw [G1.out, HY.out, if_pos rfl]
            have hb410 := hb49.trans (hb10.mono hb49.size)
            go_wp2_with fail
            refine (minutes_any _ _ _ _ _ (r4.keep mStable hb410.size hb410.block)).mono ?_
            rintro e w11 ⟨rfl, hb11⟩
            rw [G2.out, HZ.out, if_pos rfl]
            go_wp2_with fail
            go_ret
            refine ⟨ret_bool ?_, (hB4.trans (hb410.mono hB4.size)).trans (hb11.mono (Nat.le_trans hB4.size hb410.size))⟩
            rfl
          · have G2 : Hid (checkM (l ++ [m]) = 220) := by show _ = _; rw [H2.out, hok, hz]; rfl
            have G3 : Hid (clashR l [m] = true) := by show _ = _; rw [HR.out, G1.out, hz]; rfl
            clear hok hz
            go_wp2_with fail
            refine (clash_any _ _ _ _ _ _ _ _ _ rl r1).mono ?_
            rintro e w5 ⟨rfl, hb5⟩
            rw [HE.out, G1.out, G3.out]
            go_wp2_with fail
            refine (check_any _ _ _ _ _ (r4.keep mStable hb5.size hb5.block)).mono ?_
            rintro e w6 ⟨rfl, hb6⟩
            rw [G2.out]
            have hb46 := hb5.trans (hb6.mono hb5.size)
            go_wp2_with fail
            refine (check_any _ _ _ _ _ (r1.keep mStable hb46.size hb46.block)).mono ?_
            rintro e w7 ⟨rfl, hb7⟩
            rw [G1.out]
            have hb47 := hb46.trans (hb7.mono hb46.size)
            go_wp2_with fail
            refine (check_any _ _ _ _ _ (r4.keep mStable hb47.size hb47.block)).mono ?_
            rintro e w8 ⟨rfl, hb8⟩
            rw [G2.out]
            go_wp2_with fail
            go_ret
            exact ⟨rfl, (hB4.trans (hb47.mono hB4.size)).trans (hb8.mono (Nat.le_trans hB4.size hb47.size))⟩
  · have HF := hidp (decide_eq_false hfew)
    rw [HF.out]
    go_wp2_with fail
    go_ret
    exact ⟨rfl, hB2⟩
end Go.Proofs.Ytefjigjjanjlkaa
