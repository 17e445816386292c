/- The reference's with and Domain (printed by tools/gen111.py). -/
import Derived.Test.YtbegdcjofnfkiaaGreatDoorJI0
import Derived.Test.YtbegdcjofnfkiaaGreatDoorM2
import Derived.Test.YtbegdcjofnfkiaaGreatDoorM7
import Derived.Test.YtbegdcjofnfkiaaGreatDoorF5
import Derived.Test.YtbegdcjofnfkiaaGreatDoorM4
namespace Go.Proofs.YtbegdcjofnfkiaaGreatDoor
open Go.RowKit Go.Shelf Go.Sort

/-- A list of integers is handed back. -/
def IPostJ (l : List Int) (w : World) (e : Ending) (w' : World) : Prop := ∃ A n c, e = .returned (.slice A n c) ∧ iSl w' w'.heap.size A n c l ∧ Below w.heap.size w w'
def LtUpJ (l : List Int) (k : Int) (q : Nat) : Prop := ∀ (i : Nat) (x : Int), i < q → l[i]? = some x → x < k
theorem LtUpJ.step {l : List Int} {k x : Int} {q : Nat} (h : LtUpJ l k q) (hx : l[q]? = some x) (hl : x < k) : LtUpJ l k (q + 1) := by
  intro i y hi hy
  rcases Nat.lt_or_ge i q with h1 | h1
  · exact h i y h1 hy
  · obtain rfl : i = q := by omega
    rw [hx] at hy; cases hy; exact hl
theorem withJ_neg {n : Int} (l : List Int) (h : n < 0) : withJ l n = l := by unfold withJ; rw [if_pos h]
theorem withJ_found {n : Int} {l : List Int} {q : Nat} (hu : LtUpJ l n q) (hx : l[q]? = some n) (hq : q ≤ l.length) : withJ l n = l := by
  unfold withJ
  split
  · rfl
  · rw [ins_at n l q (fun j y hj hy => by unfold ltJ; rw [decide_eq_true]; exact hu j y hj hy) (fun y hy => by rw [hx] at hy; cases hy; exact linJ.irr n) hq, if_pos hx]
theorem withJ_new {n : Int} {l : List Int} {q : Nat} (h0 : 0 ≤ n) (hu : LtUpJ l n q) (hy : ∀ y, l[q]? = some y → n < y) (hq : q ≤ l.length) : withJ l n = l.take q ++ ([n] ++ l.drop q) := by
  unfold withJ
  rw [if_neg (by omega), ins_at n l q (fun j y hj hy => by unfold ltJ; rw [decide_eq_true]; exact hu j y hj hy) (fun y h => by have := hy y h; unfold ltJ; rw [decide_eq_false]; omega) hq, if_neg]
  · rfl
  · intro h; have := hy n h; omega
set_option maxRecDepth 100000 in
set_option maxHeartbeats 4000000 in
theorem with_any (A : Option Addr) (m c : Nat) (l : List Int) (n : Int) (w : World) (hl : iSl w w.heap.size A m c l) (hm : m ≤ 1000000) :
    Calls Tryz.prog 31 #[.slice A m c, .int .i64 n] w (IPostJ (withJ l n) w) := by
  obtain ⟨i0, hi, hz, hs, hbb⟩ := info_parts iInfo
  have HN := hidp hl.1
  have hcap := hl.2.2.1
  have hlen := hl.2.1
  go_enter Tryz.func31, Tryz.ntmps31
  go_wp2_with fail
  go_loopw [5] (fun j wr => ∃ q : Nat, q ≤ m ∧ j = .int .i64 q ∧ LtUpJ l n q ∧ w = wr) (fun j _ => m - (intOf j).toNat)
  case atStart => exact ⟨0, by omega, rfl, fun i y h => by omega, rfl⟩
  case round =>
    obtain ⟨q, hq, rfl, hup, rfl⟩ := hrel
    have HU := hidp hup
    clear hup
    by_cases hqm : q < m
    · obtain ⟨b, off, y, rfl, hb, hzy, c0⟩ := iSl.get hl hqm
      have HY := hidp hzy
      have hl2 := lt_of_cell c0
      have hqm' : (q : Int) < m := by omega
      clear hzy
      by_cases hyn : y < n
      · go_wp2_with fail
        go_roundw
        case rel => exact ⟨q + 1, by omega, by go_num, HU.out.step HY.out hyn, trivial⟩
        case measure => simp [intOf]; omega
      · have hyn' : n ≤ y := by omega
        clear hyn
        by_cases h0 : n < 0
        · have HW : Hid (withJ l n = l) := withJ_neg l h0
          go_wp2_with fail
          go_ret
          exact ⟨_, m, c, rfl, by rw [HW.out]; exact hl, Below.refl _ _⟩
        · have h0' : 0 ≤ n := by omega
          clear h0
          by_cases he : y = n
          · have HW : Hid (withJ l n = l) := withJ_found HU.out (by rw [HY.out, he]) (by rw [← HN.out]; omega)
            have heq : (y == n) = true := by simp [he]
            have HE := hidp he
            clear he
            go_wp2_with fail
            go_ret
            exact ⟨_, m, c, rfl, by rw [HW.out]; exact hl, Below.refl _ _⟩
          · have heq : (y == n) = false := by simp [he]
            have HW : Hid (withJ l n = l.take q ++ ([n] ++ l.drop q)) := withJ_new h0' HU.out (fun z hz => by rw [HY.out] at hz; cases hz; omega) (by rw [← HN.out]; omega)
            clear he
            have hcut := fun W => run_cut_low (P := Tryz.prog) W Tryz.underlying23 hi (some (⟨b, off, none⟩ : Addr)) m c q .i64 (q : Int) rfl hq
            rw [hs] at hcut
            have hqc : q ≤ c := by omega
            have hrc := hl.cut (m := q) hq
            have hrt := hl.take (m := q) hq
            generalize cutA (some (⟨b, off, none⟩ : Addr)) c q 1 = A2 at hcut hrc
            obtain ⟨W1, hW1⟩ : ∃ W1, w.alloc (.cells #[.int .i64 n] 3) = W1 := ⟨_, rfl⟩
            have hb1 : Below w.heap.size w W1 := by rw [← hW1]; exact (Below.refl _ _).alloc (Nat.le_refl _) _
            have h1 : W1.heap[w.heap.size]? = some (.cells #[.int .i64 n] 3 (0, 0)) := by rw [← hW1]; exact World.alloc_heap_new _ _
            have r5 : iSl W1 W1.heap.size (some ⟨w.heap.size, 0, none⟩) 1 1 [n] := rows_of_heap (l := [n]) iEnc_len h1 (Nat.le_refl _) (by decide) rfl
            obtain ⟨A6, c6, w6, hrun6, r6, hb6⟩ := run_append_clipR (P := Tryz.prog) (ty := 23) Tryz.underlying23 hi hz hs hbb rfl iEnc_len (by decide) iEnc_one r5 (Nat.le_refl _) (hrc.keep (Rep.flat_stable _) hb1.size hb1.block) (by omega) (by omega)
            have hn6 : 1 + (m - q) ≤ 1000001 := by omega
            obtain ⟨A8, c8, w8, hrun8, r8, hb8⟩ := run_append_clipR (P := Tryz.prog) (ty := 23) Tryz.underlying23 hi hz hs hbb rfl iEnc_len (by decide) iEnc_one ((hrt.keep (Rep.flat_stable _) hb1.size hb1.block).keep (Rep.flat_stable _) hb6.size hb6.block) (Nat.le_refl _) r6 (by omega) (by omega)
            have HR6 := hidp hrun6
            have HR8 := hidp hrun8
            have HO8 := hidp r8
            have HB8 := hidp (hb1.trans ((hb6.mono hb1.size).trans (hb8.mono (Nat.le_trans hb1.size hb6.size))))
            have hcl6 := r6.2.2.1
            have hcn6 := r6.2.1
            have HW1 := hidp hW1
            clear hrun6 hrun8 r8 r6 r5 h1 hb1 hrc hrt hW1
            go_wp2_with (at_builtin; (try rw [HW1.out]); first | refine wpList_append_known rfl (.tmp 39) (.tmp 42) 23 rfl rfl rfl HR6.out ?_ | refine wpList_append_known rfl (.tmp 47) (.tmp 48) 23 rfl rfl rfl HR8.out ?_)
            go_ret
            exact ⟨A8, _, c8, rfl, by rw [HW.out]; exact HO8.out, HB8.out⟩
    · obtain rfl : q = m := by omega
      have hkk : ¬ ((q : Int) < q) := by omega
      by_cases h0 : n < 0
      · have HW : Hid (withJ l n = l) := withJ_neg l h0
        go_wp2_with fail
        go_ret
        exact ⟨_, q, c, rfl, by rw [HW.out]; exact hl, Below.refl _ _⟩
      · have h0' : 0 ≤ n := by omega
        clear h0
        have HW : Hid (withJ l n = l.take q ++ ([n] ++ l.drop q)) := withJ_new h0' HU.out (fun z hz => by rw [List.getElem?_eq_none (by rw [← HN.out]; omega)] at hz; cases hz) (by rw [← HN.out]; omega)
        have hcut := fun W => run_cut_low (P := Tryz.prog) W Tryz.underlying23 hi A q c q .i64 (q : Int) rfl hq
        rw [hs] at hcut
        have hqc : q ≤ c := by omega
        have hrc := hl.cut (m := q) hq
        have hrt := hl.take (m := q) hq
        simp only [Nat.sub_self] at hcut hrc
        generalize cutA A c q 1 = A2 at hcut hrc
        obtain ⟨W1, hW1⟩ : ∃ W1, w.alloc (.cells #[.int .i64 n] 3) = W1 := ⟨_, rfl⟩
        have hb1 : Below w.heap.size w W1 := by rw [← hW1]; exact (Below.refl _ _).alloc (Nat.le_refl _) _
        have h1 : W1.heap[w.heap.size]? = some (.cells #[.int .i64 n] 3 (0, 0)) := by rw [← hW1]; exact World.alloc_heap_new _ _
        have r5 : iSl W1 W1.heap.size (some ⟨w.heap.size, 0, none⟩) 1 1 [n] := rows_of_heap (l := [n]) iEnc_len h1 (Nat.le_refl _) (by decide) rfl
        obtain ⟨A6, c6, w6, hrun6, r6, hb6⟩ := run_append_clipR (P := Tryz.prog) (ty := 23) Tryz.underlying23 hi hz hs hbb rfl iEnc_len (by decide) iEnc_one r5 (Nat.le_refl _) (hrc.keep (Rep.flat_stable _) hb1.size hb1.block) (by omega) (by omega)
        simp only [Nat.add_zero] at hrun6 r6
        obtain ⟨A8, c8, w8, hrun8, r8, hb8⟩ := run_append_clipR (P := Tryz.prog) (ty := 23) Tryz.underlying23 hi hz hs hbb rfl iEnc_len (by decide) iEnc_one ((hrt.keep (Rep.flat_stable _) hb1.size hb1.block).keep (Rep.flat_stable _) hb6.size hb6.block) (Nat.le_refl _) r6 (by omega) (by omega)
        have HR6 := hidp hrun6
        have HR8 := hidp hrun8
        have HO8 := hidp r8
        have HB8 := hidp (hb1.trans ((hb6.mono hb1.size).trans (hb8.mono (Nat.le_trans hb1.size hb6.size))))
        have hcl6 := r6.2.2.1
        have hcn6 := r6.2.1
        have HW1 := hidp hW1
        clear hrun6 hrun8 r8 r6 r5 h1 hb1 hrc hrt hW1
        go_wp2_with (at_builtin; (try rw [HW1.out]); first | refine wpList_append_known rfl (.tmp 39) (.tmp 42) 23 rfl rfl rfl HR6.out ?_ | refine wpList_append_known rfl (.tmp 47) (.tmp 48) 23 rfl rfl rfl HR8.out ?_)
        go_ret
        exact ⟨A8, _, c8, rfl, by rw [HW.out]; exact HO8.out, HB8.out⟩
theorem domW_len : ∀ (l : List Fc) (s : List Int), (l.foldl domW s).length ≤ s.length + 3 * l.length := by
  have hw : ∀ (s : List Int) (n : Int), (withJ s n).length ≤ s.length + 1 := by
    intro s n; unfold withJ; split
    · omega
    · exact ins_len _ _
  intro l
  induction l with
  | nil => intro s; simp
  | cons f l ih =>
    intro s
    have h1 := ih (domW s f)
    have h2 := hw s f.key.subj
    have h3 := hw (withJ s f.key.subj) f.key.obj
    have h4 := hw (withJ (withJ s f.key.subj) f.key.obj) f.val
    rw [List.foldl_cons, List.length_cons]
    unfold domW at h1 ⊢
    omega
theorem domR_step {l : List Fc} {k : Nat} {f : Fc} (h : l[k]? = some f) : domR (l.take (k + 1)) = withJ (withJ (withJ (domR (l.take k)) f.key.subj) f.key.obj) f.val := by
  rw [take_snoc h]; unfold domR; rw [List.foldl_append]; rfl
set_option maxRecDepth 100000 in
set_option maxHeartbeats 4000000 in
theorem rDomain_any (A : Option Addr) (n c : Nat) (l : List Fc) (w : World) (hl : fSl w w.heap.size A n c l) (hn : n ≤ 100000) :
    Calls Tryz.prog 12 #[.slice A n c] w (IPostJ (domR l) w) := by
  have HL := hidp hl
  have hnc := hl.2.1
  have hcc := hl.2.2.1
  have HN := hidp hl.1
  clear hl
  go_enter Tryz.func12, Tryz.ntmps12
  go_wp2_with fail
  go_loopw [3, 4] (fun v i wr => ∃ (k m cc : Nat) (B : Option Addr), k ≤ n ∧ i = .int .i64 k ∧ v = .slice B m cc ∧ iSl wr wr.heap.size B m cc (domR (l.take k)) ∧ Below w.heap.size w wr) (fun _ i _ => n - (intOf i).toNat)
  case atStart => exact ⟨0, 0, 0, _, by omega, rfl, rfl, ⟨rfl, Nat.le_refl _, by decide, fun h => by simp at h⟩, by first | exact Below.refl _ _ | exact (Below.refl _ _).alloc (Nat.le_refl _) _⟩
  case round =>
    obtain ⟨k, m, cc, B, hk, rfl, rfl, hr, hbe⟩ := hrel
    have hmm : m ≤ 300000 := by
      have h1 := domW_len (l.take k) []
      have h2 : (l.take k).length ≤ k := List.length_take_le _ _
      have h3 := hr.1
      unfold domR at h3
      rw [h3]
      simp only [List.length_nil] at h1
      omega
    have hmc := hr.2.1
    have hcm := hr.2.2.1
    have HR := hidp hr
    have HB := hidp hbe
    clear hr hbe
    by_cases hkn : k < n
    · have hkn' : (k : Int) < n := by omega
      obtain ⟨b, off, f, rfl, hb, hf, c0, c1, c2, c3, c4, c5, c6, c7⟩ := fSl.get (HL.out.keep (Rep.flat_stable _) HB.out.size HB.out.block) hkn
      have lb := lt_of_cell c0
      have HF := hidp hf
      clear hf
      go_wp2_with fail
      refine (with_any _ _ _ _ f.key.subj _ HR.out (by omega)).mono ?_
      rintro e w5 ⟨A5, n5, c5', rfl, r5, hb5⟩
      have hz5 := hb5.size
      have hn5 : n5 ≤ 300001 := by
        have h1 := r5.1
        have h2 : (withJ (domR (l.take k)) f.key.subj).length ≤ (domR (l.take k)).length + 1 := by unfold withJ; split; omega; exact ins_len _ _
        have h3 := HR.out.1
        omega
      have d0 := (bcell hb5).1 _ (off + k * 8) lb |>.trans c0
      have d2 := (bcell hb5).1 _ (off + k * 8 + 2) lb |>.trans c2
      have d3 := (bcell hb5).1 _ (off + k * 8 + 3) lb |>.trans c3
      have R5 := hidp r5
      have HB5 := hidp (HB.out.trans (hb5.mono HB.out.size))
      clear c0 c1 c2 c3 c4 c5 c6 c7 lb r5 hb5 hz5
      have lb := lt_of_cell d0
      go_wp2_with fail
      refine (with_any _ _ _ _ f.key.obj _ R5.out (by omega)).mono ?_
      rintro e w6 ⟨A6, n6, c6', rfl, r6, hb6⟩
      have hn6 : n6 ≤ 300002 := by
        have h1 := r6.1
        have h2 : (withJ (withJ (domR (l.take k)) f.key.subj) f.key.obj).length ≤ (withJ (domR (l.take k)) f.key.subj).length + 1 := by
          generalize withJ (domR (l.take k)) f.key.subj = s
          unfold withJ; split; omega; exact ins_len _ _
        have h3 := R5.out.1
        omega
      have e3 := (bcell hb6).1 _ (off + k * 8 + 3) lb |>.trans d3
      have R6 := hidp r6
      have HB6 := hidp (HB5.out.trans (hb6.mono HB5.out.size))
      clear d0 d2 d3 lb r6 hb6
      have lb := lt_of_cell e3
      go_wp2_with fail
      refine (with_any _ _ _ _ f.val _ R6.out (by omega)).mono ?_
      rintro e w7 ⟨A7, n7, c7', rfl, r7, hb7⟩
      have R7 := hidp r7
      have HB7 := hidp (HB6.out.trans (hb7.mono HB6.out.size))
      clear e3 lb r7 hb7
      go_wp2_with fail
      go_roundw
      case rel => exact ⟨k + 1, n7, c7', A7, by omega, by go_num, rfl, by rw [domR_step HF.out]; exact R7.out, HB7.out⟩
      case measure => simp [intOf]; omega
    · obtain rfl : k = n := by omega
      have hkk : ¬ ((k : Int) < k) := by omega
      have HT : Hid (l.take k = l) := List.take_of_length_le (by rw [← HN.out]; omega)
      go_wp2_with fail
      go_ret
      exact ⟨B, m, cc, rfl, by have := HR.out; rw [HT.out] at this; exact this, HB.out⟩
end Go.Proofs.YtbegdcjofnfkiaaGreatDoor
