/- Several texts in one: F8 F9 F2 F3 F4 F7 F12 F13. -/
import Derived.Test.YtbegdcjofnfkiaaGreatDoorQ7
import Derived.Test.YtbegdcjofnfkiaaGreatDoorQ5
import Derived.OwnWalkIn
import Derived.TacticsInMore
import Derived.LoopNIn
import Derived.LoopIn
namespace Go.Proofs.YtbegdcjofnfkiaaGreatDoor
section
open Go.RowKit Go.Shelf
set_option maxRecDepth 100000 in
set_option maxHeartbeats 2000000 in
theorem k_in (d : Nat) (a b : Ky) (w : World) : (Op.equalIn (d + 2) 50 (.agg #[.int .i64 a.kind, .int .i64 a.subj, .int .i64 a.obj]) (.agg #[.int .i64 b.kind, .int .i64 b.subj, .int .i64 b.obj])).run Tryz.prog w = .ok (decide (a = b)) w := by
 have hS : Tryz.prog.underlying 50 = some (.struct (Tryz.prog.fieldsOf 50)) := by kernel_rfl
 have hp : Tryz.prog.stoodInHeld 50 = false := by kernel_rfl
 have he : decide (a = b) = (decide (a.kind = b.kind) && decide (a.subj = b.subj) && decide (a.obj = b.obj)) := by
  rw [Bool.eq_iff_iff]; simp only [decide_eq_true_eq, Bool.and_eq_true]
  exact ⟨fun h => by subst h; exact ⟨⟨rfl, rfl⟩, rfl⟩, fun ⟨⟨h0, h1⟩, h2⟩ => Ky.ext' h0 h1 h2⟩
 rw [he, show d + 2 = (d + 1) + 1 from rfl, run_equalIn_agg w (d + 1) 50 _ _ hS hp]
 simp only [Program.fieldsOf, Tryz.underlying50]
 have u3 := Tryz.underlying3
 have a3 := Tryz.isAgg3
 have z3 := Tryz.sizeOf3
 go_simp
 by_cases h0 : a.kind = b.kind <;> by_cases h1 : a.subj = b.subj <;> by_cases h2 : a.obj = b.obj <;> simp [h0, h1, h2]
theorem k_eql (a b : Ky) (w : World) : (binOp .eql 50 (.agg #[.int .i64 a.kind, .int .i64 a.subj, .int .i64 a.obj]) (.agg #[.int .i64 b.kind, .int .i64 b.subj, .int .i64 b.obj])).run Tryz.prog w = .ok (.bool (decide (a = b))) w := by
 have h : (Op.equalIn 10000 50 (.agg #[.int .i64 a.kind, .int .i64 a.subj, .int .i64 a.obj]) (.agg #[.int .i64 b.kind, .int .i64 b.subj, .int .i64 b.obj])).run Tryz.prog w = .ok (decide (a = b)) w := k_in 9998 _ _ w
 rw [run_eql_struct, h]
 rfl
end
section
open Go.RowKit Go.Shelf
end
section
open Go.RowKit Go.Sort RelD
set_option maxRecDepth 100000 in
set_option maxHeartbeats 4000000 in
theorem fcmp_any (a b : Fc) (w : World) : Calls Tryz.prog 51 #[.agg (fEnc a).toArray, .agg (fEnc b).toArray] w fun e w' => e = .returned (.int .i64 (cmpF a b)) ∧ BelowD w.heap.size w w' := by
 show Calls Tryz.prog 51 #[.agg #[.int .i64 a.key.kind, .int .i64 a.key.subj, .int .i64 a.key.obj, .int .i64 a.val, .int .i64 a.fr, .int .i64 a.to, .int .i64 a.known, .int .i64 a.no], .agg #[.int .i64 b.key.kind, .int .i64 b.key.subj, .int .i64 b.key.obj, .int .i64 b.val, .int .i64 b.fr, .int .i64 b.to, .int .i64 b.known, .int .i64 b.no]] w _
 have hB : BelowD w.heap.size w ((w.alloc (.cells (fEnc a).toArray 54)).alloc (.cells (fEnc b).toArray 54)) := ((BelowD.refl _ w).alloc (Nat.le_refl _) _).alloc (by simp) _
 have h1 : ((w.alloc (.cells (fEnc a).toArray 54)).alloc (.cells (fEnc b).toArray 54)).heap[w.heap.size]? = some (.cells (fEnc a).toArray 54 (0, 0)) := (Below.heap_alloc _ _ _ (by simp)).trans (World.alloc_heap_new _ _)
 have h2 : ((w.alloc (.cells (fEnc a).toArray 54)).alloc (.cells (fEnc b).toArray 54)).heap[w.heap.size + 1]? = some (.cells (fEnc b).toArray 54 (0, 0)) := by
  have := World.alloc_heap_new (w.alloc (.cells (fEnc a).toArray 54)) (.cells (fEnc b).toArray 54)
  rwa [World.size_alloc] at this
 have hB' := hidp hB
 have h1' := hidp h1
 have h2' := hidp h2
 clear hB h1 h2
 go_enter Tryz.func51, Tryz.ntmps51
 go_wp2_with fail
 generalize hwr : (w.alloc (.cells #[.int .i64 a.key.kind, .int .i64 a.key.subj, .int .i64 a.key.obj, .int .i64 a.val, .int .i64 a.fr, .int .i64 a.to, .int .i64 a.known, .int .i64 a.no] 54)).alloc (.cells #[.int .i64 b.key.kind, .int .i64 b.key.subj, .int .i64 b.key.obj, .int .i64 b.val, .int .i64 b.fr, .int .i64 b.to, .int .i64 b.known, .int .i64 b.no] 54) = wr
 have hBr : BelowD w.heap.size w wr := hwr ▸ hB'.out
 have g1 : wr.heap[w.heap.size]? = some (.cells (fEnc a).toArray 54 (0, 0)) := hwr ▸ h1'.out
 have g2 : wr.heap[w.heap.size + 1]? = some (.cells (fEnc b).toArray 54 (0, 0)) := hwr ▸ h2'.out
 clear hwr hB' h1' h2'
 have hcell : ∀ w9, BelowD wr.heap.size wr w9 → w9.cell? ⟨w.heap.size, 6, none⟩ = some (.int .i64 a.known) ∧ w9.cell? ⟨w.heap.size + 1, 6, none⟩ = some (.int .i64 b.known) ∧ w9.cell? ⟨w.heap.size, 7, none⟩ = some (.int .i64 a.no) ∧ w9.cell? ⟨w.heap.size + 1, 7, none⟩ = some (.int .i64 b.no) := by
  intro w9 h9
  have i1 := (h9.block _ (lt_of_heap g1)).trans g1
  have i2 := (h9.block _ (lt_of_heap g2)).trans g2
  exact ⟨cell_of_heap i1, cell_of_heap i2, cell_of_heap i1, cell_of_heap i2⟩
 have HC := hidp hcell
 clear hcell g1 g2
 refine RelD.wp_region_rel wr.heap.size (fun _ => false) (fun _ => true) (Nat.le_refl _) (by kernel_rfl) (by kernel_rfl) (by kernel_rfl) ?_
 iterate 4
  try dsimp only [naL, caL]
  apply RelD.rel_det
  ·repeat (first | refine RelD.obl_skip (by rfl) ?_ | refine RelD.obl_det (by rfl) ?_ | refine RelD.obl_var (by rfl) fun _ => ?_)
   intro w9 hw9
   refine RelD.relAt_wanted (by rfl) ?_
   obtain ⟨c0a, c0b, c1a, c1b⟩ := HC.out w9 hw9
   go_simp
   exact ⟨BelowD.refl _ _, rfl⟩
 try dsimp only [naL, caL]
 refine RelD.rel_det (x := .int .i64 (cmpI a.known b.known)) ?_ ?_
 ·repeat (first | refine RelD.obl_skip (by rfl) ?_ | refine RelD.obl_det (by rfl) ?_ | refine RelD.obl_var (by rfl) fun _ => ?_)
  intro w9 hw9
  refine RelD.relAt_wanted (by rfl) ?_
  go_simp
  refine (cmp_any _ _ _).mono ?_
  rintro e w1 ⟨rfl, rfl⟩
  exact ⟨_, rfl, BelowD.refl _ _, rfl⟩
 iterate 4
  try dsimp only [naL, caL]
  apply RelD.rel_det
  ·repeat (first | refine RelD.obl_skip (by rfl) ?_ | refine RelD.obl_det (by rfl) ?_ | refine RelD.obl_var (by rfl) fun _ => ?_)
   intro w9 hw9
   refine RelD.relAt_wanted (by rfl) ?_
   obtain ⟨c0a, c0b, c1a, c1b⟩ := HC.out w9 hw9
   go_simp
   exact ⟨BelowD.refl _ _, rfl⟩
 try dsimp only [naL, caL]
 refine RelD.rel_det (x := .int .i64 (cmpI a.no b.no)) ?_ ?_
 ·repeat (first | refine RelD.obl_skip (by rfl) ?_ | refine RelD.obl_det (by rfl) ?_ | refine RelD.obl_var (by rfl) fun _ => ?_)
  intro w9 hw9
  refine RelD.relAt_wanted (by rfl) ?_
  go_simp
  refine (cmp_any _ _ _).mono ?_
  rintro e w1 ⟨rfl, rfl⟩
  exact ⟨_, rfl, BelowD.refl _ _, rfl⟩
 try dsimp only [naL, caL]
 refine RelD.rel_any (fun v w => ∃ A c, v = .slice A 2 c ∧ ISl w w.heap.size A 2 c [cmpI a.known b.known, cmpI a.no b.no]) rfl (rows_stableD iStable _ _) ?_ ?_
 ·repeat (first | refine RelD.obl_skip (by rfl) ?_ | refine RelD.obl_det (by rfl) ?_ | refine RelD.obl_var (by rfl) fun _ => ?_)
  intro w9 hw9
  refine RelD.relAt_cps (by rfl) fun T' hT' => ?_
  go_simp
  exact ⟨(BelowD.refl _ w9).alloc (Nat.le_refl _) _, hT' _ _ ⟨_, _, rfl, rows_of_heap (l := [_, _]) iEnc_len (World.alloc_heap_new w9 _) (Nat.le_refl _) (by decide) rfl⟩⟩
 try dsimp only [naL, caL]
 refine RelD.rel_det (x := .int .i64 (cmpF a b)) ?_ ?_
 ·repeat (first | refine RelD.obl_skip (by rfl) ?_ | refine RelD.obl_det (by rfl) ?_ | refine RelD.obl_var (by rfl) fun _ => ?_)
  rintro w9 ⟨hw9, A, c, rfl, hr⟩
  refine RelD.relAt_wanted (by rfl) ?_
  go_simp
  refine (or_any _ _ _ _ _ hr).mono ?_
  rintro e w1 ⟨rfl, rfl⟩
  exact ⟨_, rfl, BelowD.refl _ _, rfl⟩
 try dsimp only [naL, caL]
 apply RelD.rel_det
 ·repeat (first | refine RelD.obl_skip (by rfl) ?_ | refine RelD.obl_det (by rfl) ?_ | refine RelD.obl_var (by rfl) fun _ => ?_)
  intro w9 hw9
  refine RelD.relAt_wanted (by rfl) ?_
  go_simp
  exact ⟨BelowD.refl _ _, rfl⟩
 try dsimp only [naL, caL]
 iterate 12 refine RelD.fin_dead fun _ => ?_
 refine RelD.fin_det rfl ?_
 rintro w4 hb4
 go_frame
 go_wp2_with fail
 go_ret
 exact ⟨rfl, hBr.trans (hb4.mono hBr.size)⟩
end
section
open Go.RowKit Go.Sort
end
section
open Go.RowKit Go.Sort
set_option maxRecDepth 100000 in
set_option maxHeartbeats 2000000 in
theorem fits_any (a : Fc) (w : World) : Calls Tryz.prog 50 #[.agg (fEnc a).toArray] w fun e w' => e = .returned (.bool a.ok) ∧ Below w.heap.size w w' := by
 show Calls Tryz.prog 50 #[.agg #[.int .i64 a.key.kind, .int .i64 a.key.subj, .int .i64 a.key.obj, .int .i64 a.val, .int .i64 a.fr, .int .i64 a.to, .int .i64 a.known, .int .i64 a.no]] w _
 have hB : Below w.heap.size w (w.alloc (.cells #[.int .i64 a.key.kind, .int .i64 a.key.subj, .int .i64 a.key.obj, .int .i64 a.val, .int .i64 a.fr, .int .i64 a.to, .int .i64 a.known, .int .i64 a.no] 54)) := (Below.refl _ _).alloc (Nat.le_refl _) _
 have hok : a.ok = ((decide (1 ≤ a.key.kind) && decide (a.key.kind ≤ 12)) && (decide (0 ≤ a.key.subj) && decide (a.key.subj ≤ 20000)) && (decide (0 ≤ a.key.obj) && decide (a.key.obj ≤ 20000)) && (decide (-1 ≤ a.val) && decide (a.val ≤ 1099511627776)) && decide (0 ≤ a.fr) && decide (a.fr < a.to) && decide (a.to ≤ 1024) && (decide (1 ≤ a.known) && decide (a.known ≤ 16777216)) && (decide (0 ≤ a.no) && decide (a.no ≤ 65535))) := by simp [Fc.ok, Bool.and_assoc]
 obtain ⟨b0, h0⟩ : ∃ b, (decide (1 ≤ a.key.kind) && decide (a.key.kind ≤ 12)) = b := ⟨_, rfl⟩
 obtain ⟨b1, h1⟩ : ∃ b, (decide (0 ≤ a.key.subj) && decide (a.key.subj ≤ 20000)) = b := ⟨_, rfl⟩
 obtain ⟨b2, h2⟩ : ∃ b, (decide (0 ≤ a.key.obj) && decide (a.key.obj ≤ 20000)) = b := ⟨_, rfl⟩
 obtain ⟨b3, h3⟩ : ∃ b, (decide (-1 ≤ a.val) && decide (a.val ≤ 1099511627776)) = b := ⟨_, rfl⟩
 obtain ⟨b4, h4⟩ : ∃ b, decide (0 ≤ a.fr) = b := ⟨_, rfl⟩
 obtain ⟨b5, h5⟩ : ∃ b, decide (a.fr < a.to) = b := ⟨_, rfl⟩
 obtain ⟨b6, h6⟩ : ∃ b, decide (a.to ≤ 1024) = b := ⟨_, rfl⟩
 obtain ⟨b7, h7⟩ : ∃ b, (decide (1 ≤ a.known) && decide (a.known ≤ 16777216)) = b := ⟨_, rfl⟩
 obtain ⟨b8, h8⟩ : ∃ b, (decide (0 ≤ a.no) && decide (a.no ≤ 65535)) = b := ⟨_, rfl⟩
 rw [h0, h1, h2, h3, h4, h5, h6, h7, h8] at hok
 have H0 := hidp h0
 have H1 := hidp h1
 have H2 := hidp h2
 have H3 := hidp h3
 have H7 := hidp h7
 have H8 := hidp h8
 have HR := hidp hok
 clear hok h0 h1 h2 h3 h7 h8
 rw [HR.out]
 cases b0
 ·clear HR
  go_enter Tryz.func50, Tryz.ntmps50
  go_wp2_with (go_at_call 92; refine (within_any _ _ _ _).mono ?_; rintro e w1 ⟨rfl, rfl⟩; first | rw [H0.out] | rw [H1.out] | rw [H2.out] | rw [H3.out] | rw [H7.out] | rw [H8.out])
  go_ret
  exact ⟨rfl, hB⟩
 ·skip
  cases b1
  ·clear HR
   go_enter Tryz.func50, Tryz.ntmps50
   go_wp2_with (go_at_call 92; refine (within_any _ _ _ _).mono ?_; rintro e w1 ⟨rfl, rfl⟩; first | rw [H0.out] | rw [H1.out] | rw [H2.out] | rw [H3.out] | rw [H7.out] | rw [H8.out])
   go_ret
   exact ⟨rfl, hB⟩
  ·skip
   cases b2
   ·clear HR
    go_enter Tryz.func50, Tryz.ntmps50
    go_wp2_with (go_at_call 92; refine (within_any _ _ _ _).mono ?_; rintro e w1 ⟨rfl, rfl⟩; first | rw [H0.out] | rw [H1.out] | rw [H2.out] | rw [H3.out] | rw [H7.out] | rw [H8.out])
    go_ret
    exact ⟨rfl, hB⟩
   ·skip
    cases b3
    ·clear HR
     go_enter Tryz.func50, Tryz.ntmps50
     go_wp2_with (go_at_call 92; refine (within_any _ _ _ _).mono ?_; rintro e w1 ⟨rfl, rfl⟩; first | rw [H0.out] | rw [H1.out] | rw [H2.out] | rw [H3.out] | rw [H7.out] | rw [H8.out])
     go_ret
     exact ⟨rfl, hB⟩
    ·skip
     cases b4
     ·clear HR
      go_enter Tryz.func50, Tryz.ntmps50
      go_wp2_with (go_at_call 92; refine (within_any _ _ _ _).mono ?_; rintro e w1 ⟨rfl, rfl⟩; first | rw [H0.out] | rw [H1.out] | rw [H2.out] | rw [H3.out] | rw [H7.out] | rw [H8.out])
      go_ret
      exact ⟨rfl, hB⟩
     ·skip
      cases b5
      ·clear HR
       go_enter Tryz.func50, Tryz.ntmps50
       go_wp2_with (go_at_call 92; refine (within_any _ _ _ _).mono ?_; rintro e w1 ⟨rfl, rfl⟩; first | rw [H0.out] | rw [H1.out] | rw [H2.out] | rw [H3.out] | rw [H7.out] | rw [H8.out])
       go_ret
       exact ⟨rfl, hB⟩
      ·skip
       cases b6
       ·clear HR
        go_enter Tryz.func50, Tryz.ntmps50
        go_wp2_with (go_at_call 92; refine (within_any _ _ _ _).mono ?_; rintro e w1 ⟨rfl, rfl⟩; first | rw [H0.out] | rw [H1.out] | rw [H2.out] | rw [H3.out] | rw [H7.out] | rw [H8.out])
        go_ret
        exact ⟨rfl, hB⟩
       ·skip
        cases b7
        ·clear HR
         go_enter Tryz.func50, Tryz.ntmps50
         go_wp2_with (go_at_call 92; refine (within_any _ _ _ _).mono ?_; rintro e w1 ⟨rfl, rfl⟩; first | rw [H0.out] | rw [H1.out] | rw [H2.out] | rw [H3.out] | rw [H7.out] | rw [H8.out])
         go_ret
         exact ⟨rfl, hB⟩
        ·skip
         cases b8
         ·clear HR
          go_enter Tryz.func50, Tryz.ntmps50
          go_wp2_with (go_at_call 92; refine (within_any _ _ _ _).mono ?_; rintro e w1 ⟨rfl, rfl⟩; first | rw [H0.out] | rw [H1.out] | rw [H2.out] | rw [H3.out] | rw [H7.out] | rw [H8.out])
          go_ret
          exact ⟨rfl, hB⟩
         ·skip
          clear HR
          go_enter Tryz.func50, Tryz.ntmps50
          go_wp2_with (go_at_call 92; refine (within_any _ _ _ _).mono ?_; rintro e w1 ⟨rfl, rfl⟩; first | rw [H0.out] | rw [H1.out] | rw [H2.out] | rw [H3.out] | rw [H7.out] | rw [H8.out])
          go_ret
          exact ⟨rfl, hB⟩
end
section
open Go.RowKit Go.Shelf
theorem sortedB_iff : ∀ (l : List Fc), sortedB l = true ↔ ∀ (i : Nat) (x y : Fc), l[i]? = some x → l[i + 1]? = some y → x.bef y = true
  | [] => by simp [sortedB]
  | [a] => by
    simp only [sortedB, true_iff]
    intro i x y _ h2
    simp at h2
  | a :: b :: l => by
    rw [sortedB, Bool.and_eq_true, sortedB_iff (b :: l)]
    constructor
    · rintro ⟨h1, h2⟩ i x y hx hy
      cases i with
      | zero => simp at hx hy; subst hx hy; exact h1
      | succ i => exact h2 i x y (by simpa using hx) (by simpa using hy)
    · intro h
      exact ⟨h 0 a b rfl rfl, fun i x y hx hy => h (i + 1) x y (by simpa using hx) (by simpa using hy)⟩
def SortedUp (l : List Fc) (k : Nat) : Prop := ∀ (i : Nat) (x y : Fc), i < k → l[i]? = some x → l[i + 1]? = some y → x.bef y = true
theorem SortedUp.zero (l : List Fc) : SortedUp l 0 := fun _ _ _ h => by omega
theorem SortedUp.step {l : List Fc} {k : Nat} {a b : Fc} (h : SortedUp l k) (ha : l[k]? = some a) (hb : l[k + 1]? = some b) (hab : a.bef b = true) : SortedUp l (k + 1) := by
 intro i x y hi hx hy
 rcases Nat.lt_or_ge i k with h1 | h1
 ·exact h i x y h1 hx hy
 ·obtain rfl : i = k := by omega
  rw [ha] at hx; rw [hb] at hy
  cases hx; cases hy
  exact hab
theorem SortedUp.all {l : List Fc} {k : Nat} (h : SortedUp l k) (hk : l.length ≤ k + 1) : sortedB l = true := by
 rw [sortedB_iff]
 intro i x y hx hy
 refine h i x y ?_ hx hy
 have := (List.getElem?_eq_some_iff.1 hy).1
 omega
theorem sortedB_no {l : List Fc} {k : Nat} {a b : Fc} (ha : l[k]? = some a) (hb : l[k + 1]? = some b) (hab : a.bef b = false) : sortedB l = false := by
 rw [Bool.eq_false_iff]
 intro h
 have := (sortedB_iff l).1 h k a b ha hb
 rw [hab] at this
 cases this
theorem any_not_ok (l : List Fc) : (l.any fun f => !f.ok) = !(l.all Fc.ok) := by
 rw [List.not_all_eq_any_not]
theorem bef_cmp {a b : Fc} {z : Bool} (h : a.bef b = z) : decide (0 ≤ cmpF a b) = !z := by rw [cmpF_ge, h]
set_option maxRecDepth 100000 in
set_option maxHeartbeats 1000000 in
theorem fCheck1_any (a : Fc) (w : World) : Calls Tryz.prog 49 #[.agg (fEnc a).toArray] w fun e w' => e = .returned (.bool (!a.ok)) ∧ Below w.heap.size w w' := by
 show Calls Tryz.prog 49 #[.agg #[.int .i64 a.key.kind, .int .i64 a.key.subj, .int .i64 a.key.obj, .int .i64 a.val, .int .i64 a.fr, .int .i64 a.to, .int .i64 a.known, .int .i64 a.no]] w _
 go_enter Tryz.func49, Tryz.ntmps49
 go_wp2_with fail
 refine (fits_any a _).mono ?_
 rintro e w1 ⟨rfl, hb1⟩
 go_wp2_with fail
 go_ret
 exact ⟨rfl, ((Below.refl _ w).alloc (Nat.le_refl _) _).trans (hb1.mono (by simp))⟩
set_option maxRecDepth 100000 in
set_option maxHeartbeats 4000000 in
theorem fCheck_any (A : Option Addr) (n c : Nat) (l : List Fc) (w : World) (hl : fSl w w.heap.size A n c l) :
  Calls Tryz.prog 20 #[.slice A n c] w fun e w' => e = .returned (.int .i64 (checkF l)) ∧ Below w.heap.size w w' := by
 have HN := hidp hl.1
 have hcap := hl.2.2.1
 have hlen := hl.2.1
 obtain ⟨i0, hiE, _, hsE, _⟩ := info_parts fInfo
 obtain ⟨bo, hbo⟩ : ∃ bo, l.all Fc.ok = bo := ⟨_, rfl⟩
 obtain ⟨r, hr⟩ : ∃ r, checkF l = r := ⟨_, rfl⟩
 have HR := hidp hr
 rw [hr]
 clear hr
 have HB := hidp hbo
 clear hbo
 have hcl := fContains_any 49 #[] #[] (fun f => !f.ok) A n c l w hl (enters_of Tryz.func49 (by kernel_rfl) rfl) (fun m W _ => fCheck1_any m W)
 rw [any_not_ok, HB.out] at hcl
 have HCl := hidp hcl
 clear hcl
 cases bo
 ·go_enter Tryz.func20, Tryz.ntmps20
  go_wp2_with fail
  refine HCl.out.mono ?_
  rintro e w1 ⟨rfl, hb1⟩
  go_wp2_with fail
  go_ret
  exact ⟨ret_int (by rw [← HR.out, checkF, HB.out]; rfl), hb1⟩
 ·by_cases hn : n = 0
  ·subst hn
   have h0 : l = [] := List.eq_nil_of_length_eq_zero HN.out.symm
   have HS : Hid (sortedB l = true) := by show _ = _; rw [h0]; rfl
   clear h0
   have hsl := fun W => run_cut_low (P := Tryz.prog) W Tryz.underlying28 hiE A 0 c 0 .i64 0 (by omega) (by omega)
   have hm0 : (min 1 0 : Int) = 0 := by decide
   go_enter Tryz.func20, Tryz.ntmps20
   go_wp2_with fail
   refine HCl.out.mono ?_
   rintro e w1 ⟨rfl, hb1⟩
   go_wp2_with fail
   go_loop [3, 12] (fun _ i => i = .int .i64 0) (fun _ _ => 0)
   case atStart => rfl
   case round =>
    subst hrel
    go_wp2_with fail
    go_ret
    exact ⟨ret_int (by rw [← HR.out, checkF, HB.out, HS.out]; rfl), hb1⟩
  ·have hmin : min (1 : Int) (n : Int) = 1 := by omega
   have hsl := fun W => run_cut_low (P := Tryz.prog) W Tryz.underlying28 hiE A n c 1 .i64 1 (by omega) (by omega)
   generalize cutA A c 1 i0.size = A2 at hsl
   go_enter Tryz.func20, Tryz.ntmps20
   go_wp2_with fail
   refine HCl.out.mono ?_
   rintro e w1 ⟨rfl, hb1⟩
   go_wp2_with fail
   go_loopw [3, 12] (fun _ i wr => ∃ k : Nat, k ≤ n - 1 ∧ i = .int .i64 k ∧ SortedUp l k ∧ Below w.heap.size w wr) (fun _ i _ => n - 1 - (intOf i).toNat)
   case atStart => exact ⟨0, by omega, rfl, SortedUp.zero l, hb1⟩
   case round =>
    obtain ⟨k, hk, rfl, hno, hbe⟩ := hrel
    have HA := hidp hno
    clear hno
    by_cases hlt : k < n - 1
    ·have hl' := hl.below fStable hbe
     obtain ⟨b, off, x, rfl, hb, hzx, c0, c1, c2, c3, c4, c5, c6, c7⟩ := fSl.get hl' (k := k) (by omega)
     obtain ⟨b', off', y, he, hb', hzy, d0, d1, d2, d3, d4, d5, d6, d7⟩ := fSl.get hl' (k := k + 1) (by omega)
     simp only [Option.some.injEq, Addr.mk.injEq, and_true] at he
     obtain ⟨rfl, rfl⟩ := he
     have HX := hidp hzx
     have HY := hidp hzy
     have hin : (k : Int) < n := by omega
     have hin1 : (k : Int) + 1 < n := by omega
     have hwrap : IntKind.i64.wrap ((k : Int) + 1) = (k : Int) + 1 := IntWalk.i64_in _ (by omega)
     have hto : ((k : Int) + 1).toNat = k + 1 := by omega
     have hpos : (0 : Int) ≤ (k : Int) + 1 := by omega
     clear hzx hzy hl'
     have hwb := lt_of_cell c0
     obtain ⟨z, hz⟩ : ∃ z, x.bef y = z := ⟨_, rfl⟩
     have HV := hidp hz
     have HW := hidp (bef_cmp hz)
     clear hz
     go_wp2_with fail
     refine wp_region_below wr.heap.size (by kernel_rfl) (by kernel_rfl) ?_
     repeat
      refine q_step (by rfl) ?_
      apply Exists.intro
      refine ⟨fun w9 h9 => ?_, ?_⟩
      ·have hc9 := (bcell h9).1
       go_simp
       first | done | rfl | exact calls_below h9 (Nat.le_refl _) ((fcmp_any x y w9).mono fun _ _ ⟨he, hd⟩ => ⟨he, hd.b⟩)
      go_simp
     refine wpQuiet_nil ?_
     intro w9 hb9
     have hb3 := hbe.trans (hb9.mono hbe.size)
     clear c0 c1 c2 c3 c4 c5 c6 c7 d0 d1 d2 d3 d4 d5 d6 d7 hwrap hto hpos
     rw [HW.out]
     cases z
     ·go_wp2_with fail
      go_ret
      refine ⟨ret_int ?_, hb3⟩
      rw [← HR.out, checkF, HB.out, sortedB_no HX.out HY.out HV.out]; rfl
     ·go_wp2_with fail
      go_roundw
      case rel => exact ⟨k + 1, by omega, by go_num, HA.out.step HX.out HY.out HV.out, hb3⟩
      case measure => simp [intOf]; omega
    ·obtain rfl : k = n - 1 := by omega
     go_wp2_with fail
     go_ret
     refine ⟨ret_int ?_, hbe⟩
     rw [← HR.out, checkF, HB.out, HA.out.all (by rw [← HN.out]; omega)]; rfl
end
section
open Go.RowKit Go.Shelf
attribute [local go_sem] Oper.semAt_some
theorem ofF_take_yes {l : List Fc} {kk : Ky} {known : Int} {k : Nat} {x : Fc} (h : l[k]? = some x) (h1 : x.key = kk) (h2 : x.known ≤ known) : ofF (l.take (k + 1)) kk known = ofF (l.take k) kk known ++ [x] := by
 rw [take_snoc h, ofF, ofF, List.filter_append]
 simp [h1, h2]
theorem ofF_take_no {l : List Fc} {kk : Ky} {known : Int} {k : Nat} {x : Fc} (h : l[k]? = some x) (h1 : ¬ (x.key = kk ∧ x.known ≤ known)) : ofF (l.take (k + 1)) kk known = ofF (l.take k) kk known := by
 rw [take_snoc h, ofF, ofF, List.filter_append]
 have : (decide (x.key = kk) && decide (x.known ≤ known)) = false := by
  rw [← Bool.decide_and, decide_eq_false_iff_not]; exact h1
 simp [this]
theorem ofF_split {l : List Fc} {kk : Ky} {known : Int} {k : Nat} {x : Fc} (h : l[k]? = some x) (h1 : x.key = kk) (h2 : x.known ≤ known) : ofF l kk known = ofF (l.take k) kk known ++ x :: ofF (l.drop (k + 1)) kk known := by
 conv => lhs; rw [split_at h]
 rw [ofF, ofF, ofF, List.filter_append]
 simp [h1, h2]
set_option maxRecDepth 100000 in
set_option maxHeartbeats 2000000 in
theorem of1_seq (Bl Bk Bn n₀ : Nat) (A : Option Addr) (len cap : Nat) (l : List Fc) (kk : Ky) (known : Int) (w : World)
  (hBl : w.cell? ⟨Bl, 0, none⟩ = some (.slice A len cap)) (hBk : w.heap[Bk]? = some (.cells #[.int .i64 kk.kind, .int .i64 kk.subj, .int .i64 kk.obj] 50 (0, 0))) (hBn : w.cell? ⟨Bn, 0, none⟩ = some (.int .i64 known)) (hm : fSl w n₀ A len cap l) :
  SeqC Tryz.prog 125 #[.pointer (some ⟨Bl, 0, none⟩), .pointer (some ⟨Bk, 0, none⟩), .pointer (some ⟨Bn, 0, none⟩)] (fun x : Fc => #[.agg #[.int .i64 x.key.kind, .int .i64 x.key.subj, .int .i64 x.key.obj, .int .i64 x.val, .int .i64 x.fr, .int .i64 x.to, .int .i64 x.known, .int .i64 x.no]])
   (ofF l kk known) (fun b => b < n₀ ∨ b = Bl ∨ b = Bk ∨ b = Bn) w := by
 intro li J Jx C W hS hC hJ hJx hY h0
 refine (callsIn_wide (n := 0)).1 (callsIn_of_wp Tryz.func125 rfl trivial ?_ rfl)
 simp only [Tryz.ntmps125, List.size_toArray, List.length_cons, List.length_nil, Nat.reduceAdd, Nat.reduceSub, Array.replicate_succ, Array.replicate_zero, List.push_toArray, List.append_toArray, List.nil_append, List.cons_append]
 have HY := hidp hY
 have HJ := hidp hJ
 have HJx := hidp hJx
 clear hY hJ hJx
 have hBW := (SeqSt.start hS hC).cell (b := Bl) (o := 0) (.inr (.inl rfl))
 rw [hBl] at hBW
 have hlen := hm.2.1
 have hcap := hm.2.2.1
 have HN := hidp hm.1
 have hk0 := cell_of_heap (o := 0) hBk
 have hk1 := cell_of_heap (o := 1) hBk
 have hk2 := cell_of_heap (o := 2) hBk
 simp only [List.getElem?_toArray, List.getElem?_cons_zero, List.getElem?_cons_succ] at hk0 hk1 hk2
 gi_wp2
 gi_loopw [6, 9] (fun _ i wr => ∃ (k : Nat) (C1 : Nat → Prop), k ≤ len ∧ i = .int .i64 k ∧ J (ofF (l.take k) kk known) C1 wr ∧ SeqSt (fun b => b < n₀ ∨ b = Bl ∨ b = Bk ∨ b = Bn) w W C1 wr)
  (fun _ i _ => len - (intOf i).toNat)
 case atStart => exact ⟨0, C, by omega, rfl, h0, SeqSt.start hS hC⟩
 case round =>
  obtain ⟨k, C1, hk, rfl, hJk, hst⟩ := hrel
  have hbk0 := hst.cell (b := Bk) (o := 0) (.inr (.inr (.inl rfl)))
  have hbk1 := hst.cell (b := Bk) (o := 1) (.inr (.inr (.inl rfl)))
  have hbk2 := hst.cell (b := Bk) (o := 2) (.inr (.inr (.inl rfl)))
  have hbn := hst.cell (b := Bn) (o := 0) (.inr (.inr (.inr rfl)))
  rw [hk0] at hbk0
  rw [hk1] at hbk1
  rw [hk2] at hbk2
  rw [hBn] at hbn
  have hmr := hm.keep fStable (Nat.le_refl _) fun b hb => (hst.reads b (.inl hb)).2.1
  have hBkl := lt_of_cell hbk0
  have hBnl := lt_of_cell hbn
  clear hm h0 hBW hBl hBn hBk hk0 hk1 hk2
  by_cases hlt : k < len
  ·obtain ⟨b, off, x, rfl, hb, hzk, c0, c1, c2, c3, c4, c5, c6, c7⟩ := fSl.get hmr hlt
   have hbl := lt_of_cell c0
   have hJa := HJ.out _ _ _ _ hJk ((Kept.refl _ wr).alloc (.cells #[.int .i64 x.key.kind, .int .i64 x.key.subj, .int .i64 x.key.obj, .int .i64 x.val, .int .i64 x.fr, .int .i64 x.to, .int .i64 x.known, .int .i64 x.no] 54))
   have hsa := hst.alloc (.cells #[.int .i64 x.key.kind, .int .i64 x.key.subj, .int .i64 x.key.obj, .int .i64 x.val, .int .i64 x.fr, .int .i64 x.to, .int .i64 x.known, .int .i64 x.no] 54)
   have HZ := hidp hzk
   clear hmr hzk hJk
   obtain ⟨z, hz⟩ : ∃ z, decide (x.key = kk) = z := ⟨_, rfl⟩
   have hq := fun W => k_eql x.key kk W
   rw [hz] at hq
   have HQ := hidp hz
   clear hz
   cases z
   ·have HT : Hid (ofF (l.take (k + 1)) kk known = ofF (l.take k) kk known) := ofF_take_no HZ.out (fun h => by have := HQ.out; simp [h.1] at this)
    gi_wp2
    refine ⟨(fun _ h => by cases h), ?_⟩
    gi_wp2
    go_roundw
    case rel => exact ⟨k + 1, C1, by omega, by go_num, by rw [HT.out]; exact hJa, hsa⟩
    case measure => simp [intOf]; omega
   ·obtain ⟨z2, hz2⟩ : ∃ z, decide (x.known ≤ known) = z := ⟨_, rfl⟩
    have HK := hidp hz2
    cases z2
    ·have HT : Hid (ofF (l.take (k + 1)) kk known = ofF (l.take k) kk known) := ofF_take_no HZ.out (fun h => by have := HK.out; simp [h.2] at this)
     gi_wp2
     refine ⟨(fun _ h => by cases h), ?_⟩
     gi_wp2
     go_roundw
     case rel => exact ⟨k + 1, C1, by omega, by go_num, by rw [HT.out]; exact hJa, hsa⟩
     case measure => simp [intOf]; omega
    ·have e1 : x.key = kk := by have := HQ.out; simpa using this
     have e2 : x.known ≤ known := by have := HK.out; simpa using this
     have HT : Hid (ofF (l.take (k + 1)) kk known = ofF (l.take k) kk known ++ [x]) := ofF_take_yes HZ.out e1 e2
     have HSp : Hid (ofF l kk known = ofF (l.take k) kk known ++ x :: ofF (l.drop (k + 1)) kk known) := ofF_split HZ.out e1 e2
     clear e1 e2
     obtain ⟨fn, tmps, assign, body, hy, hR⟩ := HY.out 0 _ _ _ _ _ HSp.out hJa
     clear hJa
     gi_wp2
     refine ⟨rfl, hR.mono ?_⟩
     rintro e W3 ⟨C3, hk3, hC3, (⟨rfl, hJ3⟩ | ⟨rfl, hJx3⟩)⟩
     ·gi_wp2
      go_roundw
      case rel => exact ⟨k + 1, C3, by omega, by go_num, by rw [HT.out]; exact hJ3, hsa.round hk3 hC3⟩
      case measure => simp [intOf]; omega
     ·gi_wp2
      refine bodyPost_ret (results_none rfl _ _ _) rfl ?_
      exact ⟨⟨_, rfl⟩, C3, .inr hJx3⟩
  ·obtain rfl : k = len := by omega
   have HA : Hid (l.take k = l) := List.take_of_length_le (by rw [← HN.out]; omega)
   gi_wp2
   go_end0
   exact ⟨⟨_, rfl⟩, C1, .inl (by have := hJk; rw [HA.out] at this; exact this)⟩
set_option maxHeartbeats 400000 in
theorem of_any (A : Option Addr) (n c : Nat) (kk : Ky) (known : Int) (w : World) :
  Calls Tryz.prog 97 #[.slice A n c, .agg #[.int .i64 kk.kind, .int .i64 kk.subj, .int .i64 kk.obj], .int .i64 known] w fun e w' => e = .returned (.func (.func 125) #[] #[.pointer (some ⟨w.heap.size, 0, none⟩), .pointer (some ⟨w.heap.size + 1, 0, none⟩), .pointer (some ⟨w.heap.size + 2, 0, none⟩)]) ∧ ((w.alloc (.cells #[.slice A n c] 28)).alloc (.cells #[.int .i64 kk.kind, .int .i64 kk.subj, .int .i64 kk.obj] 50)).alloc (.cells #[.int .i64 known] 3) = w' := by
 go_enter Tryz.func97, Tryz.ntmps97
 go_wp2
 go_ret
 exact ⟨rfl, rfl⟩
end
section
open Go.RowKit Go.Shelf
attribute [local go_sem] Oper.semAt_some
theorem heap_set {w : World} {b : Nat} {cs : Array Value} {t : TypeId} {fr : Nat × Nat} (h : w.heap[b]? = some (.cells cs t fr)) (o : Nat) (u : Value) : (w.setCell ⟨b, o, none⟩ u).heap[b]? = some (.cells (cs.setIfInBounds o u) t fr) := by
 simp [World.setCell, Array.getElem?_modify, h]
def Bst (b : Option Fc) (sm : Bool) (f : Fc) : Prop := (sm = false ∧ b = none) ∨ (sm = true ∧ b = some f)
theorem Bst.none (f : Fc) : Bst none false f := .inl ⟨rfl, rfl⟩
theorem Bst.some (f : Fc) : Bst (some f) true f := .inr ⟨rfl, rfl⟩
theorem better_no {t : Int} {b : Option Fc} {x : Fc} (h : x.at t = false) : better t b x = b := by simp [better, h]
theorem better_new {t : Int} {x : Fc} (h : x.at t = true) : better t none x = some x := by simp [better, h]
theorem better_old {t : Int} {x f : Fc} (h : x.at t = true) (hb : x.bef f = true) : better t (some f) x = some f := by simp [better, h, hb]
theorem better_up {t : Int} {x f : Fc} (h : x.at t = true) (hb : x.bef f = false) : better t (some f) x = some x := by simp [better, h, hb]
theorem bst_no {pre : List Fc} {t : Int} {sm : Bool} {f x : Fc} (h : Bst (bestF pre t) sm f) (hx : x.at t = false) : Bst (bestF (pre ++ [x]) t) sm f := by
 rw [bestF_snoc, better_no hx]; exact h
theorem bst_new {pre : List Fc} {t : Int} {f x : Fc} (h : Bst (bestF pre t) false f) (hx : x.at t = true) : Bst (bestF (pre ++ [x]) t) true x := by
 rcases h with ⟨_, h⟩ | ⟨h, _⟩
 ·rw [bestF_snoc, h, better_new hx]; exact Bst.some x
 ·cases h
theorem bst_up {pre : List Fc} {t : Int} {f x : Fc} (h : Bst (bestF pre t) true f) (hx : x.at t = true) (hb : x.bef f = false) : Bst (bestF (pre ++ [x]) t) true x := by
 rcases h with ⟨h, _⟩ | ⟨_, h⟩
 ·cases h
 ·rw [bestF_snoc, h, better_up hx hb]; exact Bst.some x
theorem bst_old {pre : List Fc} {t : Int} {f x : Fc} (h : Bst (bestF pre t) true f) (hx : x.at t = true) (hb : x.bef f = true) : Bst (bestF (pre ++ [x]) t) true f := by
 rcases h with ⟨h, _⟩ | ⟨_, h⟩
 ·cases h
 ·rw [bestF_snoc, h, better_old hx hb]; exact Bst.some f
theorem at_false1 {x : Fc} {t : Int} (h : decide (x.fr ≤ t) = false) : x.at t = false := by simp [Fc.at, h]
theorem at_false2 {x : Fc} {t : Int} (h : decide (t < x.to) = false) : x.at t = false := by simp [Fc.at, h]
theorem at_true {x : Fc} {t : Int} (h : decide (x.fr ≤ t) = true) (h2 : decide (t < x.to) = true) : x.at t = true := by simp [Fc.at, h, h2]
theorem at_store {w W2 : World} {B1 B2 B3 : Nat} {f x : Fc} {o1 : Option Obj} {sm : Bool} (h1 : W2.heap[B1]? = o1) (h2 : W2.heap[B2]? = some (.cells #[.int .i64 f.key.kind, .int .i64 f.key.subj, .int .i64 f.key.obj, .int .i64 f.val, .int .i64 f.fr, .int .i64 f.to, .int .i64 f.known, .int .i64 f.no] 54 (0, 0))) (h3 : W2.heap[B3]? = some (.cells #[.bool sm] 4 (0, 0)))
  (hb : Below w.heap.size w W2) (h12 : B1 ≠ B2) (h13 : B1 ≠ B3) (h23 : B2 ≠ B3) (hB2 : w.heap.size ≤ B2) (hB3 : w.heap.size ≤ B3) :
  Kept (fun b => b = B2 ∨ b = B3) W2 (((((((((W2.setCell ⟨B2, 0, none⟩ (.int .i64 x.key.kind)).setCell ⟨B2, 1, none⟩ (.int .i64 x.key.subj)).setCell ⟨B2, 2, none⟩ (.int .i64 x.key.obj)).setCell ⟨B2, 3, none⟩ (.int .i64 x.val)).setCell ⟨B2, 4, none⟩ (.int .i64 x.fr)).setCell ⟨B2, 5, none⟩ (.int .i64 x.to)).setCell ⟨B2, 6, none⟩ (.int .i64 x.known)).setCell ⟨B2, 7, none⟩ (.int .i64 x.no)).setCell ⟨B3, 0, none⟩ (.bool true)) ∧ (((((((((W2.setCell ⟨B2, 0, none⟩ (.int .i64 x.key.kind)).setCell ⟨B2, 1, none⟩ (.int .i64 x.key.subj)).setCell ⟨B2, 2, none⟩ (.int .i64 x.key.obj)).setCell ⟨B2, 3, none⟩ (.int .i64 x.val)).setCell ⟨B2, 4, none⟩ (.int .i64 x.fr)).setCell ⟨B2, 5, none⟩ (.int .i64 x.to)).setCell ⟨B2, 6, none⟩ (.int .i64 x.known)).setCell ⟨B2, 7, none⟩ (.int .i64 x.no)).setCell ⟨B3, 0, none⟩ (.bool true)).heap[B1]? = o1 ∧ (((((((((W2.setCell ⟨B2, 0, none⟩ (.int .i64 x.key.kind)).setCell ⟨B2, 1, none⟩ (.int .i64 x.key.subj)).setCell ⟨B2, 2, none⟩ (.int .i64 x.key.obj)).setCell ⟨B2, 3, none⟩ (.int .i64 x.val)).setCell ⟨B2, 4, none⟩ (.int .i64 x.fr)).setCell ⟨B2, 5, none⟩ (.int .i64 x.to)).setCell ⟨B2, 6, none⟩ (.int .i64 x.known)).setCell ⟨B2, 7, none⟩ (.int .i64 x.no)).setCell ⟨B3, 0, none⟩ (.bool true)).heap[B2]? = some (.cells #[.int .i64 x.key.kind, .int .i64 x.key.subj, .int .i64 x.key.obj, .int .i64 x.val, .int .i64 x.fr, .int .i64 x.to, .int .i64 x.known, .int .i64 x.no] 54 (0, 0)) ∧ (((((((((W2.setCell ⟨B2, 0, none⟩ (.int .i64 x.key.kind)).setCell ⟨B2, 1, none⟩ (.int .i64 x.key.subj)).setCell ⟨B2, 2, none⟩ (.int .i64 x.key.obj)).setCell ⟨B2, 3, none⟩ (.int .i64 x.val)).setCell ⟨B2, 4, none⟩ (.int .i64 x.fr)).setCell ⟨B2, 5, none⟩ (.int .i64 x.to)).setCell ⟨B2, 6, none⟩ (.int .i64 x.known)).setCell ⟨B2, 7, none⟩ (.int .i64 x.no)).setCell ⟨B3, 0, none⟩ (.bool true)).heap[B3]? = some (.cells #[.bool true] 4 (0, 0)) ∧ Below w.heap.size w (((((((((W2.setCell ⟨B2, 0, none⟩ (.int .i64 x.key.kind)).setCell ⟨B2, 1, none⟩ (.int .i64 x.key.subj)).setCell ⟨B2, 2, none⟩ (.int .i64 x.key.obj)).setCell ⟨B2, 3, none⟩ (.int .i64 x.val)).setCell ⟨B2, 4, none⟩ (.int .i64 x.fr)).setCell ⟨B2, 5, none⟩ (.int .i64 x.to)).setCell ⟨B2, 6, none⟩ (.int .i64 x.known)).setCell ⟨B2, 7, none⟩ (.int .i64 x.no)).setCell ⟨B3, 0, none⟩ (.bool true)) := by
 have a0 := heap_set_ne h1 h12 0 (.int .i64 x.key.kind)
 have b0 := heap_set h2 0 (.int .i64 x.key.kind)
 have c0 := heap_set_ne h3 (Ne.symm h23) 0 (.int .i64 x.key.kind)
 have k0 := (Kept.refl (fun b => b = B2 ∨ b = B3) W2).setCell (p := ⟨B2, 0, none⟩) (.inl (.inl rfl)) (.int .i64 x.key.kind)
 have l0 := hb.setCell (p := ⟨B2, 0, none⟩) hB2 (.int .i64 x.key.kind)
 have a1 := heap_set_ne a0 h12 1 (.int .i64 x.key.subj)
 have b1 := heap_set b0 1 (.int .i64 x.key.subj)
 have c1 := heap_set_ne c0 (Ne.symm h23) 1 (.int .i64 x.key.subj)
 have k1 := k0.setCell (p := ⟨B2, 1, none⟩) (.inl (.inl rfl)) (.int .i64 x.key.subj)
 have l1 := l0.setCell (p := ⟨B2, 1, none⟩) hB2 (.int .i64 x.key.subj)
 have a2 := heap_set_ne a1 h12 2 (.int .i64 x.key.obj)
 have b2 := heap_set b1 2 (.int .i64 x.key.obj)
 have c2 := heap_set_ne c1 (Ne.symm h23) 2 (.int .i64 x.key.obj)
 have k2 := k1.setCell (p := ⟨B2, 2, none⟩) (.inl (.inl rfl)) (.int .i64 x.key.obj)
 have l2 := l1.setCell (p := ⟨B2, 2, none⟩) hB2 (.int .i64 x.key.obj)
 have a3 := heap_set_ne a2 h12 3 (.int .i64 x.val)
 have b3 := heap_set b2 3 (.int .i64 x.val)
 have c3 := heap_set_ne c2 (Ne.symm h23) 3 (.int .i64 x.val)
 have k3 := k2.setCell (p := ⟨B2, 3, none⟩) (.inl (.inl rfl)) (.int .i64 x.val)
 have l3 := l2.setCell (p := ⟨B2, 3, none⟩) hB2 (.int .i64 x.val)
 have a4 := heap_set_ne a3 h12 4 (.int .i64 x.fr)
 have b4 := heap_set b3 4 (.int .i64 x.fr)
 have c4 := heap_set_ne c3 (Ne.symm h23) 4 (.int .i64 x.fr)
 have k4 := k3.setCell (p := ⟨B2, 4, none⟩) (.inl (.inl rfl)) (.int .i64 x.fr)
 have l4 := l3.setCell (p := ⟨B2, 4, none⟩) hB2 (.int .i64 x.fr)
 have a5 := heap_set_ne a4 h12 5 (.int .i64 x.to)
 have b5 := heap_set b4 5 (.int .i64 x.to)
 have c5 := heap_set_ne c4 (Ne.symm h23) 5 (.int .i64 x.to)
 have k5 := k4.setCell (p := ⟨B2, 5, none⟩) (.inl (.inl rfl)) (.int .i64 x.to)
 have l5 := l4.setCell (p := ⟨B2, 5, none⟩) hB2 (.int .i64 x.to)
 have a6 := heap_set_ne a5 h12 6 (.int .i64 x.known)
 have b6 := heap_set b5 6 (.int .i64 x.known)
 have c6 := heap_set_ne c5 (Ne.symm h23) 6 (.int .i64 x.known)
 have k6 := k5.setCell (p := ⟨B2, 6, none⟩) (.inl (.inl rfl)) (.int .i64 x.known)
 have l6 := l5.setCell (p := ⟨B2, 6, none⟩) hB2 (.int .i64 x.known)
 have a7 := heap_set_ne a6 h12 7 (.int .i64 x.no)
 have b7 := heap_set b6 7 (.int .i64 x.no)
 have c7 := heap_set_ne c6 (Ne.symm h23) 7 (.int .i64 x.no)
 have k7 := k6.setCell (p := ⟨B2, 7, none⟩) (.inl (.inl rfl)) (.int .i64 x.no)
 have l7 := l6.setCell (p := ⟨B2, 7, none⟩) hB2 (.int .i64 x.no)
 have a9 := heap_set_ne a7 h13 0 (.bool true)
 have b9 := heap_set_ne b7 h23 0 (.bool true)
 have c9 := heap_set c7 0 (.bool true)
 have k9 := k7.setCell (p := ⟨B3, 0, none⟩) (.inl (.inr rfl)) (.bool true)
 have l9 := l7.setCell (p := ⟨B3, 0, none⟩) hB3 (.bool true)
 refine ⟨k9, a9, ?_, ?_, l9⟩
 ·simpa using b9
 ·simpa using c9
def AtPost (l : List Fc) (k : Ky) (t known : Int) (w : World) (e : Ending) (w' : World) : Prop := e = .returned (.tuple #[.int .i64 ((atF l k t known).getD 0), .bool (atF l k t known).isSome]) ∧ Below w.heap.size w w'
set_option maxRecDepth 100000 in
set_option maxHeartbeats 1000000 in
theorem fAt_any (A : Option Addr) (n c : Nat) (l : List Fc) (kk : Ky) (t known : Int) (w : World) (hl : fSl w w.heap.size A n c l) :
  Calls Tryz.prog 62 #[.slice A n c, .agg #[.int .i64 kk.kind, .int .i64 kk.subj, .int .i64 kk.obj], .int .i64 t, .int .i64 known] w (AtPost l kk t known w) := by
 refine calls_of_wp_marks Tryz.func62 rfl ?_
 simp only [Tryz.ntmps62, List.size_toArray, List.length_cons, List.length_nil, Nat.reduceAdd, Nat.reduceSub, Array.replicate_succ, Array.replicate_zero, List.push_toArray, List.append_toArray, List.nil_append, List.cons_append]
 obtain ⟨W0, hW0⟩ : ∃ W0, (((w.alloc (.cells #[.int .i64 kk.kind, .int .i64 kk.subj, .int .i64 kk.obj] 50)).alloc (.cells #[.int .i64 t] 3)).alloc (.cells #[.int .i64 0, .int .i64 0, .int .i64 0, .int .i64 0, .int .i64 0, .int .i64 0, .int .i64 0, .int .i64 0] 54)).alloc (.cells #[.bool false] 4) = W0 := ⟨_, rfl⟩
 have hBW : Below w.heap.size w W0 := by rw [← hW0]; exact ((((Below.refl _ w).alloc (Nat.le_refl _) _).alloc (by simp) _).alloc (by simp; omega) _).alloc (by simp; omega) _
 have hz0 : W0.heap.size = w.heap.size + 4 := by rw [← hW0]; simp
 obtain ⟨B1, hB1⟩ : ∃ b, w.heap.size + 1 = b := ⟨_, rfl⟩
 obtain ⟨B2, hB2⟩ : ∃ b, B1 + 1 = b := ⟨_, rfl⟩
 obtain ⟨B3, hB3⟩ : ∃ b, B2 + 1 = b := ⟨_, rfl⟩
 have g1 : W0.heap[B1]? = some (.cells #[.int .i64 t] 3 (0, 0)) := by
  rw [← hW0, Below.heap_alloc _ _ _ (by simp; omega), Below.heap_alloc _ _ _ (by simp; omega)]
  have := World.alloc_heap_new (w.alloc (.cells #[.int .i64 kk.kind, .int .i64 kk.subj, .int .i64 kk.obj] 50)) (.cells #[.int .i64 t] 3)
  rwa [World.size_alloc, hB1] at this
 have g2 : W0.heap[B2]? = some (.cells #[.int .i64 0, .int .i64 0, .int .i64 0, .int .i64 0, .int .i64 0, .int .i64 0, .int .i64 0, .int .i64 0] 54 (0, 0)) := by
  rw [← hW0, Below.heap_alloc _ _ _ (by simp; omega)]
  have := World.alloc_heap_new ((w.alloc (.cells #[.int .i64 kk.kind, .int .i64 kk.subj, .int .i64 kk.obj] 50)).alloc (.cells #[.int .i64 t] 3)) (.cells #[.int .i64 0, .int .i64 0, .int .i64 0, .int .i64 0, .int .i64 0, .int .i64 0, .int .i64 0, .int .i64 0] 54)
  rwa [World.size_alloc, World.size_alloc, hB1, hB2] at this
 have g3 : W0.heap[B3]? = some (.cells #[.bool false] 4 (0, 0)) := by
  rw [← hW0]
  have := World.alloc_heap_new (((w.alloc (.cells #[.int .i64 kk.kind, .int .i64 kk.subj, .int .i64 kk.obj] 50)).alloc (.cells #[.int .i64 t] 3)).alloc (.cells #[.int .i64 0, .int .i64 0, .int .i64 0, .int .i64 0, .int .i64 0, .int .i64 0, .int .i64 0, .int .i64 0] 54)) (.cells #[.bool false] 4)
  rwa [World.size_alloc, World.size_alloc, World.size_alloc, hB1, hB2, hB3] at this
 have HW0 := hidp hW0
 have HZ0 := hidp hz0
 have G1 := hidp g1
 have G2 := hidp g2
 have G3 := hidp g3
 have HB1 := hidp hB1
 have HB2 := hidp hB2
 have HB3 := hidp hB3
 clear hW0 hz0 g1 g2 g3 hB1 hB2 hB3
 go_wp2_with fail
 rw [HW0.out, HB1.out, HB2.out, HB3.out]
 refine (of_any A n c kk known W0).mono ?_
 rintro e w1 ⟨rfl, hw1⟩
 go_wp2_with fail
 have hb1 : w1.heap[W0.heap.size]? = some (.cells #[.slice A n c] 28 (0, 0)) := by
  rw [← hw1, Below.heap_alloc _ _ _ (by simp; omega), Below.heap_alloc _ _ _ (by simp)]; exact World.alloc_heap_new _ _
 have hb2 : w1.heap[W0.heap.size + 1]? = some (.cells #[.int .i64 kk.kind, .int .i64 kk.subj, .int .i64 kk.obj] 50 (0, 0)) := by
  rw [← hw1, Below.heap_alloc _ _ _ (by simp)]
  have := World.alloc_heap_new (W0.alloc (.cells #[.slice A n c] 28)) (.cells #[.int .i64 kk.kind, .int .i64 kk.subj, .int .i64 kk.obj] 50)
  rwa [World.size_alloc] at this
 have hb3 : w1.heap[W0.heap.size + 2]? = some (.cells #[.int .i64 known] 3 (0, 0)) := by
  rw [← hw1]
  have := World.alloc_heap_new ((W0.alloc (.cells #[.slice A n c] 28)).alloc (.cells #[.int .i64 kk.kind, .int .i64 kk.subj, .int .i64 kk.obj] 50)) (.cells #[.int .i64 known] 3)
  rwa [World.size_alloc, World.size_alloc] at this
 have hBe : Below W0.heap.size W0 w1 := by rw [← hw1]; exact (((Below.refl _ W0).alloc (Nat.le_refl _) _).alloc (by simp) _).alloc (by simp; omega) _
 have hz1 : w1.heap.size = W0.heap.size + 3 := by rw [← hw1]; simp
 have k1 := (hBe.block _ (lt_of_heap G1.out)).trans G1.out
 have k2 := (hBe.block _ (lt_of_heap G2.out)).trans G2.out
 have k3 := (hBe.block _ (lt_of_heap G3.out)).trans G3.out
 have hB1w : Below w.heap.size w w1 := hBW.trans (hBe.mono hBW.size)
 have hseq := of1_seq W0.heap.size (W0.heap.size + 1) (W0.heap.size + 2) w.heap.size A n c l kk known w1 (cell_of_heap hb1) hb2 (cell_of_heap hb3) (hl.below fStable hB1w)
 obtain ⟨z0, z0'⟩ : W0.heap.size ≤ w.heap.size + 4 ∧ w.heap.size + 4 ≤ W0.heap.size := by have := HZ0.out; omega
 obtain ⟨y1, y1'⟩ : w.heap.size + 1 ≤ B1 ∧ B1 ≤ w.heap.size + 1 := by have := HB1.out; omega
 obtain ⟨y2, y2'⟩ : B1 + 1 ≤ B2 ∧ B2 ≤ B1 + 1 := by have := HB2.out; omega
 obtain ⟨y3, y3'⟩ : B2 + 1 ≤ B3 ∧ B3 ≤ B2 + 1 := by have := HB3.out; omega
 have K1 := hidp k1
 have K2 := hidp k2
 have K3 := hidp k3
 clear hb1 hb2 hb3 hw1 k1 k2 k3 G1 G2 G3 HW0
 refine wp_rangeM (gf := 125) (lb := #[.pointer (some ⟨W0.heap.size, 0, none⟩), .pointer (some ⟨W0.heap.size + 1, 0, none⟩), .pointer (some ⟨W0.heap.size + 2, 0, none⟩)]) rfl (enters_of Tryz.func125 (by kernel_rfl) rfl) hseq (fun b => b = B2 ∨ b = B3) ?S (fun _ => rfl) ?M
  (fun pre W => ∃ (sm : Bool) (f : Fc), W.heap[B1]? = some (.cells #[.int .i64 t] 3 (0, 0)) ∧ W.heap[B2]? = some (.cells #[.int .i64 f.key.kind, .int .i64 f.key.subj, .int .i64 f.key.obj, .int .i64 f.val, .int .i64 f.fr, .int .i64 f.to, .int .i64 f.known, .int .i64 f.no] 54 (0, 0)) ∧ W.heap[B3]? = some (.cells #[.bool sm] 4 (0, 0)) ∧ Bst (bestF pre t) sm f ∧ Below w.heap.size w W)
  (fun _ _ => False)
  ?hI ?hIx ?h0 (fun ll pre x a' W => ∃ (B4 : Nat) (sm : Bool) (f : Fc), W.heap[B1]? = some (.cells #[.int .i64 t] 3 (0, 0)) ∧ W.heap[B2]? = some (.cells #[.int .i64 f.key.kind, .int .i64 f.key.subj, .int .i64 f.key.obj, .int .i64 f.val, .int .i64 f.fr, .int .i64 f.to, .int .i64 f.known, .int .i64 f.no] 54 (0, 0)) ∧ W.heap[B3]? = some (.cells #[.bool sm] 4 (0, 0)) ∧ Bst (bestF pre t) sm f ∧ Below w.heap.size w W ∧
    B4 ≠ ll ∧ B3 < B4 ∧ W.heap[B4]? = some (.cells #[.int .i64 x.key.kind, .int .i64 x.key.subj, .int .i64 x.key.obj, .int .i64 x.val, .int .i64 x.fr, .int .i64 x.to, .int .i64 x.known, .int .i64 x.no] 54 (0, 0)) ∧
    a' = { tmps := #[.slice A n c, .agg #[.int .i64 kk.kind, .int .i64 kk.subj, .int .i64 kk.obj], .int .i64 t, .int .i64 known, undef, .pointer (some ⟨w.heap.size, 0, none⟩), .pointer (some ⟨B1, 0, none⟩), undef, .int .i64 0, .bool false, .pointer (some ⟨B2, 0, none⟩), .pointer (some ⟨B3, 0, none⟩), .pointer (some ⟨B4, 0, none⟩), .slice A n c, .agg #[.int .i64 kk.kind, .int .i64 kk.subj, .int .i64 kk.obj], .int .i64 known,
     .func (.func 125) #[] #[.pointer (some ⟨W0.heap.size, 0, none⟩), .pointer (some ⟨W0.heap.size + 1, 0, none⟩), .pointer (some ⟨W0.heap.size + 2, 0, none⟩)], .agg #[.int .i64 x.key.kind, .int .i64 x.key.subj, .int .i64 x.key.obj, .int .i64 x.val, .int .i64 x.fr, .int .i64 x.to, .int .i64 x.known, .int .i64 x.no], undef, undef, undef, undef, undef, undef, undef, undef, undef, undef, undef, undef, undef, undef, undef, undef, undef, undef, undef, undef, undef, undef, undef, undef, undef, undef, undef, undef, undef, undef, undef, undef], defers := [] })
  ?hAx ?assign ?body ?done ?stop
 case S =>
  have z1 := hz1
  have hs := hBW.size
  rintro b (hb | rfl | rfl | rfl) <;> exact ⟨by omega, rfl, by omega⟩
 case M => rintro b (rfl | rfl) <;> omega
 case hI =>
  rintro pre W1 W2 ⟨sm, f, h1, h2, h3, h4, h5⟩ hk
  exact ⟨sm, f, (hk.block _ (lt_of_heap h1) (by omega)).trans h1, (hk.block _ (lt_of_heap h2) (by omega)).trans h2, (hk.block _ (lt_of_heap h3) (by omega)).trans h3, h4, h5.trans (hk.toBelow h5.size (by omega))⟩
 case hIx => rintro cd W1 W2 h; exact h.elim
 case h0 => exact ⟨false, ⟨⟨0, 0, 0⟩, 0, 0, 0, 0, 0⟩, K1.out, K2.out, K3.out, Bst.none _, hB1w⟩
 case hAx =>
  rintro ll pre x a' W2 W3 hll ⟨B4, sm, f, h1, h2, h3, h4, h5, h6, h7, h8, rfl⟩ _ hk
  exact ⟨B4, sm, f, (hk.block _ (lt_of_heap h1) (by omega)).trans h1, (hk.block _ (lt_of_heap h2) (by omega)).trans h2, (hk.block _ (lt_of_heap h3) (by omega)).trans h3, h4, h5.trans (hk.toBelow h5.size (by omega)), h6, h7, (hk.block _ (lt_of_heap h8) h6).trans h8, rfl⟩
 case assign =>
  rintro ll m pre x suf W1 K hll hlt _ ⟨sm, f, h1, h2, h3, h4, h5⟩ hK
  have l1 := lt_of_heap h1
  have l2 := lt_of_heap h2
  have l3 := lt_of_heap h3
  gi_wp2
  refine hK _ _ ((Kept.refl _ _).alloc _) ⟨W1.heap.size, sm, f, (Below.heap_alloc _ _ _ l1).trans h1, (Below.heap_alloc _ _ _ l2).trans h2, (Below.heap_alloc _ _ _ l3).trans h3, h4, h5.alloc h5.size _, by omega, by omega, World.alloc_heap_new _ _, rfl⟩
 case body =>
  rintro ll m pre x suf a' W2 hll hxs ⟨B4, sm, f, h1, h2, h3, h4, h5, h6, h7, h8, rfl⟩ _
  have c1 := cell_of_heap (o := 0) h1
  have s0 := cell_of_heap (o := 0) h3
  have t0 := frozen_of_heap (o := 0) h3
  have f0 := cell_of_heap (o := 0) h2
  have r0 := frozen_of_heap (o := 0) h2
  have x0 := cell_of_heap (o := 0) h8
  have f1 := cell_of_heap (o := 1) h2
  have r1 := frozen_of_heap (o := 1) h2
  have x1 := cell_of_heap (o := 1) h8
  have f2 := cell_of_heap (o := 2) h2
  have r2 := frozen_of_heap (o := 2) h2
  have x2 := cell_of_heap (o := 2) h8
  have f3 := cell_of_heap (o := 3) h2
  have r3 := frozen_of_heap (o := 3) h2
  have x3 := cell_of_heap (o := 3) h8
  have f4 := cell_of_heap (o := 4) h2
  have r4 := frozen_of_heap (o := 4) h2
  have x4 := cell_of_heap (o := 4) h8
  have f5 := cell_of_heap (o := 5) h2
  have r5 := frozen_of_heap (o := 5) h2
  have x5 := cell_of_heap (o := 5) h8
  have f6 := cell_of_heap (o := 6) h2
  have r6 := frozen_of_heap (o := 6) h2
  have x6 := cell_of_heap (o := 6) h8
  have f7 := cell_of_heap (o := 7) h2
  have r7 := frozen_of_heap (o := 7) h2
  have x7 := cell_of_heap (o := 7) h8
  simp only [List.getElem?_toArray, List.getElem?_cons_zero, List.getElem?_cons_succ] at c1 s0 f0 f1 f2 f3 f4 f5 f6 f7 x0 x1 x2 x3 x4 x5 x6 x7
  have l1 := lt_of_heap h1
  have l2 := lt_of_heap h2
  have l3 := lt_of_heap h3
  have l8 := lt_of_heap h8
  have H1 := hidp h1
  have H2 := hidp h2
  have H3 := hidp h3
  have H4 := hidp h4
  clear h1 h2 h3 h4 h8 hxs hseq
  obtain ⟨d1, hd1⟩ : ∃ z, decide (x.fr ≤ t) = z := ⟨_, rfl⟩
  have D1 := hidp hd1
  cases d1
  ·gi_wp2
   all_goals (try (exfalso; rename_i hq; exact hq _ rfl))
   all_goals (try (exfalso; rename_i hq _; simp [undef] at hq; done))
   all_goals (try (rename_i hq hr; injection hq with hq; injection hq with hq; subst hq; exact absurd rfl hr))
   all_goals (try (rename_i hq hr; injection hq with hq; injection hq with hq; subst hq; cases hr; done))
   refine ⟨trivial, ?_⟩
   gi_wp2
   exact ⟨Kept.refl _ _, sm, f, H1.out, H2.out, H3.out, bst_no H4.out (at_false1 D1.out), h5⟩
  ·obtain ⟨d2, hd2⟩ : ∃ z, decide (t < x.to) = z := ⟨_, rfl⟩
   have D2 := hidp hd2
   cases d2
   ·gi_wp2
    all_goals (try (exfalso; rename_i hq; exact hq _ rfl))
    all_goals (try (exfalso; rename_i hq _; simp [undef] at hq; done))
    all_goals (try (rename_i hq hr; injection hq with hq; injection hq with hq; subst hq; exact absurd rfl hr))
    all_goals (try (rename_i hq hr; injection hq with hq; injection hq with hq; subst hq; cases hr; done))
    refine ⟨trivial, ?_⟩
    gi_wp2
    exact ⟨Kept.refl _ _, sm, f, H1.out, H2.out, H3.out, bst_no H4.out (at_false2 D2.out), h5⟩
   ·have hx := at_true D1.out D2.out
    have HX := hidp hx
    clear hx
    cases sm
    ·gi_wp2
     all_goals (try (exfalso; rename_i hq; exact hq _ rfl))
     all_goals (try (exfalso; rename_i hq _; simp [undef] at hq; done))
     all_goals (try (rename_i hq hr; injection hq with hq; injection hq with hq; subst hq; exact absurd rfl hr))
     all_goals (try (rename_i hq hr; injection hq with hq; injection hq with hq; subst hq; cases hr; done))
     refine ⟨trivial, ?_⟩
     gi_wp2
     obtain ⟨q1, q2, q3, q4, q5⟩ := at_store (x := x) H1.out H2.out H3.out h5 (by omega) (by omega) (by omega) (by omega) (by omega)
     exact ⟨q1, true, x, q2, q3, q4, bst_new H4.out HX.out, q5⟩
    ·obtain ⟨z, hz⟩ : ∃ z, x.bef f = z := ⟨_, rfl⟩
     have HV := hidp hz
     have HW := hidp (bef_cmp hz)
     clear hz
     gi_wp2
     all_goals (try (exfalso; rename_i hq; exact hq _ rfl))
     all_goals (try (exfalso; rename_i hq _; simp [undef] at hq; done))
     all_goals (try (rename_i hq hr; injection hq with hq; injection hq with hq; subst hq; exact absurd rfl hr))
     all_goals (try (rename_i hq hr; injection hq with hq; injection hq with hq; subst hq; cases hr; done))
     refine ⟨trivial, fun h => by simp [Fence.wide] at h, (CallsIn.inRound ll (callsIn_wide.2 (fcmp_any x f _))).mono ?_⟩
     rintro e w3 ⟨rfl, hb3⟩
     have hb3 := hb3.b
     obtain ⟨hc3, hf3⟩ := bcell hb3
     have hz3 := hb3.size
     have hB3' := h5.trans (hb3.mono h5.size)
     have K1 := (hb3.block _ l1).trans H1.out
     have K2 := (hb3.block _ l2).trans H2.out
     have K3 := (hb3.block _ l3).trans H3.out
     have K1' := hidp K1
     have K2' := hidp K2
     have K3' := hidp K3
     have hk3 := kept_of_below (M := fun b => b = B2 ∨ b = B3) hb3 (by omega)
     clear K1 K2 K3
     cases z
     ·have hw : decide (0 ≤ cmpF x f) = true := HW.out
      gi_wp2
      obtain ⟨q1, q2, q3, q4, q5⟩ := at_store (x := x) K1'.out K2'.out K3'.out hB3' (by omega) (by omega) (by omega) (by omega) (by omega)
      exact ⟨hk3.trans q1, true, x, q2, q3, q4, bst_up H4.out HX.out HV.out, q5⟩
     ·have hw : decide (0 ≤ cmpF x f) = false := HW.out
      gi_wp2
      exact ⟨hk3, true, f, K1'.out, K2'.out, K3'.out, bst_old H4.out HX.out HV.out, hB3'⟩
 case done =>
  rintro D W hD hlt ⟨sm, f, h1, h2, h3, h4, h5⟩ hk
  have s0 := cell_of_heap (o := 0) h3
  have f3 := cell_of_heap (o := 3) h2
  simp only [List.getElem?_toArray, List.getElem?_cons_zero, List.getElem?_cons_succ] at s0 f3
  have HK := hidp hk
  have l2 := lt_of_heap h2
  have l3 := lt_of_heap h3
  have hBD := h5.trans (((Kept.refl (fun b => b = D) W).putObj (r := D) (.inl rfl) (.deferred none)).toBelow h5.size (by omega))
  have HB := hidp h4
  clear hk h1 h2 h3 h4 hseq
  cases sm
  ·have HR : Hid (atF l kk t known = none) := by
    rcases HB.out with ⟨_, h⟩ | ⟨h, _⟩
    ·show _ = _; rw [atF, h]
    ·cases h
   go_wp2
   refine leave_mark (.inl rfl) (D := D) HK.out rfl (v := .tuple #[.int .i64 0, .bool false]) ?_ ⟨by rw [HR.out]; rfl, hBD⟩
   simp [results, Tryz.f62, go_sem]
  ·have HF : Hid (bestF (ofF l kk known) t = some f) := by
    rcases HB.out with ⟨h, _⟩ | ⟨_, h⟩
    ·cases h
    ·exact h
   by_cases hv : f.val < 0
   ·have HR : Hid (atF l kk t known = none) := by show _ = _; rw [atF, HF.out]; simp [hv]
    go_wp2
    refine leave_mark (.inl rfl) (D := D) HK.out rfl (v := .tuple #[.int .i64 0, .bool false]) ?_ ⟨by rw [HR.out]; rfl, hBD⟩
    simp [results, Tryz.f62, go_sem]
   ·have HR : Hid (atF l kk t known = some f.val) := by show _ = _; rw [atF, HF.out]; simp [hv]
    go_wp2
    refine leave_mark (.inl rfl) (D := D) HK.out rfl (v := .tuple #[.int .i64 f.val, .bool true]) ?_ ⟨by rw [HR.out]; rfl, hBD⟩
    simp [results, Tryz.f62, go_sem]
 case stop => rintro D cd W hD hlt h; exact h.elim
end
end Go.Proofs.YtbegdcjofnfkiaaGreatDoor
