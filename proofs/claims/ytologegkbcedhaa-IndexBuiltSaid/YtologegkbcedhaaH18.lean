/- IndexBuilt walked (printed by tools/gen63.py). -/
import Derived.Test.YtologegkbcedhaaH12
namespace Go.Proofs.Ytologegkbcedhaa
open Go.RowKit Go.Shelf

theorem allTo_mem' (ds : List (List Rd)) (n : Nat) (x : Lk) : x ∈ allTo ds n ↔ ∃ i : Nat, i < n ∧ x.2 = (i : Int) ∧ x.1 ∈ ds.getD i [] := by
  unfold allTo
  simp only [List.mem_flatMap, List.mem_range, linksOf, List.mem_map]
  constructor
  · rintro ⟨i, hi, r, hr, rfl⟩; exact ⟨i, hi, rfl, hr⟩
  · rintro ⟨i, hi, h1, h2⟩; exact ⟨i, hi, x.1, h2, by rw [← h1]⟩
theorem build_mem (ds : List (List Rd)) (x : Lk) : x ∈ buildL ds ↔ ∃ i : Nat, i < ds.length ∧ x.2 = (i : Int) ∧ x.1 ∈ ds.getD i [] := by
  rw [buildL, ordL, ordOf_mem, allTo_mem']
theorem build_check (ds : List (List Rd)) : checkL (buildL ds) ds.length = 0 := by
  rw [checkL, if_pos]
  refine ⟨?_, (strB_str linL _).2 (ordOf_str linL _)⟩
  rw [List.all_eq_true]
  intro x hx
  obtain ⟨i, h1, h2, _⟩ := (build_mem ds x).1 hx
  rw [Bool.and_eq_true, decide_eq_true_iff, decide_eq_true_iff]
  omega
theorem fewD_bd3 {l : List De} (h : fewD l = true) : l.length ≤ 12 ∧ (allTo (l.map (·.2)) l.length).length ≤ 60 := by
  simpa [fewD] using h
/-- Is a link among these? -/
def metL (X : List Lk) (y : Lk) : Bool := X.any fun x => decide (x = y)
theorem metL_step {X : List Lk} {y x : Lk} {k : Nat} (h : X[k]? = some x) : metL (X.take (k + 1)) y = (metL (X.take k) y || decide (x = y)) := by
  rw [metL, metL, take_snoc h, List.any_append]; simp
theorem metL_true {X : List Lk} {y : Lk} (h : y ∈ X) : metL X y = true := by
  rw [metL, List.any_eq_true]; exact ⟨y, h, by simp⟩
def metR (X : List Rd) (y : Rd) : Bool := X.any fun x => decide (x = y)
theorem metR_step {X : List Rd} {y x : Rd} {k : Nat} (h : X[k]? = some x) : metR (X.take (k + 1)) y = (metR (X.take k) y || decide (x = y)) := by
  rw [metR, metR, take_snoc h, List.any_append]; simp
theorem metR_true {X : List Rd} {y : Rd} (h : y ∈ X) : metR X y = true := by
  rw [metR, List.any_eq_true]; exact ⟨y, h, by simp⟩
set_option maxRecDepth 100000 in
set_option maxHeartbeats 2000000 in
theorem rd_eql (a b : Rd) (w : World) : (binOp .eql 47 (.agg #[.int .i64 a.1.kind, .int .i64 a.1.subj, .int .i64 a.1.obj, .int .i64 a.2.1, .int .i64 a.2.2]) (.agg #[.int .i64 b.1.kind, .int .i64 b.1.subj, .int .i64 b.1.obj, .int .i64 b.2.1, .int .i64 b.2.2])).run Try.prog w = .ok (.bool (decide (a = b))) w := by
  have h : (Op.equalIn 10000 47 (.agg #[.int .i64 a.1.kind, .int .i64 a.1.subj, .int .i64 a.1.obj, .int .i64 a.2.1, .int .i64 a.2.2]) (.agg #[.int .i64 b.1.kind, .int .i64 b.1.subj, .int .i64 b.1.obj, .int .i64 b.2.1, .int .i64 b.2.2])).run Try.prog w = .ok (decide (a = b)) w := by
    have hS : Try.prog.underlying 47 = some (.struct (Try.prog.fieldsOf 47)) := by kernel_rfl
    have hp : Try.prog.stoodInHeld 47 = false := by kernel_rfl
    rw [show (10000 : Nat) = 9999 + 1 from rfl, run_equalIn_agg w 9999 47 _ _ hS hp]
    simp only [Program.fieldsOf, Try.underlying47]
    have agKey := Try.isAgg45
    have szKey := Try.sizeOf45
    have u3 := Try.underlying3
    have a3 := Try.isAgg3
    have z3 := Try.sizeOf3
    clear hS hp
    go_simp
    by_cases he : a = b
    · subst he
      simp
    · rw [decide_eq_false he]
      repeat' split
      all_goals first | rfl | (exfalso; exact he (Prod.ext (Ky.ext' ‹_› ‹_› ‹_›) (Prod.ext ‹_› ‹_›)))
  rw [run_eql_struct, h]
  rfl

def BuiltCalls : Prop := ∀ (A : Option Addr) (n c : Nat) (l : List De) (w : World), deSl w w.heap.size A n c l → (∀ x ∈ l, x.1.rn ≤ 70368744177664) →
  Calls Try.prog 6 #[.slice A n c] w fun e w' => e = .returned (.bool true) ∧ Below w.heap.size w w'

set_option maxRecDepth 100000 in
set_option maxHeartbeats 8000000 in
theorem built_calls : BuiltCalls := by
  intro A n c l w hl hB
  have HL := hidp hl
  have HN := hidp hl.1
  have hcap := hl.2.2.1
  have hlen := hl.2.1
  clear hl
  go_enter Try.func6, Try.ntmps6
  go_wp2_with fail
  refine (sane35_any w).mono ?_
  rintro e w1 ⟨rfl, hb1⟩
  have hl1 := HL.out.keep deStable hb1.size hb1.block
  go_wp2_with fail
  refine (qFew_any A n c l w1 hl1 hB).mono ?_
  rintro e w2 ⟨rfl, hb2⟩
  have hB2 := hb1.trans (hb2.mono hb1.size)
  have hl2 := hl1.keep deStable hb2.size hb2.block
  obtain ⟨zf, hzf⟩ : ∃ z, fewD l = z := ⟨_, rfl⟩
  rw [hzf]
  cases zf
  · clear hl1 hl2
    go_wp2_with fail
    go_ret
    exact ⟨rfl, hB2⟩
  obtain ⟨h12, h60⟩ := fewD_bd3 hzf
  rw [← HN.out] at h12
  have h60' : (allTo (l.map (·.2)) n).length ≤ 60 := by rw [HN.out]; exact h60
  have HL2 := hidp hl2
  clear hl1 hl2 hzf h60
  go_wp2_with fail
  refine (xBuild_any A n c l w2 HL2.out (by omega) (by omega)).mono ?_
  rintro e w3 ⟨A3, n3, c3, rfl, r3, hb3⟩
  have hc3 := r3.2.2.1
  have hl3 := r3.2.1
  have HN3 := hidp r3.1
  obtain ⟨w4, hw4⟩ : ∃ w4, w3.alloc (.cells #[.slice A3 n3 c3] 28) = w4 := ⟨_, rfl⟩
  have g4 : w4.heap[w3.heap.size]? = some (.cells #[.slice A3 n3 c3] 28 (0, 0)) := by rw [← hw4]; exact World.alloc_heap_new _ _
  have hb4 : Below w3.heap.size w3 w4 := by rw [← hw4]; exact (Below.refl _ w3).alloc (Nat.le_refl _) _
  have h24 : Below w2.heap.size w2 w4 := hb3.trans (hb4.mono hb3.size)
  have r4 := r3.keep lStable hb4.size hb4.block
  have hM : ∀ W, Below w4.heap.size w4 W → (W.cell? ⟨w3.heap.size, 0, none⟩ = some (.slice A3 n3 c3) ∧ w3.heap.size < W.heap.size) ∧ lSl W W.heap.size A3 n3 c3 (buildL (l.map (·.2))) ∧ deSl W W.heap.size A n c l := fun W hW => by
    have k3 := (hW.block _ (lt_of_heap g4)).trans g4
    have h2 : Below w2.heap.size w2 W := h24.trans (hW.mono h24.size)
    exact ⟨⟨cell_of_heap k3, lt_of_heap k3⟩, r4.keep lStable hW.size hW.block, HL2.out.keep deStable h2.size h2.block⟩
  have HM := hidp hM
  have HW4 := hidp hw4
  have HB4 := hidp (hB2.trans (h24.mono hB2.size))
  have hchk : checkL (buildL (l.map (·.2))) (n : Int) = 0 := by
    have := build_check (l.map (·.2))
    rw [List.length_map, ← HN.out] at this
    exact this
  have hn30 : n = 0 → n3 = 0 := fun h => by
    have h1 := HN3.out
    have h2 := ordOf_len (lt := ltL) (allTo (l.map (·.2)) (l.map (·.2)).length)
    have h3 := HN.out
    rw [buildL, ordL] at h1
    simp only [List.length_map] at h1 h2
    rw [← h3, h] at h1 h2
    have h4 : (allTo (l.map (·.2)) 0).length = 0 := by simp [allTo]
    omega
  have HN30 := hidp hn30
  have HCHK := hidp hchk
  clear hw4 g4 hb4 r4 hM r3 hb3 h24 hn30 hchk hB2
  go_wp2_with fail
  rw [HW4.out]
  obtain ⟨⟨m0, m1⟩, ml4, -⟩ := HM.out w4 (Below.refl _ _)
  have HML4 := hidp ml4
  clear ml4
  go_wp2_with fail
  refine (xCheck_any A3 n3 c3 _ n w4 HML4.out).mono ?_
  rintro e w5 ⟨rfl, hb5⟩
  rw [HCHK.out]
  have hB5 : Below w4.heap.size w4 w5 := hb5
  obtain ⟨⟨m0', m1'⟩, -⟩ := HM.out w5 hB5
  rcases Nat.eq_zero_or_pos n with h0 | h0
  · have h30 := HN30.out h0
    subst h0
    subst h30
    clear m0 m1
    go_wp2_with fail
    clear m0' m1'
    go_loopw [4, 5, 6, 7] (fun i _ _ _ wr => i = .int .i64 0 ∧ Below w4.heap.size w4 wr) (fun _ _ _ _ _ => 0)
    case atStart => exact ⟨rfl, hB5⟩
    case round =>
      obtain ⟨rfl, hba⟩ := hrel
      go_wp2_with fail
      go_loopw [8, 9, 10, 11] (fun i _ _ _ wr => i = .int .i64 0 ∧ Below w4.heap.size w4 wr) (fun _ _ _ _ _ => 0)
      case atStart => exact ⟨rfl, hba⟩
      case round =>
        obtain ⟨rfl, hbb2⟩ := hrel
        obtain ⟨⟨m0, m1⟩, -, -⟩ := HM.out _ hbb2
        go_wp2_with fail
        go_ret
        exact ⟨rfl, HB4.out.trans (hbb2.mono HB4.out.size)⟩
  · have hzb : ((n : Int) == 0) = false := by simp; omega
    clear m0 m1 hb5
    go_wp2_with fail
    clear m0' m1' hzb
    go_loopw [4, 5, 6, 7] (fun i _ _ _ wr => ∃ k : Nat, k ≤ n ∧ i = .int .i64 k ∧ Below w4.heap.size w4 wr) (fun i _ _ _ _ => n - (intOf i).toNat)
    case atStart => exact ⟨0, by omega, rfl, hB5⟩
    case round =>
      rename World => wa
      obtain ⟨k, hk, rfl, hba⟩ := hrel
      by_cases hlt : k < n
      · obtain ⟨b, off, x, rfl, hbb, hzx, hrd, c0, c1, c2, c3', c4, c5, c6, c7, c8, c9⟩ := deSl.get HL.out hlt
        have HZX := hidp hzx
        have hkn : (k : Int) < n := by omega
        have HRN := hidp hrd.1
        have hrc := hrd.2.2.1
        have hrn2 := hrd.2.1
        have hx60 : x.1.rn ≤ 60 := by
          have h1 := allTo_mono (l.map (·.2)) (show k + 1 ≤ n by omega)
          rw [allTo_step (de_reads hzx), List.length_append] at h1
          simp only [linksOf, List.length_map] at h1
          have := HRN.out
          omega
        clear hzx hrd c0 c1 c2 c3' c4 c5 c6 c7 c8 c9
        go_wp2_with fail
        go_loopw [5, 6, 7] (fun i _ _ wr => ∃ q : Nat, q ≤ x.1.rn ∧ i = .int .i64 q ∧ Below w4.heap.size w4 wr) (fun i _ _ _ => x.1.rn - (intOf i).toNat)
        case atStart => exact ⟨0, by omega, rfl, hba⟩
        case round =>
          rename World => wb
          obtain ⟨q, hq, rfl, hbb2⟩ := hrel
          obtain ⟨-, -, md⟩ := HM.out _ hbb2
          obtain ⟨b', off', x', hA', hbb', hzx', hrd, c0, c1, c2, c3', c4, c5, c6, c7, c8, c9⟩ := deSl.get md hlt
          have hxx : x' = x := by have := HZX.out; rw [hzx'] at this; exact Option.some.inj this
          simp only [Option.some.injEq, Addr.mk.injEq, and_true] at hA'
          obtain ⟨rfl, rfl⟩ := hA'
          rw [hxx] at hrd c8
          have lb := lt_of_cell c8
          have HRD := hidp hrd
          clear md hzx' hxx c0 c1 c2 c3' c4 c5 c6 c7 c9 hrd
          by_cases hqm : q < x.1.rn
          · obtain ⟨br, ofr, r, hre, hbr, hzr, r0, r1, r2, r3', r4'⟩ := RdSl.get HRD.out hqm
            have hqn : (q : Int) < x.1.rn := by omega
            have hy : ((r, (k : Int)) : Lk) ∈ buildL (l.map (·.2)) := (build_mem _ _).2 ⟨k, by rw [List.length_map, ← HN.out]; exact hlt, rfl, by
              rw [List.getD_eq_getElem?_getD, de_reads HZX.out]
              exact List.mem_of_getElem? hzr⟩
            have HY := hidp (metL_true hy)
            have HZR := hidp hzr
            have HRE := hidp hre
            clear r0 r1 r2 r3' r4' hzr hy hre
            go_wp2_with fail
            clear c8 lb
            go_loopw [6, 7] (fun m i wr => ∃ j : Nat, j ≤ n3 ∧ m = .bool (metL ((buildL (l.map (·.2))).take j) (r, (k : Int))) ∧ i = .int .i64 j ∧ Below w4.heap.size w4 wr) (fun _ i _ => n3 - (intOf i).toNat)
            case atStart => exact ⟨0, by omega, rfl, rfl, hbb2⟩
            case round =>
              rename World => wc
              obtain ⟨j, hj, rfl, rfl, hbc⟩ := hrel
              obtain ⟨⟨m0, m1⟩, ml, md⟩ := HM.out _ hbc
              by_cases hjm : j < n3
              · obtain ⟨bx, ofx, xl, rfl, hbx, hzl, f0, f1, f2, f3, f4, f5⟩ := lSl.get ml hjm
                obtain ⟨b'', off'', x'', hA'', hbb'', hzx'', hrd, c0, c1, c2, c3', c4, c5, c6, c7, c8, c9⟩ := deSl.get md hlt
                have hxx : x'' = x := by have := HZX.out; rw [hzx''] at this; exact Option.some.inj this
                simp only [Option.some.injEq, Addr.mk.injEq, and_true] at hA''
                obtain ⟨rfl, rfl⟩ := hA''
                rw [hxx] at hrd c8
                obtain ⟨br', ofr', r', hre', hbr', hzr', r0, r1, r2, r3', r4'⟩ := RdSl.get hrd hqm
                have hrr : r' = r := by have := HZR.out; rw [hzr'] at this; exact Option.some.inj this
                rw [hrr] at r0 r1 r2 r3' r4'
                rw [hre'] at c8
                have lb := lt_of_cell c8
                have lr := lt_of_cell r0
                have lx := lt_of_cell f0
                have hjn : (j : Int) < n3 := by omega
                have HST : Hid (metL ((buildL (l.map (·.2))).take (j + 1)) (r, (k : Int)) = (metL ((buildL (l.map (·.2))).take j) (r, (k : Int)) || decide (xl = (r, (k : Int))))) := metL_step hzl
                have hql := fun W => l_eql xl (r, (k : Int)) W
                obtain ⟨z2, hz2⟩ : ∃ z, decide (xl = (r, (k : Int))) = z := ⟨_, rfl⟩
                rw [hz2] at hql
                obtain ⟨z, hz⟩ : ∃ z, metL ((buildL (l.map (·.2))).take j) (r, (k : Int)) = z := ⟨_, rfl⟩
                have HZ := hidp hz
                have HZ2 := hidp hz2
                rw [hz]
                clear hz hz2 md ml c0 c1 c2 c3' c4 c5 c6 c7 c9 hzl hzx'' hzr' hrd hre' hxx hrr
                cases z
                all_goals
                  go_wp2_with fail
                  refine wp_region_below wc.heap.size (by kernel_rfl) (by kernel_rfl) ?_
                  repeat
                    first
                    | go_big_quiet_skip
                    | (refine q_step (by rfl) ?_
                       apply Exists.intro
                       refine ⟨fun w9 h9 => ?_, ?_⟩
                       · have hc9 := (bcell h9).1
                         go_simp
                         first | done | rfl
                       go_simp)
                  refine wpQuiet_nil ?_
                  intro w9 hb9
                  have hbz := hbc.trans (hb9.mono hbc.size)
                  clear m0 m1 f0 f1 f2 f3 f4 f5 c8 r0 r1 r2 r3' r4' lb lr lx hql hb9
                  go_wp2_with fail
                  go_roundw
                  case rel => exact ⟨j + 1, by omega, by rw [HST.out, HZ.out, HZ2.out]; rfl, by go_num, hbz⟩
                  case measure => simp [intOf]; omega
              · obtain rfl : n3 = j := by omega
                have hT : (buildL (l.map (·.2))).take n3 = buildL (l.map (·.2)) := List.take_of_length_le (by rw [HN3.out]; exact Nat.le_refl _)
                rw [hT, HY.out]
                clear ml md hT
                go_wp2_with fail
                go_roundw
                case rel => exact ⟨q + 1, by omega, by go_num, hbc⟩
                case measure => simp [intOf]; omega
          · obtain rfl : q = x.1.rn := by omega
            go_wp2_with fail
            go_roundw
            case rel => exact ⟨k + 1, by omega, by go_num, hbb2⟩
            case measure => simp [intOf]; omega
      · obtain rfl : k = n := by omega
        go_wp2_with fail
        go_loopw [8, 9, 10, 11] (fun i _ _ _ wr => ∃ j : Nat, j ≤ n3 ∧ i = .int .i64 j ∧ Below w4.heap.size w4 wr) (fun i _ _ _ _ => n3 - (intOf i).toNat)
        case atStart => exact ⟨0, by omega, rfl, hba⟩
        case round =>
          rename World => wb
          obtain ⟨j, hj, rfl, hbb2⟩ := hrel
          obtain ⟨⟨m0, m1⟩, ml, -⟩ := HM.out _ hbb2
          by_cases hjm : j < n3
          · obtain ⟨bx, ofx, xl, rfl, hbx, hzl, f0, f1, f2, f3, f4, f5⟩ := lSl.get ml hjm
            obtain ⟨i, hi, h1, h2⟩ := (build_mem _ _).1 (List.mem_of_getElem? hzl)
            rw [List.length_map, ← HN.out] at hi
            rw [h1] at f5
            have lx := lt_of_cell f0
            have hjn : (j : Int) < n3 := by omega
            have hin : (i : Int) < k := by omega
            have hige : decide ((0 : Int) ≤ (i : Int)) = true := by simp
            have HZL := hidp hzl
            obtain ⟨b, off, x, rfl, hbb, hzx, hrd, -⟩ := deSl.get HL.out hi
            have HZX := hidp hzx
            have HRN := hidp hrd.1
            have hrc := hrd.2.2.1
            have hrn2 := hrd.2.1
            have hmem : xl.1 ∈ x.2 := by
              rw [List.getD_eq_getElem?_getD, de_reads hzx] at h2
              exact h2
            have HY := hidp (metR_true hmem)
            clear ml f0 f1 f2 f3 f4 hzl h1 h2 hzx hrd hmem
            go_wp2_with fail
            refine wp_region_below wb.heap.size (by kernel_rfl) (by kernel_rfl) ?_
            repeat
              first
              | go_big_quiet_skip
              | (refine q_step (by rfl) ?_
                 apply Exists.intro
                 refine ⟨fun w9 h9 => ?_, ?_⟩
                 · have hc9 := (bcell h9).1
                   go_simp
                   first | done | rfl
                 go_simp)
            refine wpQuiet_nil ?_
            intro w9 hb9
            have hbz := hbb2.trans (hb9.mono hbb2.size)
            clear m0 m1 f5 lx hb9
            go_wp2_with fail
            go_loopw [9, 11] (fun m i wr => ∃ q : Nat, q ≤ x.1.rn ∧ m = .bool (metR (x.2.take q) xl.1) ∧ i = .int .i64 q ∧ Below w4.heap.size w4 wr) (fun _ i _ => x.1.rn - (intOf i).toNat)
            case atStart => exact ⟨0, by omega, rfl, rfl, hbz⟩
            case round =>
              rename World => wc
              obtain ⟨q, hq, rfl, rfl, hbc⟩ := hrel
              obtain ⟨⟨m0, m1⟩, ml, md⟩ := HM.out _ hbc
              obtain ⟨b'', off'', x'', hA'', hbb'', hzx'', hrd, c0, c1, c2, c3', c4, c5, c6, c7, c8, c9⟩ := deSl.get md hi
              have hxx : x'' = x := by have := HZX.out; rw [hzx''] at this; exact Option.some.inj this
              rw [hxx] at hrd c8
              have lb := lt_of_cell c8
              simp only [Option.some.injEq, Addr.mk.injEq, and_true] at hA''
              obtain ⟨rfl, rfl⟩ := hA''
              clear md c0 c1 c2 c3' c4 c5 c6 c7 c9 hzx'' hxx
              by_cases hqm : q < x.1.rn
              · obtain ⟨br, ofr, r, hre, hbr, hzr, r0, r1, r2, r3', r4'⟩ := RdSl.get hrd hqm
                obtain ⟨bx', ofx', xl', hxe', hbx', hzl', f0, f1, f2, f3, f4, f5⟩ := lSl.get ml hjm
                have hxl : xl' = xl := by have := HZL.out; rw [hzl'] at this; exact Option.some.inj this
                rw [hxl] at f0 f1 f2 f3 f4
                simp only [Option.some.injEq, Addr.mk.injEq, and_true] at hxe'
                obtain ⟨rfl, rfl⟩ := hxe'
                rw [hre] at c8
                have lr := lt_of_cell r0
                have lx := lt_of_cell f0
                have hqn : (q : Int) < x.1.rn := by omega
                have HST : Hid (metR (x.2.take (q + 1)) xl.1 = (metR (x.2.take q) xl.1 || decide (r = xl.1))) := metR_step hzr
                have hql := fun W => rd_eql r xl.1 W
                obtain ⟨z2, hz2⟩ : ∃ z, decide (r = xl.1) = z := ⟨_, rfl⟩
                rw [hz2] at hql
                obtain ⟨z, hz⟩ : ∃ z, metR (x.2.take q) xl.1 = z := ⟨_, rfl⟩
                have HZ := hidp hz
                have HZ2 := hidp hz2
                rw [hz]
                clear hz hz2 ml f5 hzr hrd hre hzl' hxl
                cases z
                all_goals
                  go_wp2_with fail
                  refine wp_region_below wc.heap.size (by kernel_rfl) (by kernel_rfl) ?_
                  repeat
                    first
                    | go_big_quiet_skip
                    | (refine q_step (by rfl) ?_
                       apply Exists.intro
                       refine ⟨fun w9 h9 => ?_, ?_⟩
                       · have hc9 := (bcell h9).1
                         go_simp
                         first | done | rfl
                       go_simp)
                  refine wpQuiet_nil ?_
                  intro w10 hb10
                  have hbz2 := hbc.trans (hb10.mono hbc.size)
                  clear m0 m1 f0 f1 f2 f3 f4 c8 r0 r1 r2 r3' r4' lb lr lx hql hb10
                  go_wp2_with fail
                  go_roundw
                  case rel => exact ⟨q + 1, by omega, by rw [HST.out, HZ.out, HZ2.out]; rfl, by go_num, hbz2⟩
                  case measure => simp [intOf]; omega
              · obtain rfl : q = x.1.rn := by omega
                have hT : x.2.take x.1.rn = x.2 := List.take_of_length_le (by have := HRN.out; omega)
                rw [hT, HY.out]
                clear ml hT
                go_wp2_with fail
                go_roundw
                case rel => exact ⟨j + 1, by omega, by go_num, hbc⟩
                case measure => simp [intOf]; omega
          · obtain rfl : n3 = j := by omega
            clear ml
            go_wp2_with fail
            go_ret
            exact ⟨rfl, HB4.out.trans (hbb2.mono HB4.out.size)⟩
end Go.Proofs.Ytologegkbcedhaa
