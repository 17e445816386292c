/- Several texts in one: J4 RelR Round. -/
import Derived.Test.YtbegdcjofnfkiaaGreatDoorQ7
import Derived.Test.YtbegdcjofnfkiaaGreatDoorQ6
import Derived.Test.YtbegdcjofnfkiaaGreatDoorQ4
import Derived.OwnWalkIn
import Derived.TacticsInMore
import Derived.LoopNIn
import Derived.LoopIn
import Derived.OrdersIn
import Derived.TacticsIn
import Derived.RangeFuncCalls
import Derived.Test.YtbegdcjofnfkiaaGreatDoorQ1
namespace Go.Proofs.YtbegdcjofnfkiaaGreatDoor
section
open Go.RowKit Go.Shelf
attribute [local go_sem] Oper.semAt_some
def blkOf (A : Option Addr) : Nat := (A.map (·.block)).getD 0
def offOf (A : Option Addr) : Nat := (A.map (·.off)).getD 0
abbrev PAr := Addr × Ar
def paEnc (x : PAr) : List Value := [.pointer (some x.1)]
theorem paEnc_len (x : PAr) : (paEnc x).length = 1 := rfl
theorem paEnc_one (x : PAr) : ∀ u ∈ paEnc x, u.oneCell' = true := by
 intro u hu; simp [paEnc] at hu; subst hu; rfl
instance : Inhabited PAr := ⟨(⟨0, 0, none⟩, default)⟩
def atomP (b o i : Nat) (a : Am) : List PAr := [(⟨b, o + i * 9 + 1, none⟩, a.s), (⟨b, o + i * 9 + 3, none⟩, a.o), (⟨b, o + i * 9 + 5, none⟩, a.v)]
def testP (b o i : Nat) (t : Te) : List PAr := [(⟨b, o + i * 5 + 1, none⟩, t.a), (⟨b, o + i * 5 + 3, none⟩, t.b)]
def atomsP (b o : Nat) : List Am → Nat → List PAr
 | [], _ => []
 | a :: l, i => atomP b o i a ++ atomsP b o l (i + 1)
def testsP (b o : Nat) : List Te → Nat → List PAr
 | [], _ => []
 | a :: l, i => testP b o i a ++ testsP b o l (i + 1)
theorem atomsP_append (b o : Nat) (m : List Am) : ∀ (l : List Am) (i : Nat), atomsP b o (l ++ m) i = atomsP b o l i ++ atomsP b o m (i + l.length)
  | [], i => by simp [atomsP]
  | a :: l, i => by
    simp only [List.cons_append, atomsP, atomsP_append b o m l (i + 1), List.append_assoc, List.length_cons]
    rw [show i + 1 + l.length = i + (l.length + 1) by omega]
theorem testsP_append (b o : Nat) (m : List Te) : ∀ (l : List Te) (i : Nat), testsP b o (l ++ m) i = testsP b o l i ++ testsP b o m (i + l.length)
  | [], i => by simp [testsP]
  | a :: l, i => by
    simp only [List.cons_append, testsP, testsP_append b o m l (i + 1), List.append_assoc, List.length_cons]
    rw [show i + 1 + l.length = i + (l.length + 1) by omega]
theorem atomsP_len (b o : Nat) : ∀ (l : List Am) (i : Nat), (atomsP b o l i).length = 3 * l.length
 | [], _ => rfl
 | a :: l, i => by simp [atomsP, atomP, atomsP_len b o l]; omega
theorem testsP_len (b o : Nat) : ∀ (l : List Te) (i : Nat), (testsP b o l i).length = 2 * l.length
 | [], _ => rfl
 | a :: l, i => by simp [testsP, testP, testsP_len b o l]; omega
theorem atomsP_step {b o k : Nat} {l : List Am} {x : Am} (h : l[k]? = some x) : atomsP b o (l.take (k + 1)) 0 = atomsP b o (l.take k) 0 ++ atomP b o k x := by
 rw [take_snoc h, atomsP_append]
 have : (l.take k).length = k := by rw [List.length_take]; have := (List.getElem?_eq_some_iff.1 h).1; omega
 simp [atomsP, this]
theorem testsP_step {b o k : Nat} {l : List Te} {x : Te} (h : l[k]? = some x) : testsP b o (l.take (k + 1)) 0 = testsP b o (l.take k) 0 ++ testP b o k x := by
 rw [take_snoc h, testsP_append]
 have : (l.take k).length = k := by rw [List.length_take]; have := (List.getElem?_eq_some_iff.1 h).1; omega
 simp [testsP, this]
def argP (q : Qu) : List PAr := atomsP (blkOf q.aA) (offOf q.aA) q.atoms 0 ++ testsP (blkOf q.tA) (offOf q.tA) q.tests 0
theorem argPtr_info : (Tryz.prog.info? 120).map (fun i => (i.zero, i.size, i.bytes)) = some (some (.pointer none), 1, 8) := by kernel_rfl
set_option maxRecDepth 100000 in
set_option maxHeartbeats 2000000 in
theorem args1_seq (Bq Q n₀ : Nat) (q : Qu) (w : World)
  (hBq : w.cell? ⟨Bq, 0, none⟩ = some (.pointer (some ⟨Q, 0, none⟩))) (hQ : w.heap[Q]? = some (.cells #[.slice q.nA q.nn q.nc, .slice q.sA q.sn q.sc, .slice q.aA q.an q.ac, .slice q.tA q.tn q.tc] 27 (0, 0)))
  (ha : amSl w n₀ q.aA q.an q.ac q.atoms) (ht : teSl w n₀ q.tA q.tn q.tc q.tests) (hl : q.an ≤ 1000 ∧ q.tn ≤ 1000) :
  SeqC Tryz.prog 95 #[.pointer (some ⟨Bq, 0, none⟩)] (fun x : PAr => #[.pointer (some x.1)]) (argP q) (fun b => b < n₀ ∨ b = Bq ∨ b = Q) w := by
 obtain ⟨i0, hi, hz, hs, hbb⟩ := info_parts argPtr_info
 intro li J Jx C W hS hC hJ hJx hY h0
 refine (callsIn_wide (n := 0)).1 (callsIn_of_wp Tryz.func95 rfl trivial ?_ rfl)
 simp only [Tryz.ntmps95, List.size_toArray, List.length_cons, List.length_nil, Nat.reduceAdd, Nat.reduceSub, Array.replicate_succ, Array.replicate_zero, List.push_toArray, List.append_toArray, List.nil_append, List.cons_append]
 have HY := hidp hY
 have HJ := hidp hJ
 have HJx := hidp hJx
 clear hY hJ hJx
 have HA := hidp ha
 have HT := hidp ht
 have HL := hidp hl
 have HQ := hidp hQ
 have HBQ := hidp hBq
 have haq := ha.2.1
 have hac := ha.2.2.1
 have htq := ht.2.1
 have htc := ht.2.2.1
 have HCells : Hid (∀ C1 wr, SeqSt (fun b => b < n₀ ∨ b = Bq ∨ b = Q) w W C1 wr → wr.cell? ⟨Bq, 0, none⟩ = some (.pointer (some ⟨Q, 0, none⟩)) ∧ wr.cell? ⟨Q, 2, none⟩ = some (.slice q.aA q.an q.ac) ∧ wr.cell? ⟨Q, 3, none⟩ = some (.slice q.tA q.tn q.tc) ∧ Bq < wr.heap.size ∧ Q < wr.heap.size) := fun C1 wr hst => by
  have h1 := (hst.cell (b := Bq) (o := 0) (.inr (.inl rfl))).trans HBQ.out
  have h2 := (hst.cell (b := Q) (o := 2) (.inr (.inr rfl))).trans (cell_of_heap HQ.out)
  have h3 := (hst.cell (b := Q) (o := 3) (.inr (.inr rfl))).trans (cell_of_heap HQ.out)
  exact ⟨h1, h2, h3, lt_of_cell h1, lt_of_cell h2⟩
 have HCs := hidp hC
 clear ha ht hl hQ hBq
 obtain ⟨e1, e2, e3, e4, e5⟩ := HCells.out C W (SeqSt.start hS hC)
 gi_wp2
 gi_loopw [3, 14] (fun v i wr => ∃ k : Nat, k ≤ q.an ∧ i = .int .i64 k ∧ wr.ownsRow W.heap.size 120 1 v (3 * k) ((atomsP (blkOf q.aA) (offOf q.aA) (q.atoms.take k) 0).flatMap paEnc) ∧ J [] C wr ∧ SeqSt (fun b => b < n₀ ∨ b = Bq ∨ b = Q) w W C wr)
  (fun _ i _ => q.an - (intOf i).toNat)
 case atStart => exact ⟨0, by omega, rfl, World.ownsRow_nil _ _ _ _, h0, SeqSt.start hS hC⟩
 case round =>
  obtain ⟨k, hk, rfl, hown, hJk, hst⟩ := hrel
  have HO := hidp hown
  have HZ := hidp hst.size
  clear e1 e2 e3 e4 e5 h0 hown
  obtain ⟨e1, e2, e3, e4, e5⟩ := HCells.out C wr hst
  by_cases hlt : k < q.an
  ·have hlt' : (k : Int) < q.an := by omega
   obtain ⟨b, off, x, cs, hA, hb, hx, _, _⟩ := Rows.get HA.out hlt
   have HBO : Hid (blkOf q.aA = b ∧ offOf q.aA = off) := by show _ ∧ _; rw [hA]; exact ⟨rfl, rfl⟩
   rw [hA] at e2
   have HX := hidp hx
   clear hx hA
   gi_wp2
   refine wpIn_wide.2 ?_
   refine wp_region_S wr.heap.size 11 (fun _ => false) (Nat.le_refl _) (by kernel_rfl) (by kernel_rfl) (by kernel_rfl) ?_
   dsimp only [List.take, List.drop]
   apply relS_det (mask := [])
   ·rfl
   ·kernel_rfl
   ·kernel_rfl
   ·dsimp only [oblS]
    rintro w9 h9
    go_simp
    exact ⟨Below.refl _ _, rfl⟩
   dsimp only [naL, caL]
   apply relS_det (mask := [false])
   ·rfl
   ·kernel_rfl
   ·kernel_rfl
   ·dsimp only [oblS]
    rintro w9 h9
    go_simp
    exact ⟨Below.refl _ _, rfl⟩
   dsimp only [naL, caL]
   apply relS_det (mask := [false, true])
   ·rfl
   ·kernel_rfl
   ·kernel_rfl
   ·dsimp only [oblS]
    rintro w9 h9
    go_simp
    exact ⟨Below.refl _ _, rfl⟩
   dsimp only [naL, caL]
   apply relS_det (mask := [false, false, true])
   ·rfl
   ·kernel_rfl
   ·kernel_rfl
   ·dsimp only [oblS]
    rintro w9 h9
    go_simp
    exact ⟨Below.refl _ _, rfl⟩
   dsimp only [naL, caL]
   apply relS_det (mask := [false, false, false, false])
   ·rfl
   ·kernel_rfl
   ·kernel_rfl
   ·dsimp only [oblS]
    rintro w9 h9
    go_simp
    exact ⟨Below.refl _ _, rfl⟩
   dsimp only [naL, caL]
   apply relS_det (mask := [false, false, false, false, true])
   ·rfl
   ·kernel_rfl
   ·kernel_rfl
   ·dsimp only [oblS]
    rintro w9 h9
    go_simp
    exact ⟨Below.refl _ _, rfl⟩
   dsimp only [naL, caL]
   apply relS_det (mask := [false, false, false, false, false, true])
   ·rfl
   ·kernel_rfl
   ·kernel_rfl
   ·dsimp only [oblS]
    rintro w9 h9
    go_simp
    exact ⟨Below.refl _ _, rfl⟩
   dsimp only [naL, caL]
   apply relS_det (mask := [false, false, false, false, false, false, false])
   ·rfl
   ·kernel_rfl
   ·kernel_rfl
   ·dsimp only [oblS]
    rintro w9 h9
    go_simp
    exact ⟨Below.refl _ _, rfl⟩
   dsimp only [naL, caL]
   apply relS_det (mask := [false, false, false, false, false, false, false, true])
   ·rfl
   ·kernel_rfl
   ·kernel_rfl
   ·dsimp only [oblS]
    rintro w9 h9
    go_simp
    exact ⟨Below.refl _ _, rfl⟩
   dsimp only [naL, caL]
   apply relS_det (mask := [false, false, false, false, false, false, false, false, true])
   ·rfl
   ·kernel_rfl
   ·kernel_rfl
   ·dsimp only [oblS]
    rintro w9 h9
    go_simp
    exact ⟨Below.refl _ _, rfl⟩
   dsimp only [naL, caL]
   apply relS_any (mask := [false, false, false, true, false, false, true, false, false, true]) (T := fun v w => ∃ A c, v = .slice A 3 c ∧ Rows 1 (Rep.flat paEnc) w w.heap.size A 3 c (atomP b off k x)) (hT := fun v w w' hb ⟨A, c, hv, hh⟩ => ⟨A, c, hv, hh.keep (Rep.flat_stable _) hb.size hb.block⟩)
   ·rfl
   ·kernel_rfl
   ·kernel_rfl
   ·dsimp only [oblS]
    rintro w9 h9 T' hT'
    go_simp
    exact ⟨(Below.refl _ w9).alloc (Nat.le_refl _) _, hT' _ _ ⟨_, _, rfl, rows_of_heap (l := atomP b off k x) paEnc_len (World.alloc_heap_new w9 _) (Nat.le_refl _) (by decide) rfl⟩⟩
   dsimp only [naL, caL]
   refine relS_end (by rfl) ?_
   dsimp only [finS]
   -- rintro v33 w8 ⟨hb, t33⟩
   rintro v33 w8 ⟨hb8, A3, c3, rfl, h3⟩
   have hown8 := own_keepB HO.out fun g hg => hb8.block g (HO.out.lt g hg).2
   obtain ⟨v', w', hrun, hown', hg, hat⟩ := run_append_rows (P := Tryz.prog) (ty := 157) (enc := paEnc) Tryz.underlying157 hi hz hs hbb rfl paEnc_len (by decide) paEnc_one hown8 h3 (by have := HL.out; omega) (by have := HL.out; omega) (by have := HZ.out; have := hb8.size; omega)
   have hkw : Kept (fun b => W.heap.size ≤ b ∧ ¬ C b) wr w' := (kept_of_below hb8 (fun b h1 h2 => by omega)).grown hg (fun g hg => .inl ⟨(HO.out.lt g hg).1, fun h => by have := HCs.out g h; have := (HO.out.lt g hg).1; omega⟩)
   have hJ' := HJ.out _ _ _ _ hJk hkw
   have hst' := hst.own hkw fun b h => h.1
   have hown2 : w'.ownsRow W.heap.size 120 1 v' (3 * (k + 1)) ((atomsP (blkOf q.aA) (offOf q.aA) (q.atoms.take (k + 1)) 0).flatMap paEnc) := by
    rw [atomsP_step HX.out, HBO.out.1, HBO.out.2, show 3 * (k + 1) = 3 * k + 3 by omega]
    rw [HBO.out.1, HBO.out.2] at hown'
    exact hown'
   have HO2 := hidp hown2
   clear hown8 h3 hown' hat hg hkw hJk hst hown2 hb8 e1 e2 e3 e4 e5
   have HRun := hidp hrun
   clear hrun
   go_simp
   go_wp2_with (at_builtin; refine wpList_append_known rfl (.tmp 23) (.tmp 33) 157 rfl rfl rfl HRun.out ?_)
   gi_wp2
   go_roundw
   case rel => exact ⟨k + 1, by omega, by go_num, HO2.out, hJ', hst'⟩
   case measure => simp [intOf]; omega
  ·obtain rfl : k = q.an := by omega
   have hkk : ¬ ((q.an : Int) < q.an) := by omega
   have HAll : Hid (q.atoms.take q.an = q.atoms) := List.take_of_length_le (by rw [HA.out.1]; exact Nat.le_refl _)
   rw [HAll.out] at HO
   gi_wp2
   gi_loopw [3, 41] (fun v i wr => ∃ k : Nat, k ≤ q.tn ∧ i = .int .i64 k ∧ wr.ownsRow W.heap.size 120 1 v (3 * q.an + 2 * k) ((atomsP (blkOf q.aA) (offOf q.aA) q.atoms 0 ++ testsP (blkOf q.tA) (offOf q.tA) (q.tests.take k) 0).flatMap paEnc) ∧ J [] C wr ∧ SeqSt (fun b => b < n₀ ∨ b = Bq ∨ b = Q) w W C wr)
    (fun _ i _ => q.tn - (intOf i).toNat)
   case atStart => exact ⟨0, by omega, rfl, by simpa [testsP] using HO.out, hJk, hst⟩
   case round =>
    rename World => wa
    obtain ⟨k, hk, rfl, hown, hJk, hst⟩ := hrel
    clear HO HZ e1 e2 e3 e4 e5
    have HO := hidp hown
    have HZ := hidp hst.size
    obtain ⟨e1, e2, e3, e4, e5⟩ := HCells.out C wa hst
    clear hown
    by_cases hlt : k < q.tn
    ·have hlt' : (k : Int) < q.tn := by omega
     obtain ⟨b, off, x, cs, hA, hb, hx, _, _⟩ := Rows.get HT.out hlt
     have HBO : Hid (blkOf q.tA = b ∧ offOf q.tA = off) := by show _ ∧ _; rw [hA]; exact ⟨rfl, rfl⟩
     rw [hA] at e3
     have HX := hidp hx
     clear hx hA
     gi_wp2
     refine wpIn_wide.2 ?_
     refine wp_region_S wa.heap.size 16 (fun _ => false) (Nat.le_refl _) (by kernel_rfl) (by kernel_rfl) (by kernel_rfl) ?_
     dsimp only [List.take, List.drop]
     apply relS_det (mask := [])
     ·rfl
     ·kernel_rfl
     ·kernel_rfl
     ·dsimp only [oblS]
      rintro w9 h9
      go_simp
      exact ⟨Below.refl _ _, rfl⟩
     dsimp only [naL, caL]
     apply relS_det (mask := [false])
     ·rfl
     ·kernel_rfl
     ·kernel_rfl
     ·dsimp only [oblS]
      rintro w9 h9
      have hc9 := (bcell h9).1
      go_simp
      exact ⟨Below.refl _ _, rfl⟩
     dsimp only [naL, caL]
     apply relS_det (mask := [false, true])
     ·rfl
     ·kernel_rfl
     ·kernel_rfl
     ·dsimp only [oblS]
      rintro w9 h9
      go_simp
      exact ⟨Below.refl _ _, rfl⟩
     dsimp only [naL, caL]
     apply relS_det (mask := [false, false, true])
     ·rfl
     ·kernel_rfl
     ·kernel_rfl
     ·dsimp only [oblS]
      rintro w9 h9
      go_simp
      exact ⟨Below.refl _ _, rfl⟩
     dsimp only [naL, caL]
     apply relS_det (mask := [false, false, false, true])
     ·rfl
     ·kernel_rfl
     ·kernel_rfl
     ·dsimp only [oblS]
      rintro w9 h9
      have hc9 := (bcell h9).1
      go_simp
      exact ⟨Below.refl _ _, rfl⟩
     dsimp only [naL, caL]
     apply relS_det (mask := [false, false, false, false, false])
     ·rfl
     ·kernel_rfl
     ·kernel_rfl
     ·dsimp only [oblS]
      rintro w9 h9
      go_simp
      exact ⟨Below.refl _ _, rfl⟩
     dsimp only [naL, caL]
     apply relS_det (mask := [false, false, false, false, true, true])
     ·rfl
     ·kernel_rfl
     ·kernel_rfl
     ·dsimp only [oblS]
      rintro w9 h9
      go_simp
      exact ⟨Below.refl _ _, rfl⟩
     dsimp only [naL, caL]
     apply relS_det (mask := [false, false, false, false, false, false, true])
     ·rfl
     ·kernel_rfl
     ·kernel_rfl
     ·dsimp only [oblS]
      rintro w9 h9
      go_simp
      exact ⟨Below.refl _ _, rfl⟩
     dsimp only [naL, caL]
     apply relS_det (mask := [false, false, false, false, false, false, false, false])
     ·rfl
     ·kernel_rfl
     ·kernel_rfl
     ·dsimp only [oblS]
      rintro w9 h9
      have hc9 := (bcell h9).1
      go_simp
      exact ⟨Below.refl _ _, rfl⟩
     dsimp only [naL, caL]
     apply relS_det (mask := [false, false, false, false, false, false, false, false, true])
     ·rfl
     ·kernel_rfl
     ·kernel_rfl
     ·dsimp only [oblS]
      rintro w9 h9
      go_simp
      exact ⟨Below.refl _ _, rfl⟩
     dsimp only [naL, caL]
     apply relS_det (mask := [false, false, false, false, false, false, false, false, false, true])
     ·rfl
     ·kernel_rfl
     ·kernel_rfl
     ·dsimp only [oblS]
      rintro w9 h9
      go_simp
      exact ⟨Below.refl _ _, rfl⟩
     dsimp only [naL, caL]
     apply relS_det (mask := [false, false, false, false, false, false, false, false, false, false, true])
     ·rfl
     ·kernel_rfl
     ·kernel_rfl
     ·dsimp only [oblS]
      rintro w9 h9
      have hc9 := (bcell h9).1
      go_simp
      exact ⟨Below.refl _ _, rfl⟩
     dsimp only [naL, caL]
     apply relS_det (mask := [false, false, false, false, false, false, false, false, false, false, false, false])
     ·rfl
     ·kernel_rfl
     ·kernel_rfl
     ·dsimp only [oblS]
      rintro w9 h9
      go_simp
      exact ⟨Below.refl _ _, rfl⟩
     dsimp only [naL, caL]
     apply relS_det (mask := [false, false, false, false, false, false, false, false, false, false, false, true, true])
     ·rfl
     ·kernel_rfl
     ·kernel_rfl
     ·dsimp only [oblS]
      rintro w9 h9
      go_simp
      exact ⟨Below.refl _ _, rfl⟩
     dsimp only [naL, caL]
     apply relS_det (mask := [false, false, false, false, false, false, false, false, false, false, false, false, false, true])
     ·rfl
     ·kernel_rfl
     ·kernel_rfl
     ·dsimp only [oblS]
      rintro w9 h9
      go_simp
      exact ⟨Below.refl _ _, rfl⟩
     dsimp only [naL, caL]
     apply relS_any (mask := [false, false, false, false, false, false, false, true, false, false, false, false, false, false, true]) (T := fun v w => ∃ A c, v = .slice A 2 c ∧ Rows 1 (Rep.flat paEnc) w w.heap.size A 2 c (testP b off k x)) (hT := fun v w w' hb ⟨A, c, hv, hh⟩ => ⟨A, c, hv, hh.keep (Rep.flat_stable _) hb.size hb.block⟩)
     ·rfl
     ·kernel_rfl
     ·kernel_rfl
     ·dsimp only [oblS]
      rintro w9 h9 T' hT'
      go_simp
      exact ⟨(Below.refl _ w9).alloc (Nat.le_refl _) _, hT' _ _ ⟨_, _, rfl, rows_of_heap (l := testP b off k x) paEnc_len (World.alloc_heap_new w9 _) (Nat.le_refl _) (by decide) rfl⟩⟩
     dsimp only [naL, caL]
     refine relS_end (by rfl) ?_
     dsimp only [finS]
     -- rintro v59 w8 ⟨hb, t59⟩
     rintro v33 w8 ⟨hb8, A3, c3, rfl, h3⟩
     have hown8 := own_keepB HO.out fun g hg => hb8.block g (HO.out.lt g hg).2
     obtain ⟨v', w', hrun, hown', hg, hat⟩ := run_append_rows (P := Tryz.prog) (ty := 157) (enc := paEnc) Tryz.underlying157 hi hz hs hbb rfl paEnc_len (by decide) paEnc_one hown8 h3 (by have := HL.out; omega) (by have := HL.out; omega) (by have := HZ.out; have := hb8.size; omega)
     have hkw : Kept (fun b => W.heap.size ≤ b ∧ ¬ C b) wa w' := (kept_of_below hb8 (fun b h1 h2 => by omega)).grown hg (fun g hg => .inl ⟨(HO.out.lt g hg).1, fun h => by have := HCs.out g h; have := (HO.out.lt g hg).1; omega⟩)
     have hJ' := HJ.out _ _ _ _ hJk hkw
     have hst' := hst.own hkw fun b h => h.1
     have hown2 : w'.ownsRow W.heap.size 120 1 v' (3 * q.an + 2 * (k + 1)) ((atomsP (blkOf q.aA) (offOf q.aA) q.atoms 0 ++ testsP (blkOf q.tA) (offOf q.tA) (q.tests.take (k + 1)) 0).flatMap paEnc) := by
      rw [testsP_step HX.out, HBO.out.1, HBO.out.2, show 3 * q.an + 2 * (k + 1) = 3 * q.an + 2 * k + 2 by omega, ← List.append_assoc]
      rw [HBO.out.1, HBO.out.2] at hown'
      exact hown'
     have HO2 := hidp hown2
     clear hown8 h3 hown' hat hg hkw hJk hst hown2 hb8 e1 e2 e3 e4 e5
     have HRun := hidp hrun
     clear hrun
     go_simp
     go_wp2_with (at_builtin; refine wpList_append_known rfl (.tmp 44) (.tmp 59) 157 rfl rfl rfl HRun.out ?_)
     gi_wp2
     go_roundw
     case rel => exact ⟨k + 1, by omega, by go_num, HO2.out, hJ', hst'⟩
     case measure => simp [intOf]; omega
    ·obtain rfl : k = q.tn := by omega
     have hkk : ¬ ((q.tn : Int) < q.tn) := by omega
     have HTll : Hid (q.tests.take q.tn = q.tests) := List.take_of_length_le (by rw [HT.out.1]; exact Nat.le_refl _)
     rw [HTll.out] at HO
     have hlen : 3 * q.an + 2 * q.tn = (argP q).length := by
      have h1 := HA.out.1; have h2 := HT.out.1
      simp [argP, atomsP_len, testsP_len]; omega
     obtain ⟨N, hN⟩ : ∃ N, 3 * q.an + 2 * q.tn = N := ⟨_, rfl⟩
     have hown : wa.ownsRow W.heap.size 120 1 u3 N ((argP q).flatMap paEnc) := by rw [← hN]; exact HO.out
     have HNN := hidp hN
     rw [hN] at hlen
     have HLn2 := hidp hlen
     clear hN HO hlen
     have hget : (u3 = .slice none 0 0 ∧ N = 0) ∨ ∃ G cap, u3 = .slice (some ⟨G, 0, none⟩) N cap ∧ N ≤ cap ∧ W.heap.size ≤ G ∧ G < wa.heap.size ∧ ∀ wx : World, wx.heap[G]? = wa.heap[G]? → ∀ k x, (argP q)[k]? = some x → wx.cell? ⟨G, k, none⟩ = some (.pointer (some x.1)) := by
      rcases hown.2 with ⟨h1, h2⟩ | ⟨G, cap, cs, hv, hg, hh, hnc, _⟩
      ·exact .inl ⟨h1, h2⟩
      ·refine .inr ⟨G, cap, hv, hnc, hg, lt_of_heap hh, fun wx hx k x hk => ?_⟩
       subst hv
       have hc := hown.cells (g := G) rfl k (.pointer (some x.1)) (by
        have := flat_get paEnc_len (argP q) k x hk 0 (.pointer (some x.1)) rfl
        simpa using this)
       rw [addr_add, Nat.zero_add] at hc
       rw [World.cell?_of_block (w := wa) (a := ⟨G, k, none⟩) hx]
       exact hc
     clear hown e1 e2 e3 e4 e5
     rcases hget with ⟨rfl, rfl⟩ | ⟨G, cap, rfl, hcap, hGW, hGl, hget⟩
     ·have HNil : Hid (argP q = []) := List.eq_nil_of_length_eq_zero HLn2.out.symm
      gi_wp2
      gi_loopw [64] (fun i wr => i = .int .i64 0 ∧ J [] C wr) (fun _ _ => 0)
      case atStart => exact ⟨rfl, hJk⟩
      case round =>
       obtain ⟨rfl, hJ3⟩ := hrel
       gi_wp2
       go_end0
       exact ⟨⟨_, rfl⟩, C, .inl (by rw [HNil.out]; exact hJ3)⟩
     ·have HG := hidp hget
      have HGn : Hid (¬ C G) := fun h => by have := HCs.out G h; omega
      have HLn := HLn2
      have hN3 : N ≤ 9223372036854775807 := by have := HL.out; have := HNN.out; omega
      clear hget HLn2
      gi_wp2
      gi_loopw [64] (fun i wr => ∃ (k : Nat) (C1 : Nat → Prop), k ≤ N ∧ i = .int .i64 k ∧ J ((argP q).take k) C1 wr ∧ SeqSt (fun b => b < n₀ ∨ b = Bq ∨ b = Q) w W C1 wr ∧ wr.heap[G]? = wa.heap[G]? ∧ G < wr.heap.size ∧ ¬ C1 G) (fun i _ => N - (intOf i).toNat)
      case atStart => exact ⟨0, C, by omega, rfl, hJk, hst, rfl, hGl, HGn.out⟩
      case round =>
       rename World => wb
       obtain ⟨k, C1, hk, rfl, hJ3, hst3, hG3, hGl3, hnG⟩ := hrel
       have HG3 := hidp hG3
       have HnG := hidp hnG
       have HS3 := hidp hst3
       clear hG3 hst hJk hnG hst3
       by_cases hlt : k < N
       ·have hlt' : (k : Int) < N := by omega
        obtain ⟨x, hx⟩ : ∃ x, (argP q)[k]? = some x := ⟨_, List.getElem?_eq_getElem (by rw [← HLn.out]; exact hlt)⟩
        have hc := HG.out wb HG3.out k x hx
        have HX := hidp hx
        obtain ⟨fn, tmps, assign, body, hy, hR⟩ := HY.out 0 _ _ _ _ _ (split_at hx) hJ3
        clear hJ3 hx
        gi_wp2
        refine ⟨rfl, hR.mono ?_⟩
        rintro e W3 ⟨C3, hk3, hC3, (⟨rfl, hJ3⟩ | ⟨rfl, hJx3⟩)⟩
        ·have hT : (argP q).take (k + 1) = (argP q).take k ++ [x] := take_snoc HX.out
         rw [← hT] at hJ3
         have hst4 := HS3.out.round hk3 hC3
         have hG4 : W3.heap[G]? = wa.heap[G]? := (hk3.block G hGl3 HnG.out).trans HG3.out
         have hGl4 := Nat.lt_of_lt_of_le hGl3 hk3.size
         have hn4 : ¬ C3 G := fun h => by
          rcases (hC3 G h).2 with h1 | h1
          ·exact HnG.out h1
          ·omega
         clear hT hk3 hC3 hc
         gi_wp2
         go_roundw
         case rel => exact ⟨k + 1, C3, by omega, by go_num, hJ3, hst4, hG4, hGl4, hn4⟩
         case measure => simp [intOf]; omega
        ·gi_wp2
         refine bodyPost_ret (results_none rfl _ _ _) rfl ?_
         exact ⟨⟨_, rfl⟩, C3, .inr hJx3⟩
       ·obtain rfl : k = N := by omega
        have HA9 : Hid ((argP q).take k = argP q) := List.take_of_length_le (by rw [← HLn.out]; exact Nat.le_refl _)
        have hk9 : ¬ ((k : Int) < k) := by omega
        gi_wp2
        go_end0
        exact ⟨⟨_, rfl⟩, C1, .inl (by rw [HA9.out] at hJ3; exact hJ3)⟩
set_option maxHeartbeats 400000 in
theorem args_any (Q : Nat) (w : World) : Calls Tryz.prog 60 #[.pointer (some ⟨Q, 0, none⟩)] w fun e w' => e = .returned (.func (.func 95) #[] #[.pointer (some ⟨w.heap.size, 0, none⟩)]) ∧ w' = w.alloc (.cells #[.pointer (some ⟨Q, 0, none⟩)] 119) := by
 have hmf : ∀ (fn : Fn) (first cap : Array Value) (w : World), (Instr.makeFunc fn first cap).run Tryz.prog w = .ok (.func fn first cap) w := fun _ _ _ _ => rfl
 go_enter Tryz.func60, Tryz.ntmps60
 go_wp2
 go_ret
 exact ⟨rfl, rfl⟩
end
section
open Go.RowKit
section
variable {P : Program} {ops : Array Oper} {n m : Nat} {fr : Nat → Bool}
theorem wpAnyR_tail {ll mm : Nat} {Q : Exit → Act → World → Prop} (hB : relBT ops m = true) : ∀ (fuel k : Nat) (listed : Array Bool) (a : Act) (w : World), listed.size = ops.size → unl ops.size listed ≤ fuel → m ≤ k → k ≤ ops.size →
    (∀ j, j < k → listed.getD j false = true) → (∀ j, k ≤ j → listed.getD j false = false) → wpListIn (Fence.wide.inRound ll) mm P ops Q (ops.toList.drop k) a w → wpAnyIn (Fence.wide.inRound ll) mm P .any ops Q fuel listed a w := by
  obtain ⟨_, hlow, _, htl⟩ := relBT_spec hB
  have hnone : ∀ (k : Nat) (listed : Array Bool), listed.size = ops.size → k ≤ ops.size → (∀ j, j < k → listed.getD j false = true) → (∀ j, k ≤ j → listed.getD j false = false) → Region.ready .any ops listed = [] → k = ops.size := by
    intro k listed hsz hk hon hoff hr
    rcases Nat.lt_or_ge k ops.size with hlt | hge
    · exfalso
      have hm : k ∈ Region.ready .any ops listed := by
        rw [mem_ready]
        have hkl : k < listed.size := by omega
        refine ⟨by have := hoff k (Nat.le_refl _); simpa [hkl] using this, ops[k], Array.getElem?_eq_getElem hlt, fun e he hbd => hon _ (hlow k _ (Array.getElem?_eq_getElem hlt) e he hbd)⟩
      rw [hr] at hm
      cases hm
    · omega
  intro fuel
  induction fuel with
  | zero =>
    intro k listed a w hsz hfu hmk hk hon hoff h
    have hr : Region.ready .any ops listed = [] := by
      cases hr : Region.ready .any ops listed with
      | nil => rfl
      | cons i rs =>
        have hi : i ∈ Region.ready .any ops listed := by rw [hr]; simp
        obtain ⟨h0, o, ho', _⟩ := mem_ready.1 hi
        have := unl_set hsz (Array.getElem?_eq_some_iff.1 ho').1 h0
        omega
    have hkz := hnone k listed hsz hk hon hoff hr
    subst hkz
    refine ⟨hr, ?_⟩
    rw [List.drop_of_length_le (by simp)] at h
    exact h
  | succ fuel ih =>
    intro k listed a w hsz hfu hmk hk hon hoff h
    refine ⟨fun hr => ?_, fun i hi => ?_⟩
    · have hkz := hnone k listed hsz hk hon hoff hr
      subst hkz
      rw [List.drop_of_length_le (by simp)] at h
      exact h
    · obtain ⟨h0, oi, hoi, hdeps⟩ := mem_ready.1 hi
      have hilt := (Array.getElem?_eq_some_iff.1 hoi).1
      have hioff : listed.getD i false = false := by
        have : i < listed.size := by omega
        simpa [this] using h0
      have hki : k ≤ i := by
        rcases Nat.lt_or_ge i k with h1 | h1
        · rw [hon i h1] at hioff; cases hioff
        · exact h1
      have hik : i = k := by
        rcases Nat.lt_or_ge k i with h1 | h1
        · exfalso
          have hkoff := hoff k (Nat.le_refl _)
          have hcl2 : ∀ (j : Nat) (oj : Oper), ops[j]? = some oj → listed.getD j false = true → ∀ e ∈ oj.after, Region.binds .any e = true → listed.getD e.on false = true := fun j oj ho hj e he hb => by
            have hjk : j < k := by
              rcases Nat.lt_or_ge j k with h2 | h2
              · exact h2
              · rw [hoff j h2] at hj; cases hj
            exact hon _ (Nat.lt_trans (hlow j oj ho e he hb) hjk)
          have := behind_listed (listed := fun j => listed.getD j false) hcl2 13 k i oi hoi hdeps (htl i oi hoi (by omega) k h1)
          rw [hkoff] at this; cases this
        · omega
      subst hik
      have hd : ops.toList.drop i = oi :: ops.toList.drop (i + 1) := drop_cons (by simpa using hoi)
      rw [hd] at h
      have next : ∀ a' w', wpListIn (Fence.wide.inRound ll) mm P ops Q (ops.toList.drop (i + 1)) a' w' → wpAnyIn (Fence.wide.inRound ll) mm P .any ops Q fuel (listed.setIfInBounds i true) a' w' := fun a' w' h' =>
        ih (i + 1) _ a' w' (by simpa using hsz) (by have := unl_set hsz hilt h0; omega) (by omega) (by omega)
          (fun j hj => by
            rcases Nat.lt_or_ge j i with h1 | h1
            · exact getD_set_true (hon j h1)
            · obtain rfl : j = i := by omega
              have : j < listed.size := by omega
              simp [this])
          (fun j hj => by rw [getD_set_ne false (by omega)]; exact hoff j (by omega)) h'
      unfold wpOpIn
      simp only [hoi]
      unfold wpListIn at h
      split
      · rename_i hw
        rw [if_pos hw] at h
        exact Oper.wpIn_mono next h
      · rename_i hw
        rw [if_neg hw] at h
        exact ⟨fun _ _ => trivial, next _ _ h.2⟩
theorem wpAnyR_of_relT {ll mm : Nat} {C : World → Prop} {Q : Exit → Act → World → Prop} {a0 : Act} {D : List (Oper × VT)} (hl : D.map (·.1) = ops.toList.take m) (hm : m ≤ ops.size) (hB : relBT ops m = true) (hC : ∀ w w', C w → Below n w w' → C w') (hCn : ∀ w, C w → n ≤ w.heap.size)
    (ho : ∀ (k : Nat) (o : Oper) (T : VT), D[k]? = some (o, T) → T.Stable ∧ oblT P ops n (fr k) T o (D.take k) a0 C) (hf : finT (fun a w => wpListIn (Fence.wide.inRound ll) mm P ops Q (ops.toList.drop m) a w) fr 0 [] D a0 C) :
    ∀ (fuel : Nat) (listed : Array Bool) (vs : Nat → Value) (w : World), listed.size = ops.size → unl ops.size listed ≤ fuel → (∀ j, m ≤ j → listed.getD j false = false) →
      (∀ (j : Nat) (oj : Oper), ops[j]? = some oj → listed.getD j false = true → ∀ e ∈ oj.after, Region.binds .any e = true → listed.getD e.on false = true) →
      (∀ (j : Nat) (o : Oper) (T : VT), D[j]? = some (o, T) → listed.getD j false = true → T (vs j) w ∧ (fr j = true → ∃ b, vs j = .pointer (some ⟨b, 0, none⟩) ∧ b < w.heap.size)) →
      (∀ i j, i < m → j < m → i ≠ j → fr i = true → fr j = true → listed.getD i false = true → listed.getD j false = true → vs i ≠ vs j) → C w →
      wpAnyIn (Fence.wide.inRound ll) mm P .any ops Q fuel listed (fillL (fun j => listed.getD j false) vs 0 (ops.toList.take m) a0) w := by
  obtain ⟨hsel0, hlow, hB1, htl⟩ := relBT_spec hB
  have hsel := Region.noSelect_spec hsel0
  have hDl : D.length = m := by
    have := congrArg List.length hl
    simp at this
    omega
  have hDo : ∀ {j : Nat} {x : Oper × VT}, D[j]? = some x → j < m ∧ ops[j]? = some x.1 := by
    intro j x hj
    have hjm : j < m := by rw [← hDl]; exact (List.getElem?_eq_some_iff.1 hj).1
    have h1 := congrArg (fun l => l[j]?) hl
    simp only [List.getElem?_map, hj, Option.map_some, List.getElem?_take, if_pos hjm] at h1
    exact ⟨hjm, by simpa using h1.symm⟩
  have hD : ∀ (k : Nat) (o : Oper), k < m → ops[k]? = some o → ∃ T : VT, D[k]? = some (o, T) := by
    intro k o hkm hk
    have hkD : k < D.length := by omega
    have h1 := hDo (List.getElem?_eq_getElem hkD)
    rw [hk] at h1
    exact ⟨D[k].2, by rw [List.getElem?_eq_getElem hkD, Option.some.inj h1.2]⟩
  -- all the first are listed
  have hfirst : ∀ (listed : Array Bool) (vs : Nat → Value) (w : World) (fuel : Nat), listed.size = ops.size → unl ops.size listed ≤ fuel → (∀ j, j < m → listed.getD j false = true) → (∀ j, m ≤ j → listed.getD j false = false) →
      (∀ (j : Nat) (o : Oper) (T : VT), D[j]? = some (o, T) → listed.getD j false = true → T (vs j) w ∧ (fr j = true → ∃ b, vs j = .pointer (some ⟨b, 0, none⟩) ∧ b < w.heap.size)) →
      (∀ i j, i < m → j < m → i ≠ j → fr i = true → fr j = true → listed.getD i false = true → listed.getD j false = true → vs i ≠ vs j) → C w →
      wpAnyIn (Fence.wide.inRound ll) mm P .any ops Q fuel listed (fillL (fun j => listed.getD j false) vs 0 (ops.toList.take m) a0) w := by
    intro listed vs w fuel hsz hfu hon hoff hT hne hCw
    refine wpAnyR_tail hB fuel m listed _ w hsz hfu (Nat.le_refl _) hm hon hoff ?_
    rw [← hl]
    refine fin_useT vs D 0 [] a0 C hf hCw fun j x hj => ?_
    rw [Nat.zero_add]
    obtain ⟨hjm, _⟩ := hDo hj
    refine ⟨hon j hjm, (hT j x.1 x.2 hj (hon j hjm)).1, fun hfj => ⟨by simp, fun i hi hfi => ?_⟩⟩
    rw [Nat.zero_add] at hfi ⊢
    exact hne j i hjm (by omega) (by omega) hfj hfi (hon j hjm) (hon i (by omega))
  intro fuel
  induction fuel with
  | zero =>
    intro listed vs w hsz hfu hoff _ hT hne hCw
    refine hfirst listed vs w 0 hsz hfu (fun j hj => ?_) hoff hT hne hCw
    rcases hb : listed.getD j false with _ | _
    · exfalso
      have hjl : j < listed.size := by omega
      have := unl_set (i := j) hsz (by omega) (by simpa [hjl] using hb)
      omega
    · rfl
  | succ fuel ih =>
    intro listed vs w hsz hfu hoff hcl hT hne hCw
    by_cases hall : ∀ j, j < m → listed.getD j false = true
    · exact hfirst listed vs w (fuel + 1) hsz hfu hall hoff hT hne hCw
    refine ⟨fun hr => ?_, fun i hi => ?_⟩
    · exfalso
      apply hall
      intro j
      induction j using Nat.strongRecOn with
      | ind j ihj =>
        intro hj
        cases hb : listed.getD j false with
        | true => rfl
        | false =>
          exfalso
          have hjo : j < ops.size := by omega
          have hm' : j ∈ Region.ready .any ops listed := by
            rw [mem_ready]
            have hjl : j < listed.size := by omega
            refine ⟨by simpa [hjl] using hb, ops[j], Array.getElem?_eq_getElem hjo, fun e he hbd => ?_⟩
            have hlt := hlow j ops[j] (Array.getElem?_eq_getElem hjo) e he hbd
            exact ihj e.on hlt (by omega)
          rw [hr] at hm'
          cases hm'
    obtain ⟨h0, oi, hoi, hdeps⟩ := mem_ready.1 hi
    have hilt := (Array.getElem?_eq_some_iff.1 hoi).1
    have hioff : listed.getD i false = false := by
      have : i < listed.size := by omega
      simpa [this] using h0
    have him : i < m := by
      rcases Nat.lt_or_ge i m with h1 | h1
      · exact h1
      · exfalso
        apply hall
        intro j hj
        exact behind_listed (listed := fun j => listed.getD j false) hcl 13 j i oi hoi hdeps (htl i oi hoi h1 j (by omega))
    obtain ⟨T, hDi⟩ := hD i oi him hoi
    obtain ⟨_, hob⟩ := ho i oi T hDi
    have hlater : ∀ j oj, ops[j]? = some oj → i < j → listed.getD j false = true → oi.apart ops oj = true := fun j oj hj hij hon => by
      have hjm : j < m := by
        rcases Nat.lt_or_ge j m with h1 | h1
        · exact h1
        · rw [hoff j h1] at hon; cases hon
      rcases hB1 j oj hj hjm i oi hij hoi with ⟨e, he, hb, hon'⟩ | h
      · have := hcl j oj hj hon e he hb
        rw [hon', hioff] at this
        cases this
      · exact h
    have hearlier : ∀ j oj, ops[j]? = some oj → j < i → oj.apart ops oi = false → listed.getD j false = true := fun j oj hj hij hna => by
      rcases hB1 i oi hoi him j oj hij hj with ⟨e, he, hb, hon'⟩ | h
      · have := hdeps e he hb
        rwa [hon'] at this
      · rw [h] at hna; cases hna
    have hused := obl_useT (w := w) vs (D.take i) 0 a0 C hob hCw (fun j x hj hna => by
      rw [Nat.zero_add]
      rw [List.getElem?_take] at hj
      split at hj
      · rename_i hji
        exact (hT j x.1 x.2 hj (hearlier j x.1 (hDo hj).2 hji hna)).1
      · cases hj)
    have hrel : relAt P ops n false (TF (fr i) T w) oi (fillL (fun j => listed.getD j false) vs 0 (ops.toList.take m) a0) w := by
      refine Agree.rel (hsel i oi · · hoi) ?_ hused
      have hsplit : ops.toList.take m = (D.take i).map (·.1) ++ (ops.toList.take m).drop i := by
        rw [← hl, List.map_take, List.take_append_drop]
      have hfa : ∀ (on : Nat → Bool) (l1 l2 : List Oper) (k : Nat) (a : Act), fillL on vs k (l1 ++ l2) a = fillL on vs (k + l1.length) l2 (fillL on vs k l1 a) := by
        intro on l1
        induction l1 with
        | nil => intro l2 k a; rfl
        | cons x l1 ih => intro l2 k a; simp only [List.cons_append, fillL, List.length_cons]; rw [ih]; congr 1; omega
      have hlen : ((D.take i).map (·.1)).length = i := by simp; omega
      have h1 : Agree ops oi (fillL (fun j => match (D.take i)[j - 0]? with | some x => !x.1.apart ops oi | none => false) vs 0 ((D.take i).map (·.1)) a0) (fillL (fun j => listed.getD j false) vs 0 ((D.take i).map (·.1)) a0) := by
        refine fillL_agree _ _ _ _ (Agree.refl _ _) fun j oj hj hne x hx => ?_
        rw [List.getElem?_map] at hj
        cases hd : (D.take i)[j]? with
        | none => rw [hd] at hj; simp at hj
        | some y =>
          rw [hd] at hj
          simp at hj
          subst hj
          have hji : j < i := by
            have := (List.getElem?_eq_some_iff.1 hd).1
            simp at this
            omega
          rw [List.getElem?_take, if_pos hji] at hd
          have hoj := (hDo hd).2
          have hyy : (D.take i)[j]? = some y := by rw [List.getElem?_take, if_pos hji]; exact hd
          simp only [Nat.zero_add, Nat.sub_zero, hyy] at hne
          cases hap : y.1.apart ops oi with
          | true => exact (Oper.apart_spec hap).1 x hx
          | false =>
            rw [hap, hearlier j y.1 hoj hji hap] at hne
            exact absurd rfl hne
      rw [hsplit, hfa, hlen]
      have h2 : ∀ (l : List Oper) (k : Nat) (a : Act), (∀ j oj, l[j]? = some oj → listed.getD (k + j) false = true → ∀ x, oj.dst = some x → x ∉ oi.looksAt ops) → Agree ops oi a (fillL (fun j => listed.getD j false) vs k l a) := by
        intro l k a hh
        have := fillL_agree (ops := ops) (o := oi) (on := fun _ => false) (on' := fun j => listed.getD j false) (vs := vs) l k a a (Agree.refl _ _) (fun j oj hj hne x hx => hh j oj hj (by
          cases hb : listed.getD (k + j) false with
          | true => rfl
          | false => exact absurd hb.symm hne) x hx)
        have hz : ∀ (l : List Oper) (k : Nat) (a : Act), fillL (fun _ => false) vs k l a = a := by
          intro l
          induction l with
          | nil => intro k a; rfl
          | cons o l ih => intro k a; simp only [fillL, Bool.false_eq_true, if_false]; exact ih _ _
        rwa [hz] at this
      refine fun t ht => (h1 t ht).trans (h2 ((ops.toList.take m).drop i) (0 + i) _ (fun j oj hj hon x hx => ?_) t ht)
      rw [List.getElem?_drop, List.getElem?_take] at hj
      split at hj
      · have hoj : ops[i + j]? = some oj := by simpa using hj
        rw [Nat.zero_add] at hon
        rcases Nat.eq_zero_or_pos j with rfl | hpos
        · rw [Nat.add_zero, hioff] at hon; cases hon
        · exact (Oper.apart_spec (hlater (i + j) oj hoj (by omega) hon)).2.2 x hx
      · cases hj
    have next : ∀ v w', Below w.heap.size w w' → TF (fr i) T w v w' → wpAnyIn (Fence.wide.inRound ll) mm P .any ops Q fuel (listed.setIfInBounds i true) ((fillL (fun j => listed.getD j false) vs 0 (ops.toList.take m) a0).put oi.dst v) w' := by
      rintro v w' hb ⟨hv, hvf⟩
      have hbn : Below n w w' := hb.mono (hCn w hCw)
      have hoiT : (ops.toList.take m)[i]? = some oi := by rw [List.getElem?_take, if_pos him]; simpa using hoi
      rw [fillL_set (i := i) (oi := oi) (ops.toList.take m) 0 a0 (Nat.zero_le _) (by simpa using hoiT) hioff (fun j oj hj hij hon x hx => by
        rw [Nat.zero_add] at hij hon
        rw [List.getElem?_take] at hj
        split at hj
        · exact (Oper.apart_spec (hlater j oj (by simpa using hj) hij hon)).2.1 x hx
        · cases hj)]
      have hset : ∀ j, j < ops.size → (j == i || listed.getD j false) = (listed.setIfInBounds i true).getD j false := by
        intro j hj
        by_cases hji : j = i
        · subst hji
          have : j < listed.size := by omega
          simp [this]
        · rw [getD_set_ne false (Ne.symm hji)]
          simp [hji]
      rw [fillL_ext (on' := fun j => (listed.setIfInBounds i true).getD j false) (vs' := fun j => if j = i then v else vs j) (ops.toList.take m) 0 a0 (fun j _ hj => ⟨hset j (by simp at hj; omega), fun _ => rfl⟩)]
      have hold : ∀ j, (listed.setIfInBounds i true).getD j false = true → j ≠ i → listed.getD j false = true := fun j hon hji => by
        rwa [getD_set_ne false (Ne.symm hji)] at hon
      refine ih _ _ w' (by simpa using hsz) (by have := unl_set hsz hilt h0; omega) (fun j hj => by rw [getD_set_ne false (by omega)]; exact hoff j hj) (fun j oj hj hon e he hbd => ?_) (fun j o T' hj hon => ?_) (fun j k hj hk hjk hfj hfk hoj hok => ?_) (hC w w' hCw hbn)
      · by_cases hji : j = i
        · subst hji
          rw [hoi] at hj
          injection hj with hj
          subst hj
          exact getD_set_true (hdeps e he hbd)
        · exact getD_set_true (hcl j oj hj (hold j hon hji) e he hbd)
      · by_cases hji : j = i
        · subst hji
          rw [hDi] at hj
          injection hj with hj
          injection hj with e1 e2
          subst e1 e2
          rw [if_pos rfl]
          refine ⟨hv, fun hf => ?_⟩
          obtain ⟨b, h1, _, h3⟩ := hvf hf
          exact ⟨b, h1, h3⟩
        · simp only [if_neg hji]
          have hTj := hT j o T' hj (hold j hon hji)
          refine ⟨(ho j o T' hj).1 _ _ _ hb hTj.1, fun hf => ?_⟩
          obtain ⟨b, h1, h2⟩ := hTj.2 hf
          exact ⟨b, h1, Nat.lt_of_lt_of_le h2 hb.size⟩
      · have hfresh : ∀ k, k < m → k ≠ i → fr k = true → fr i = true → (listed.setIfInBounds i true).getD k false = true → v ≠ vs k := fun k hk hki hfk hfi hok => by
          obtain ⟨b, h1, h2, _⟩ := hvf hfi
          obtain ⟨Tk, hDk⟩ := hD k ops[k] hk (Array.getElem?_eq_getElem (by omega))
          obtain ⟨b', h1', h2'⟩ := (hT k _ Tk hDk (hold k hok hki)).2 hfk
          rw [h1, h1']
          intro h
          injection h with h
          injection h with h
          injection h with h
          omega
        by_cases hji : j = i
        · subst hji
          rw [if_pos rfl, if_neg (Ne.symm hjk)]
          exact hfresh k hk (Ne.symm hjk) hfk hfj hok
        · by_cases hki : k = i
          · subst hki
            rw [if_pos rfl, if_neg hji]
            exact fun h => hfresh j hj hji hfj hfk hoj h.symm
          · rw [if_neg hji, if_neg hki]
            exact hne j k hj hk hjk hfj hfk (hold j hoj hji) (hold k hok hki)
    unfold wpOpIn
    simp only [hoi]
    unfold relAt at hrel
    rw [show reach n false w = w.heap.size from rfl] at hrel
    split
    · rename_i hw
      rw [if_pos hw] at hrel
      refine ⟨fun _ _ => trivial, ?_⟩
      have hnd : ∀ c, oi.op ≠ .defer c := by
        intro c ho
        generalize fillL (fun j => listed.getD j false) vs 0 (ops.toList.take m) a0 = A at hrel
        unfold execOp at hrel
        simp only [ho, Sem.run_bind] at hrel
        cases hr : (resolve A.eval c oi.type).run P w with
        | ok d w' => simp [hr, Result.andThen, relUpon] at hrel
        | halt x w' => simp [hr, Result.andThen, relUpon] at hrel
      rw [show (Fence.wide.inRound ll).round = some ll from rfl, Oper.semAt_some ll _ oi hnd]
      generalize (execOp (fillL (fun j => listed.getD j false) vs 0 (ops.toList.take m) a0).eval oi).run P w = r at hrel
      cases r with
      | ok n w' =>
        cases n <;> simp only [relUpon] at hrel <;> simp only [Oper.uponIn]
        case value u => exact next u w' hrel.1 hrel.2
        case skip => exact next undef w' hrel.1 hrel.2
        case enter f args =>
          exact ⟨fun h => by simp [Fence.wide] at h, CallsIn.inRound ll (callsIn_wide.2 (hrel.mono fun e w'' ⟨v, he, h1, h2⟩ => by subst he; exact next v w'' h1 h2))⟩
      | halt x w' => simp only [relUpon] at hrel
    · rename_i hw
      rw [if_neg hw] at hrel
      exact ⟨fun _ _ => trivial, next undef w (Below.refl _ _) hrel⟩
theorem wpIn_region_tailR {ll mm : Nat} {id : Nat} {Q : Exit → Act → World → Prop} {a : Act} {w : World} {l : List Oper} (n m : Nat) (fr : Nat → Bool) (hn : n ≤ w.heap.size) (hmx : P.follows .mixedOrders = true) (hm : decide (m ≤ l.length) = true) (hB : relBT l.toArray m = true)
  (h : wpRelT P l.toArray n fr (Below n w) (fun a' w' => wpListIn (Fence.wide.inRound ll) mm P l.toArray Q (l.drop m) a' w') a [] (l.take m)) : (Code.region id l.toArray true).wpIn (Fence.wide.inRound ll) mm P Q a w := by
 have hm' : m ≤ l.length := by simpa using hm
 obtain ⟨D, h1, _, h3, h4⟩ := wpRelT_all _ [] h
 refine wpIn_region_any hmx ?_
 have := wpAnyR_of_relT (Q := Q) (ops := l.toArray) (D := D) (a0 := a) (m := m) (fr := fr) (C := Below n w) (by simpa using h1) (by simpa using hm') hB (fun w1 w2 hb hb' => hb.trans hb') (fun w1 hb => Nat.le_trans hn hb.size)
  (fun k o T hk => h3 k o T (Nat.zero_le _) hk) h4 l.toArray.size (Array.replicate l.toArray.size false) (fun _ => undef) { w with drawn := w.drawn + 1 } (by simp)
  (by unfold unl; exact Nat.le_trans (List.length_filter_le _ _) (by simp)) (fun j _ => getD_rep _ _) (fun j oj _ hon => by rw [getD_rep] at hon; cases hon) (fun j o T _ hon => by rw [getD_rep] at hon; cases hon) (fun i j _ _ _ _ _ hon _ => by rw [getD_rep] at hon; cases hon) ⟨rfl, rfl, rfl, Nat.le_refl _, fun _ _ => rfl⟩
 have hz : ∀ (l : List Oper) (on : Nat → Bool) (k : Nat) (a : Act), (∀ j, on j = false) → fillL on (fun _ => undef) k l a = a := by
  intro l on
  induction l with
  | nil => intro k a _; rfl
  | cons o l ih => intro k a hon; simp only [fillL, hon, Bool.false_eq_true, if_false]; exact ih _ _ hon
 rwa [hz _ _ _ _ (fun j => getD_rep _ _)] at this
theorem wpIn_region_SR {id ll mm : Nat} {Q : Exit → Act → World → Prop} {a : Act} {w : World} {l : List Oper} (n m : Nat) (fr : Nat → Bool) (hn : n ≤ w.heap.size) (hmx : P.follows .mixedOrders = true) (hm : decide (m ≤ l.length) = true) (hB : relBT l.toArray m = true)
  (h : wpRelS P l.toArray n fr (Below n w) (fun a' w' => wpListIn (Fence.wide.inRound ll) mm P l.toArray Q (l.drop m) a' w') a [] (l.take m)) : (Code.region id l.toArray true).wpIn (Fence.wide.inRound ll) mm P Q a w :=
 wpIn_region_tailR n m fr hn hmx hm hB h
end
end
section
open Go.RowKit
section
variable {P : Program} {ops : Array Oper} {C : World → Prop} {md : Region.Mode}
end
end
end Go.Proofs.YtbegdcjofnfkiaaGreatDoor
