/- query.arguments: its iterator walked. -/
import Derived.Test.YtbegdcjofnfkiaaGreatDoorJ3
import Derived.Test.YtbegdcjofnfkiaaGreatDoorM4
import Derived.Test.YtbegdcjofnfkiaaGreatDoorM3
import Derived.OwnWalkIn
import Derived.TacticsInMore
import Derived.LoopNIn
import Derived.LoopIn
namespace Go.Proofs.YtbegdcjofnfkiaaGreatDoor
open Go.RowKit Go.Shelf
attribute [local go_sem] Oper.semAt_some

def blkOf (A : Option Addr) : Nat := (A.map (·.block)).getD 0
def offOf (A : Option Addr) : Nat := (A.map (·.off)).getD 0
abbrev PAr := Addr × Ar
def paEnc (x : PAr) : List Value := [.pointer (some x.1)]
theorem paEnc_len (x : PAr) : (paEnc x).length = 1 := rfl
theorem paEnc_one (x : PAr) : ∀ u ∈ paEnc x, u.oneCell' = true := by
  intro u hu; simp [paEnc] at hu; subst hu; rfl
instance : Inhabited PAr := ⟨(⟨0, 0, none⟩, default)⟩
def atomP (b o i : Nat) (a : Am) : List PAr := [(⟨b, o + i * 9 + 1, none⟩, a.s), (⟨b, o + i * 9 + 3, none⟩, a.o), (⟨b, o + i * 9 + 5, none⟩, a.v)]
def testP (b o i : Nat) (t : Te) : List PAr := [(⟨b, o + i * 5 + 1, none⟩, t.a), (⟨b, o + i * 5 + 3, none⟩, t.b)]
def atomsP (b o : Nat) : List Am → Nat → List PAr
  | [], _ => []
  | a :: l, i => atomP b o i a ++ atomsP b o l (i + 1)
def testsP (b o : Nat) : List Te → Nat → List PAr
  | [], _ => []
  | a :: l, i => testP b o i a ++ testsP b o l (i + 1)
theorem atomsP_append (b o : Nat) (m : List Am) : ∀ (l : List Am) (i : Nat), atomsP b o (l ++ m) i = atomsP b o l i ++ atomsP b o m (i + l.length)
  | [], i => by simp [atomsP]
  | a :: l, i => by
    simp only [List.cons_append, atomsP, atomsP_append b o m l (i + 1), List.append_assoc, List.length_cons]
    rw [show i + 1 + l.length = i + (l.length + 1) by omega]
theorem testsP_append (b o : Nat) (m : List Te) : ∀ (l : List Te) (i : Nat), testsP b o (l ++ m) i = testsP b o l i ++ testsP b o m (i + l.length)
  | [], i => by simp [testsP]
  | a :: l, i => by
    simp only [List.cons_append, testsP, testsP_append b o m l (i + 1), List.append_assoc, List.length_cons]
    rw [show i + 1 + l.length = i + (l.length + 1) by omega]
theorem atomsP_len (b o : Nat) : ∀ (l : List Am) (i : Nat), (atomsP b o l i).length = 3 * l.length
  | [], _ => rfl
  | a :: l, i => by simp [atomsP, atomP, atomsP_len b o l]; omega
theorem testsP_len (b o : Nat) : ∀ (l : List Te) (i : Nat), (testsP b o l i).length = 2 * l.length
  | [], _ => rfl
  | a :: l, i => by simp [testsP, testP, testsP_len b o l]; omega
theorem atomsP_step {b o k : Nat} {l : List Am} {x : Am} (h : l[k]? = some x) : atomsP b o (l.take (k + 1)) 0 = atomsP b o (l.take k) 0 ++ atomP b o k x := by
  rw [take_snoc h, atomsP_append]
  have : (l.take k).length = k := by rw [List.length_take]; have := (List.getElem?_eq_some_iff.1 h).1; omega
  simp [atomsP, this]
theorem testsP_step {b o k : Nat} {l : List Te} {x : Te} (h : l[k]? = some x) : testsP b o (l.take (k + 1)) 0 = testsP b o (l.take k) 0 ++ testP b o k x := by
  rw [take_snoc h, testsP_append]
  have : (l.take k).length = k := by rw [List.length_take]; have := (List.getElem?_eq_some_iff.1 h).1; omega
  simp [testsP, this]
/-- The arguments with the places where they lie. -/
def argP (q : Qu) : List PAr := atomsP (blkOf q.aA) (offOf q.aA) q.atoms 0 ++ testsP (blkOf q.tA) (offOf q.tA) q.tests 0
theorem argPtr_info : (Tryz.prog.info? 120).map (fun i => (i.zero, i.size, i.bytes)) = some (some (.pointer none), 1, 8) := by kernel_rfl

set_option maxRecDepth 100000 in
set_option maxHeartbeats 2000000 in
theorem args1_seq (Bq Q n₀ : Nat) (q : Qu) (w : World)
    (hBq : w.cell? ⟨Bq, 0, none⟩ = some (.pointer (some ⟨Q, 0, none⟩))) (hQ : w.heap[Q]? = some (.cells #[.slice q.nA q.nn q.nc, .slice q.sA q.sn q.sc, .slice q.aA q.an q.ac, .slice q.tA q.tn q.tc] 27 (0, 0)))
    (ha : amSl w n₀ q.aA q.an q.ac q.atoms) (ht : teSl w n₀ q.tA q.tn q.tc q.tests) (hl : q.an ≤ 1000 ∧ q.tn ≤ 1000) :
    SeqC Tryz.prog 95 #[.pointer (some ⟨Bq, 0, none⟩)] (fun x : PAr => #[.pointer (some x.1)]) (argP q) (fun b => b < n₀ ∨ b = Bq ∨ b = Q) w := by
  obtain ⟨i0, hi, hz, hs, hbb⟩ := info_parts argPtr_info
  intro li J Jx C W hS hC hJ hJx hY h0
  refine (callsIn_wide (n := 0)).1 (callsIn_of_wp Tryz.func95 rfl trivial ?_ rfl)
  simp only [Tryz.ntmps95, List.size_toArray, List.length_cons, List.length_nil, Nat.reduceAdd, Nat.reduceSub, Array.replicate_succ, Array.replicate_zero, List.push_toArray, List.append_toArray, List.nil_append, List.cons_append]
  have HY := hidp hY
  have HJ := hidp hJ
  have HJx := hidp hJx
  clear hY hJ hJx
  have HA := hidp ha
  have HT := hidp ht
  have HL := hidp hl
  have HQ := hidp hQ
  have HBQ := hidp hBq
  have haq := ha.2.1
  have hac := ha.2.2.1
  have htq := ht.2.1
  have htc := ht.2.2.1
  have HCells : Hid (∀ C1 wr, SeqSt (fun b => b < n₀ ∨ b = Bq ∨ b = Q) w W C1 wr → wr.cell? ⟨Bq, 0, none⟩ = some (.pointer (some ⟨Q, 0, none⟩)) ∧ wr.cell? ⟨Q, 2, none⟩ = some (.slice q.aA q.an q.ac) ∧ wr.cell? ⟨Q, 3, none⟩ = some (.slice q.tA q.tn q.tc) ∧ Bq < wr.heap.size ∧ Q < wr.heap.size) := fun C1 wr hst => by
    have h1 := (hst.cell (b := Bq) (o := 0) (.inr (.inl rfl))).trans HBQ.out
    have h2 := (hst.cell (b := Q) (o := 2) (.inr (.inr rfl))).trans (cell_of_heap HQ.out)
    have h3 := (hst.cell (b := Q) (o := 3) (.inr (.inr rfl))).trans (cell_of_heap HQ.out)
    exact ⟨h1, h2, h3, lt_of_cell h1, lt_of_cell h2⟩
  have HCs := hidp hC
  clear ha ht hl hQ hBq
  obtain ⟨e1, e2, e3, e4, e5⟩ := HCells.out C W (SeqSt.start hS hC)
  gi_wp2
  gi_loopw [3, 14] (fun v i wr => ∃ k : Nat, k ≤ q.an ∧ i = .int .i64 k ∧ wr.ownsRow W.heap.size 120 1 v (3 * k) ((atomsP (blkOf q.aA) (offOf q.aA) (q.atoms.take k) 0).flatMap paEnc) ∧ J [] C wr ∧ SeqSt (fun b => b < n₀ ∨ b = Bq ∨ b = Q) w W C wr)
    (fun _ i _ => q.an - (intOf i).toNat)
  case atStart => exact ⟨0, by omega, rfl, World.ownsRow_nil _ _ _ _, h0, SeqSt.start hS hC⟩
  case round =>
    obtain ⟨k, hk, rfl, hown, hJk, hst⟩ := hrel
    have HO := hidp hown
    have HZ := hidp hst.size
    clear e1 e2 e3 e4 e5 h0 hown
    obtain ⟨e1, e2, e3, e4, e5⟩ := HCells.out C wr hst
    by_cases hlt : k < q.an
    · have hlt' : (k : Int) < q.an := by omega
      obtain ⟨b, off, x, cs, hA, hb, hx, _, _⟩ := Rows.get HA.out hlt
      have HBO : Hid (blkOf q.aA = b ∧ offOf q.aA = off) := by show _ ∧ _; rw [hA]; exact ⟨rfl, rfl⟩
      rw [hA] at e2
      have HX := hidp hx
      clear hx hA
      gi_wp2
      refine wpIn_wide.2 ?_
      refine wp_region_S wr.heap.size 11 (fun _ => false) (Nat.le_refl _) (by kernel_rfl) (by kernel_rfl) (by kernel_rfl) ?_
      dsimp only [List.take, List.drop]
      apply relS_det (mask := [])
      · rfl
      · kernel_rfl
      · kernel_rfl
      · dsimp only [oblS]
        rintro w9 h9
        go_simp
        exact ⟨Below.refl _ _, rfl⟩
      dsimp only [List.nil_append, List.cons_append]
      apply relS_det (mask := [false])
      · rfl
      · kernel_rfl
      · kernel_rfl
      · dsimp only [oblS]
        rintro w9 h9
        go_simp
        exact ⟨Below.refl _ _, rfl⟩
      dsimp only [List.nil_append, List.cons_append]
      apply relS_det (mask := [false, true])
      · rfl
      · kernel_rfl
      · kernel_rfl
      · dsimp only [oblS]
        rintro w9 h9
        go_simp
        exact ⟨Below.refl _ _, rfl⟩
      dsimp only [List.nil_append, List.cons_append]
      apply relS_det (mask := [false, false, true])
      · rfl
      · kernel_rfl
      · kernel_rfl
      · dsimp only [oblS]
        rintro w9 h9
        go_simp
        exact ⟨Below.refl _ _, rfl⟩
      dsimp only [List.nil_append, List.cons_append]
      apply relS_det (mask := [false, false, false, false])
      · rfl
      · kernel_rfl
      · kernel_rfl
      · dsimp only [oblS]
        rintro w9 h9
        go_simp
        exact ⟨Below.refl _ _, rfl⟩
      dsimp only [List.nil_append, List.cons_append]
      apply relS_det (mask := [false, false, false, false, true])
      · rfl
      · kernel_rfl
      · kernel_rfl
      · dsimp only [oblS]
        rintro w9 h9
        go_simp
        exact ⟨Below.refl _ _, rfl⟩
      dsimp only [List.nil_append, List.cons_append]
      apply relS_det (mask := [false, false, false, false, false, true])
      · rfl
      · kernel_rfl
      · kernel_rfl
      · dsimp only [oblS]
        rintro w9 h9
        go_simp
        exact ⟨Below.refl _ _, rfl⟩
      dsimp only [List.nil_append, List.cons_append]
      apply relS_det (mask := [false, false, false, false, false, false, false])
      · rfl
      · kernel_rfl
      · kernel_rfl
      · dsimp only [oblS]
        rintro w9 h9
        go_simp
        exact ⟨Below.refl _ _, rfl⟩
      dsimp only [List.nil_append, List.cons_append]
      apply relS_det (mask := [false, false, false, false, false, false, false, true])
      · rfl
      · kernel_rfl
      · kernel_rfl
      · dsimp only [oblS]
        rintro w9 h9
        go_simp
        exact ⟨Below.refl _ _, rfl⟩
      dsimp only [List.nil_append, List.cons_append]
      apply relS_det (mask := [false, false, false, false, false, false, false, false, true])
      · rfl
      · kernel_rfl
      · kernel_rfl
      · dsimp only [oblS]
        rintro w9 h9
        go_simp
        exact ⟨Below.refl _ _, rfl⟩
      dsimp only [List.nil_append, List.cons_append]
      apply relS_any (mask := [false, false, false, true, false, false, true, false, false, true]) (T := fun v w => ∃ A c, v = .slice A 3 c ∧ Rows 1 (Rep.flat paEnc) w w.heap.size A 3 c (atomP b off k x)) (hT := fun v w w' hb ⟨A, c, hv, hh⟩ => ⟨A, c, hv, hh.keep (Rep.flat_stable _) hb.size hb.block⟩)
      · rfl
      · kernel_rfl
      · kernel_rfl
      · dsimp only [oblS]
        rintro w9 h9 T' hT'
        go_simp
        exact ⟨(Below.refl _ w9).alloc (Nat.le_refl _) _, hT' _ _ ⟨_, _, rfl, rows_of_heap (l := atomP b off k x) paEnc_len (World.alloc_heap_new w9 _) (Nat.le_refl _) (by decide) rfl⟩⟩
      dsimp only [List.nil_append, List.cons_append]
      refine relS_end (by rfl) ?_
      dsimp only [finS]
      -- rintro v33 w8 ⟨hb, t33⟩
      rintro v33 w8 ⟨hb8, A3, c3, rfl, h3⟩
      have hown8 := own_keepB HO.out fun g hg => hb8.block g (HO.out.lt g hg).2
      obtain ⟨v', w', hrun, hown', hg, hat⟩ := run_append_rows (P := Tryz.prog) (ty := 157) (enc := paEnc) Tryz.underlying157 hi hz hs hbb rfl paEnc_len (by decide) paEnc_one hown8 h3 (by have := HL.out; omega) (by have := HL.out; omega) (by have := HZ.out; have := hb8.size; omega)
      have hkw : Kept (fun b => W.heap.size ≤ b ∧ ¬ C b) wr w' := (kept_of_below hb8 (fun b h1 h2 => by omega)).grown hg (fun g hg => .inl ⟨(HO.out.lt g hg).1, fun h => by have := HCs.out g h; have := (HO.out.lt g hg).1; omega⟩)
      have hJ' := HJ.out _ _ _ _ hJk hkw
      have hst' := hst.own hkw fun b h => h.1
      have hown2 : w'.ownsRow W.heap.size 120 1 v' (3 * (k + 1)) ((atomsP (blkOf q.aA) (offOf q.aA) (q.atoms.take (k + 1)) 0).flatMap paEnc) := by
        rw [atomsP_step HX.out, HBO.out.1, HBO.out.2, show 3 * (k + 1) = 3 * k + 3 by omega]
        rw [HBO.out.1, HBO.out.2] at hown'
        exact hown'
      have HO2 := hidp hown2
      clear hown8 h3 hown' hat hg hkw hJk hst hown2 hb8 e1 e2 e3 e4 e5
      have HRun := hidp hrun
      clear hrun
      go_simp
      go_wp2_with (at_builtin; refine wpList_append_known rfl (.tmp 23) (.tmp 33) 157 rfl rfl rfl HRun.out ?_)
      gi_wp2
      go_roundw
      case rel => exact ⟨k + 1, by omega, by go_num, HO2.out, hJ', hst'⟩
      case measure => simp [intOf]; omega
    · obtain rfl : k = q.an := by omega
      have hkk : ¬ ((q.an : Int) < q.an) := by omega
      have HAll : Hid (q.atoms.take q.an = q.atoms) := List.take_of_length_le (by rw [HA.out.1]; exact Nat.le_refl _)
      rw [HAll.out] at HO
      gi_wp2
      gi_loopw [3, 41] (fun v i wr => ∃ k : Nat, k ≤ q.tn ∧ i = .int .i64 k ∧ wr.ownsRow W.heap.size 120 1 v (3 * q.an + 2 * k) ((atomsP (blkOf q.aA) (offOf q.aA) q.atoms 0 ++ testsP (blkOf q.tA) (offOf q.tA) (q.tests.take k) 0).flatMap paEnc) ∧ J [] C wr ∧ SeqSt (fun b => b < n₀ ∨ b = Bq ∨ b = Q) w W C wr)
        (fun _ i _ => q.tn - (intOf i).toNat)
      case atStart => exact ⟨0, by omega, rfl, by simpa [testsP] using HO.out, hJk, hst⟩
      case round =>
        rename World => wa
        obtain ⟨k, hk, rfl, hown, hJk, hst⟩ := hrel
        clear HO HZ e1 e2 e3 e4 e5
        have HO := hidp hown
        have HZ := hidp hst.size
        obtain ⟨e1, e2, e3, e4, e5⟩ := HCells.out C wa hst
        clear hown
        by_cases hlt : k < q.tn
        · have hlt' : (k : Int) < q.tn := by omega
          obtain ⟨b, off, x, cs, hA, hb, hx, _, _⟩ := Rows.get HT.out hlt
          have HBO : Hid (blkOf q.tA = b ∧ offOf q.tA = off) := by show _ ∧ _; rw [hA]; exact ⟨rfl, rfl⟩
          rw [hA] at e3
          have HX := hidp hx
          clear hx hA
          gi_wp2
          refine wpIn_wide.2 ?_
          refine wp_region_S wa.heap.size 16 (fun _ => false) (Nat.le_refl _) (by kernel_rfl) (by kernel_rfl) (by kernel_rfl) ?_
          dsimp only [List.take, List.drop]
          apply relS_det (mask := [])
          · rfl
          · kernel_rfl
          · kernel_rfl
          · dsimp only [oblS]
            rintro w9 h9
            go_simp
            exact ⟨Below.refl _ _, rfl⟩
          dsimp only [List.nil_append, List.cons_append]
          apply relS_det (mask := [false])
          · rfl
          · kernel_rfl
          · kernel_rfl
          · dsimp only [oblS]
            rintro w9 h9
            have hc9 := (bcell h9).1
            go_simp
            exact ⟨Below.refl _ _, rfl⟩
          dsimp only [List.nil_append, List.cons_append]
          apply relS_det (mask := [false, true])
          · rfl
          · kernel_rfl
          · kernel_rfl
          · dsimp only [oblS]
            rintro w9 h9
            go_simp
            exact ⟨Below.refl _ _, rfl⟩
          dsimp only [List.nil_append, List.cons_append]
          apply relS_det (mask := [false, false, true])
          · rfl
          · kernel_rfl
          · kernel_rfl
          · dsimp only [oblS]
            rintro w9 h9
            go_simp
            exact ⟨Below.refl _ _, rfl⟩
          dsimp only [List.nil_append, List.cons_append]
          apply relS_det (mask := [false, false, false, true])
          · rfl
          · kernel_rfl
          · kernel_rfl
          · dsimp only [oblS]
            rintro w9 h9
            have hc9 := (bcell h9).1
            go_simp
            exact ⟨Below.refl _ _, rfl⟩
          dsimp only [List.nil_append, List.cons_append]
          apply relS_det (mask := [false, false, false, false, false])
          · rfl
          · kernel_rfl
          · kernel_rfl
          · dsimp only [oblS]
            rintro w9 h9
            go_simp
            exact ⟨Below.refl _ _, rfl⟩
          dsimp only [List.nil_append, List.cons_append]
          apply relS_det (mask := [false, false, false, false, true, true])
          · rfl
          · kernel_rfl
          · kernel_rfl
          · dsimp only [oblS]
            rintro w9 h9
            go_simp
            exact ⟨Below.refl _ _, rfl⟩
          dsimp only [List.nil_append, List.cons_append]
          apply relS_det (mask := [false, false, false, false, false, false, true])
          · rfl
          · kernel_rfl
          · kernel_rfl
          · dsimp only [oblS]
            rintro w9 h9
            go_simp
            exact ⟨Below.refl _ _, rfl⟩
          dsimp only [List.nil_append, List.cons_append]
          apply relS_det (mask := [false, false, false, false, false, false, false, false])
          · rfl
          · kernel_rfl
          · kernel_rfl
          · dsimp only [oblS]
            rintro w9 h9
            have hc9 := (bcell h9).1
            go_simp
            exact ⟨Below.refl _ _, rfl⟩
          dsimp only [List.nil_append, List.cons_append]
          apply relS_det (mask := [false, false, false, false, false, false, false, false, true])
          · rfl
          · kernel_rfl
          · kernel_rfl
          · dsimp only [oblS]
            rintro w9 h9
            go_simp
            exact ⟨Below.refl _ _, rfl⟩
          dsimp only [List.nil_append, List.cons_append]
          apply relS_det (mask := [false, false, false, false, false, false, false, false, false, true])
          · rfl
          · kernel_rfl
          · kernel_rfl
          · dsimp only [oblS]
            rintro w9 h9
            go_simp
            exact ⟨Below.refl _ _, rfl⟩
          dsimp only [List.nil_append, List.cons_append]
          apply relS_det (mask := [false, false, false, false, false, false, false, false, false, false, true])
          · rfl
          · kernel_rfl
          · kernel_rfl
          · dsimp only [oblS]
            rintro w9 h9
            have hc9 := (bcell h9).1
            go_simp
            exact ⟨Below.refl _ _, rfl⟩
          dsimp only [List.nil_append, List.cons_append]
          apply relS_det (mask := [false, false, false, false, false, false, false, false, false, false, false, false])
          · rfl
          · kernel_rfl
          · kernel_rfl
          · dsimp only [oblS]
            rintro w9 h9
            go_simp
            exact ⟨Below.refl _ _, rfl⟩
          dsimp only [List.nil_append, List.cons_append]
          apply relS_det (mask := [false, false, false, false, false, false, false, false, false, false, false, true, true])
          · rfl
          · kernel_rfl
          · kernel_rfl
          · dsimp only [oblS]
            rintro w9 h9
            go_simp
            exact ⟨Below.refl _ _, rfl⟩
          dsimp only [List.nil_append, List.cons_append]
          apply relS_det (mask := [false, false, false, false, false, false, false, false, false, false, false, false, false, true])
          · rfl
          · kernel_rfl
          · kernel_rfl
          · dsimp only [oblS]
            rintro w9 h9
            go_simp
            exact ⟨Below.refl _ _, rfl⟩
          dsimp only [List.nil_append, List.cons_append]
          apply relS_any (mask := [false, false, false, false, false, false, false, true, false, false, false, false, false, false, true]) (T := fun v w => ∃ A c, v = .slice A 2 c ∧ Rows 1 (Rep.flat paEnc) w w.heap.size A 2 c (testP b off k x)) (hT := fun v w w' hb ⟨A, c, hv, hh⟩ => ⟨A, c, hv, hh.keep (Rep.flat_stable _) hb.size hb.block⟩)
          · rfl
          · kernel_rfl
          · kernel_rfl
          · dsimp only [oblS]
            rintro w9 h9 T' hT'
            go_simp
            exact ⟨(Below.refl _ w9).alloc (Nat.le_refl _) _, hT' _ _ ⟨_, _, rfl, rows_of_heap (l := testP b off k x) paEnc_len (World.alloc_heap_new w9 _) (Nat.le_refl _) (by decide) rfl⟩⟩
          dsimp only [List.nil_append, List.cons_append]
          refine relS_end (by rfl) ?_
          dsimp only [finS]
          -- rintro v59 w8 ⟨hb, t59⟩
          rintro v33 w8 ⟨hb8, A3, c3, rfl, h3⟩
          have hown8 := own_keepB HO.out fun g hg => hb8.block g (HO.out.lt g hg).2
          obtain ⟨v', w', hrun, hown', hg, hat⟩ := run_append_rows (P := Tryz.prog) (ty := 157) (enc := paEnc) Tryz.underlying157 hi hz hs hbb rfl paEnc_len (by decide) paEnc_one hown8 h3 (by have := HL.out; omega) (by have := HL.out; omega) (by have := HZ.out; have := hb8.size; omega)
          have hkw : Kept (fun b => W.heap.size ≤ b ∧ ¬ C b) wa w' := (kept_of_below hb8 (fun b h1 h2 => by omega)).grown hg (fun g hg => .inl ⟨(HO.out.lt g hg).1, fun h => by have := HCs.out g h; have := (HO.out.lt g hg).1; omega⟩)
          have hJ' := HJ.out _ _ _ _ hJk hkw
          have hst' := hst.own hkw fun b h => h.1
          have hown2 : w'.ownsRow W.heap.size 120 1 v' (3 * q.an + 2 * (k + 1)) ((atomsP (blkOf q.aA) (offOf q.aA) q.atoms 0 ++ testsP (blkOf q.tA) (offOf q.tA) (q.tests.take (k + 1)) 0).flatMap paEnc) := by
            rw [testsP_step HX.out, HBO.out.1, HBO.out.2, show 3 * q.an + 2 * (k + 1) = 3 * q.an + 2 * k + 2 by omega, ← List.append_assoc]
            rw [HBO.out.1, HBO.out.2] at hown'
            exact hown'
          have HO2 := hidp hown2
          clear hown8 h3 hown' hat hg hkw hJk hst hown2 hb8 e1 e2 e3 e4 e5
          have HRun := hidp hrun
          clear hrun
          go_simp
          go_wp2_with (at_builtin; refine wpList_append_known rfl (.tmp 44) (.tmp 59) 157 rfl rfl rfl HRun.out ?_)
          gi_wp2
          go_roundw
          case rel => exact ⟨k + 1, by omega, by go_num, HO2.out, hJ', hst'⟩
          case measure => simp [intOf]; omega
        · obtain rfl : k = q.tn := by omega
          have hkk : ¬ ((q.tn : Int) < q.tn) := by omega
          have HTll : Hid (q.tests.take q.tn = q.tests) := List.take_of_length_le (by rw [HT.out.1]; exact Nat.le_refl _)
          rw [HTll.out] at HO
          have hlen : 3 * q.an + 2 * q.tn = (argP q).length := by
            have h1 := HA.out.1; have h2 := HT.out.1
            simp [argP, atomsP_len, testsP_len]; omega
          obtain ⟨N, hN⟩ : ∃ N, 3 * q.an + 2 * q.tn = N := ⟨_, rfl⟩
          have hown : wa.ownsRow W.heap.size 120 1 u3 N ((argP q).flatMap paEnc) := by rw [← hN]; exact HO.out
          have HNN := hidp hN
          rw [hN] at hlen
          have HLn2 := hidp hlen
          clear hN HO hlen
          have hget : (u3 = .slice none 0 0 ∧ N = 0) ∨ ∃ G cap, u3 = .slice (some ⟨G, 0, none⟩) N cap ∧ N ≤ cap ∧ W.heap.size ≤ G ∧ G < wa.heap.size ∧ ∀ wx : World, wx.heap[G]? = wa.heap[G]? → ∀ k x, (argP q)[k]? = some x → wx.cell? ⟨G, k, none⟩ = some (.pointer (some x.1)) := by
            rcases hown.2 with ⟨h1, h2⟩ | ⟨G, cap, cs, hv, hg, hh, hnc, _⟩
            · exact .inl ⟨h1, h2⟩
            · refine .inr ⟨G, cap, hv, hnc, hg, lt_of_heap hh, fun wx hx k x hk => ?_⟩
              subst hv
              have hc := hown.cells (g := G) rfl k (.pointer (some x.1)) (by
                have := flat_get paEnc_len (argP q) k x hk 0 (.pointer (some x.1)) rfl
                simpa using this)
              rw [addr_add, Nat.zero_add] at hc
              rw [World.cell?_of_block (w := wa) (a := ⟨G, k, none⟩) hx]
              exact hc
          clear hown e1 e2 e3 e4 e5
          rcases hget with ⟨rfl, rfl⟩ | ⟨G, cap, rfl, hcap, hGW, hGl, hget⟩
          · have HNil : Hid (argP q = []) := List.eq_nil_of_length_eq_zero HLn2.out.symm
            gi_wp2
            gi_loopw [64] (fun i wr => i = .int .i64 0 ∧ J [] C wr) (fun _ _ => 0)
            case atStart => exact ⟨rfl, hJk⟩
            case round =>
              obtain ⟨rfl, hJ3⟩ := hrel
              gi_wp2
              go_end0
              exact ⟨⟨_, rfl⟩, C, .inl (by rw [HNil.out]; exact hJ3)⟩
          · have HG := hidp hget
            have HGn : Hid (¬ C G) := fun h => by have := HCs.out G h; omega
            have HLn := HLn2
            have hN3 : N ≤ 9223372036854775807 := by have := HL.out; have := HNN.out; omega
            clear hget HLn2
            gi_wp2
            gi_loopw [64] (fun i wr => ∃ (k : Nat) (C1 : Nat → Prop), k ≤ N ∧ i = .int .i64 k ∧ J ((argP q).take k) C1 wr ∧ SeqSt (fun b => b < n₀ ∨ b = Bq ∨ b = Q) w W C1 wr ∧ wr.heap[G]? = wa.heap[G]? ∧ G < wr.heap.size ∧ ¬ C1 G) (fun i _ => N - (intOf i).toNat)
            case atStart => exact ⟨0, C, by omega, rfl, hJk, hst, rfl, hGl, HGn.out⟩
            case round =>
              rename World => wb
              obtain ⟨k, C1, hk, rfl, hJ3, hst3, hG3, hGl3, hnG⟩ := hrel
              have HG3 := hidp hG3
              have HnG := hidp hnG
              have HS3 := hidp hst3
              clear hG3 hst hJk hnG hst3
              by_cases hlt : k < N
              · have hlt' : (k : Int) < N := by omega
                obtain ⟨x, hx⟩ : ∃ x, (argP q)[k]? = some x := ⟨_, List.getElem?_eq_getElem (by rw [← HLn.out]; exact hlt)⟩
                have hc := HG.out wb HG3.out k x hx
                have HX := hidp hx
                obtain ⟨fn, tmps, assign, body, hy, hR⟩ := HY.out 0 _ _ _ _ _ (split_at hx) hJ3
                clear hJ3 hx
                gi_wp2
                refine ⟨rfl, hR.mono ?_⟩
                rintro e W3 ⟨C3, hk3, hC3, (⟨rfl, hJ3⟩ | ⟨rfl, hJx3⟩)⟩
                · have hT : (argP q).take (k + 1) = (argP q).take k ++ [x] := take_snoc HX.out
                  rw [← hT] at hJ3
                  have hst4 := HS3.out.round hk3 hC3
                  have hG4 : W3.heap[G]? = wa.heap[G]? := (hk3.block G hGl3 HnG.out).trans HG3.out
                  have hGl4 := Nat.lt_of_lt_of_le hGl3 hk3.size
                  have hn4 : ¬ C3 G := fun h => by
                    rcases (hC3 G h).2 with h1 | h1
                    · exact HnG.out h1
                    · omega
                  clear hT hk3 hC3 hc
                  gi_wp2
                  go_roundw
                  case rel => exact ⟨k + 1, C3, by omega, by go_num, hJ3, hst4, hG4, hGl4, hn4⟩
                  case measure => simp [intOf]; omega
                · gi_wp2
                  refine bodyPost_ret (results_none rfl _ _ _) rfl ?_
                  exact ⟨⟨_, rfl⟩, C3, .inr hJx3⟩
              · obtain rfl : k = N := by omega
                have HA9 : Hid ((argP q).take k = argP q) := List.take_of_length_le (by rw [← HLn.out]; exact Nat.le_refl _)
                have hk9 : ¬ ((k : Int) < k) := by omega
                gi_wp2
                go_end0
                exact ⟨⟨_, rfl⟩, C1, .inl (by rw [HA9.out] at hJ3; exact hJ3)⟩

set_option maxHeartbeats 400000 in
theorem args_any (Q : Nat) (w : World) : Calls Tryz.prog 60 #[.pointer (some ⟨Q, 0, none⟩)] w fun e w' => e = .returned (.func (.func 95) #[] #[.pointer (some ⟨w.heap.size, 0, none⟩)]) ∧ w' = w.alloc (.cells #[.pointer (some ⟨Q, 0, none⟩)] 119) := by
  have hmf : ∀ (fn : Fn) (first cap : Array Value) (w : World), (Instr.makeFunc fn first cap).run Tryz.prog w = .ok (.func fn first cap) w := fun _ _ _ _ => rfl
  go_enter Tryz.func60, Tryz.ntmps60
  go_wp2
  go_ret
  exact ⟨rfl, rfl⟩
end Go.Proofs.YtbegdcjofnfkiaaGreatDoor
