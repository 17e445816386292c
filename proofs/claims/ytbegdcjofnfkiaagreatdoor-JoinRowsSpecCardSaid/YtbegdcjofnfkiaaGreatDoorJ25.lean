/- The law's graded and asked; join.Count. -/
import Derived.Test.YtbegdcjofnfkiaaGreatDoorJ17
namespace Go.Proofs.YtbegdcjofnfkiaaGreatDoor
open Go.RowKit Go.Shelf Go.Sort

def gradeF : Fc := ⟨⟨5, 4, 17⟩, 6, 2, 3, 10, 0⟩
def askAm (known : Int) : Am := ⟨5, ⟨true, 0⟩, ⟨false, 17⟩, ⟨true, 1⟩, 2, known⟩
set_option maxRecDepth 100000 in
set_option maxHeartbeats 1000000 in
theorem graded_any (w : World) : Calls Tryz.prog 22 #[] w fun e w' => ∃ A c, e = .returned (.slice A 1 c) ∧ fSl w' w'.heap.size A 1 c [gradeF] ∧ Below w.heap.size w w' := by
  go_enter Tryz.func22, Tryz.ntmps22
  go_wp2_with fail
  go_ret
  exact ⟨_, 1, rfl, rows_of_heap (l := [gradeF]) fEnc_len (World.alloc_heap_new _ _) (Nat.le_refl _) (by decide) rfl, (Below.refl _ _).alloc (Nat.le_refl _) _⟩
structure AskedQ (y : Qu) (known : Int) : Prop where
  names : y.names = [⟨#[115]⟩, ⟨#[103]⟩]
  shows : y.shows = [0, 1]
  atoms : y.atoms = [askAm known]
  tests : y.tests = []
set_option maxRecDepth 100000 in
set_option maxHeartbeats 1000000 in
theorem asked_any (known : Int) (w : World) : Calls Tryz.prog 23 #[.int .i64 known] w fun e w' => ∃ y : Qu, e = .returned (.agg #[.slice y.nA y.nn y.nc, .slice y.sA y.sn y.sc, .slice y.aA y.an y.ac, .slice y.tA y.tn y.tc]) ∧ QuIn y w' w'.heap.size ∧ AskedQ y known ∧ Below w.heap.size w w' := by
  obtain ⟨V0, hV0⟩ : ∃ V, w.alloc (.cells #[.slice (some ⟨w.heap.size + 1, 0, none⟩) 2 2, .slice (some ⟨w.heap.size + 1 + 1, 0, none⟩) 2 2, .slice (some ⟨w.heap.size + 1 + 1 + 1, 0, none⟩) 1 1, .slice none 0 0] 27) = V := ⟨_, rfl⟩
  obtain ⟨V1, hV1⟩ : ∃ V, V0.alloc (.cells #[.string ⟨#[115]⟩, .string ⟨#[103]⟩] 9) = V := ⟨_, rfl⟩
  obtain ⟨V2, hV2⟩ : ∃ V, V1.alloc (.cells #[.int .i64 0, .int .i64 1] 3) = V := ⟨_, rfl⟩
  obtain ⟨V3, hV3⟩ : ∃ V, V2.alloc (.cells #[.int .i64 5, .bool true, .int .i64 0, .bool false, .int .i64 17, .bool true, .int .i64 1, .int .i64 2, .int .i64 known] 64) = V := ⟨_, rfl⟩
  have y0 : V0.heap.size = w.heap.size + 1 := by rw [← hV0]; simp
  have y1 : V1.heap.size = w.heap.size + 2 := by rw [← hV1]; simp; omega
  have y2 : V2.heap.size = w.heap.size + 3 := by rw [← hV2]; simp; omega
  have y3 : V3.heap.size = w.heap.size + 4 := by rw [← hV3]; simp; omega
  have p0 : V0.heap[w.heap.size]? = some (.cells #[.slice (some ⟨w.heap.size + 1, 0, none⟩) 2 2, .slice (some ⟨w.heap.size + 1 + 1, 0, none⟩) 2 2, .slice (some ⟨w.heap.size + 1 + 1 + 1, 0, none⟩) 1 1, .slice none 0 0] 27 (0, 0)) := by rw [← hV0]; exact World.alloc_heap_new _ _
  have p1 : V1.heap[w.heap.size + 1]? = some (.cells #[.string ⟨#[115]⟩, .string ⟨#[103]⟩] 9 (0, 0)) := by rw [← hV1, ← y0]; exact World.alloc_heap_new _ _
  have p2 : V2.heap[w.heap.size + 1 + 1]? = some (.cells #[.int .i64 0, .int .i64 1] 3 (0, 0)) := by rw [← hV2, show w.heap.size + 1 + 1 = V1.heap.size by omega]; exact World.alloc_heap_new _ _
  have p3 : V3.heap[w.heap.size + 1 + 1 + 1]? = some (.cells #[.int .i64 5, .bool true, .int .i64 0, .bool false, .int .i64 17, .bool true, .int .i64 1, .int .i64 2, .int .i64 known] 64 (0, 0)) := by rw [← hV3, show w.heap.size + 1 + 1 + 1 = V2.heap.size by omega]; exact World.alloc_heap_new _ _
  have n1 : Below V0.heap.size V0 V1 := by rw [← hV1]; exact (Below.refl _ _).alloc (Nat.le_refl _) _
  have n2 : Below V1.heap.size V1 V2 := by rw [← hV2]; exact (Below.refl _ _).alloc (Nat.le_refl _) _
  have n3 : Below V2.heap.size V2 V3 := by rw [← hV3]; exact (Below.refl _ _).alloc (Nat.le_refl _) _
  have n13 : Below V1.heap.size V1 V3 := n2.trans (n3.mono n2.size)
  have n03 : Below V0.heap.size V0 V3 := n1.trans (n13.mono n1.size)
  have nw : Below w.heap.size w V3 := by
    have : Below w.heap.size w V0 := by rw [← hV0]; exact (Below.refl _ _).alloc (Nat.le_refl _) _
    exact this.trans (n03.mono this.size)
  have r1 : nSl V3 V3.heap.size (some ⟨w.heap.size + 1, 0, none⟩) 2 2 [⟨#[115]⟩, ⟨#[103]⟩] := rows_of_heap (l := [⟨#[115]⟩, ⟨#[103]⟩]) sEnc_len ((n13.block _ (by omega)).trans p1) (Nat.le_refl _) (by decide) rfl
  have r2 : iSl V3 V3.heap.size (some ⟨w.heap.size + 1 + 1, 0, none⟩) 2 2 [0, 1] := rows_of_heap (l := [(0 : Int), 1]) iEnc_len ((n3.block _ (by omega)).trans p2) (Nat.le_refl _) (by decide) rfl
  have r3 : amSl V3 V3.heap.size (some ⟨w.heap.size + 1 + 1 + 1, 0, none⟩) 1 1 [askAm known] := rows_of_heap (l := [askAm known]) amEnc_len p3 (Nat.le_refl _) (by decide) rfl
  have q0 := (n03.block _ (by omega)).trans p0
  have x0 := cell_of_heap (o := 0) q0
  have x1 := cell_of_heap (o := 1) q0
  have x2 := cell_of_heap (o := 2) q0
  have x3 := cell_of_heap (o := 3) q0
  simp only [List.getElem?_toArray, List.getElem?_cons_zero, List.getElem?_cons_succ] at x0 x1 x2 x3
  have HW : Hid ((((w.alloc (.cells #[.slice (some ⟨w.heap.size + 1, 0, none⟩) 2 2, .slice (some ⟨w.heap.size + 1 + 1, 0, none⟩) 2 2, .slice (some ⟨w.heap.size + 1 + 1 + 1, 0, none⟩) 1 1, .slice none 0 0] 27)).alloc (.cells #[.string ⟨#[115]⟩, .string ⟨#[103]⟩] 9)).alloc (.cells #[.int .i64 0, .int .i64 1] 3)).alloc (.cells #[.int .i64 5, .bool true, .int .i64 0, .bool false, .int .i64 17, .bool true, .int .i64 1, .int .i64 2, .int .i64 known] 64) = V3) := by show _ = _; rw [hV0, hV1, hV2, hV3]
  have HP : Hid (∃ y : Qu, Ending.returned (.agg #[.slice (some ⟨w.heap.size + 1, 0, none⟩) 2 2, .slice (some ⟨w.heap.size + 1 + 1, 0, none⟩) 2 2, .slice (some ⟨w.heap.size + 1 + 1 + 1, 0, none⟩) 1 1, .slice none 0 0]) = .returned (.agg #[.slice y.nA y.nn y.nc, .slice y.sA y.sn y.sc, .slice y.aA y.an y.ac, .slice y.tA y.tn y.tc]) ∧ QuIn y V3 V3.heap.size ∧ AskedQ y known ∧ Below w.heap.size w V3) :=
    ⟨⟨some ⟨w.heap.size + 1, 0, none⟩, 2, 2, [⟨#[115]⟩, ⟨#[103]⟩], some ⟨w.heap.size + 1 + 1, 0, none⟩, 2, 2, [0, 1], some ⟨w.heap.size + 1 + 1 + 1, 0, none⟩, 1, 1, [askAm known], none, 0, 0, []⟩, rfl, ⟨r1, r2, r3, Rows.nil (Nat.zero_le _)⟩, ⟨rfl, rfl, rfl, rfl⟩, nw⟩
  clear hV0 hV1 hV2 hV3 y0 y1 y2 y3 p0 p1 p2 p3 n1 n2 n3 n13 n03 nw r1 r2 r3 q0
  go_enter Tryz.func23, Tryz.ntmps23
  go_wp2_with fail
  rw [HW.out]
  refine bodyPost_ret (v := .agg #[.slice (some ⟨w.heap.size + 1, 0, none⟩) 2 2, .slice (some ⟨w.heap.size + 1 + 1, 0, none⟩) 2 2, .slice (some ⟨w.heap.size + 1 + 1 + 1, 0, none⟩) 1 1, .slice none 0 0]) ?_ rfl HP.out
  simp [results, Tryz.f23, go_sem, x0, x1, x2, x3]
set_option maxRecDepth 100000 in
set_option maxHeartbeats 1000000 in
theorem count_any (q : Qu) (FA : Option Addr) (fn fc : Nat) (l : List Fc) (w : World) (hq : QuIn q w w.heap.size) (hw : WordsAt w) (hl : fSl w w.heap.size FA fn fc l) (hfn : fn ≤ 100000) (hsz : checkJ wdJ q = true → (fulJ q l).length ≤ 65535) :
    Calls Tryz.prog 15 #[.agg #[.slice q.nA q.nn q.nc, .slice q.sA q.sn q.sc, .slice q.aA q.an q.ac, .slice q.tA q.tn q.tc], .slice FA fn fc] w fun e w' => e = .returned (.tuple #[.int .i64 (rowsV q l).length, .int .i64 (rowsE q)]) ∧ Below w.heap.size w w' := by
  obtain ⟨W0, hW0⟩ : ∃ W0, w.alloc (.cells #[.slice q.nA q.nn q.nc, .slice q.sA q.sn q.sc, .slice q.aA q.an q.ac, .slice q.tA q.tn q.tc] 27) = W0 := ⟨_, rfl⟩
  have hBW : Below w.heap.size w W0 := hW0 ▸ (Below.refl _ w).alloc (Nat.le_refl _) _
  have hb0 : QBox q w.heap.size W0 := ⟨hW0 ▸ World.alloc_heap_new _ _⟩
  have hR := rows_any q FA fn fc l W0 (hq.keep hBW.size hBW.block) (hw.below hBW) (hl.keep (Rep.flat_stable _) hBW.size hBW.block) hfn hsz
  have HR := hidp hR
  have HBW := hidp hBW
  have HW0 := hidp hW0
  obtain ⟨x0, x1, x2, x3, l0⟩ := hb0.cells
  clear hBW hb0 hq hw hl hsz hW0 hR
  go_enter Tryz.func15, Tryz.ntmps15
  go_wp2_with fail
  rw [HW0.out]
  go_wp2_with fail
  refine HR.out.mono ?_
  rintro e w1 ⟨A, n, c, rfl, hr, hb⟩
  have HN := hidp hr.len.1
  have HB := hidp (HBW.out.trans (hb.mono HBW.out.size))
  clear hr hb x0 x1 x2 x3 l0
  go_wp2_with fail
  go_ret2
  exact ⟨by rw [HN.out]; rfl, HB.out⟩
end Go.Proofs.YtbegdcjofnfkiaaGreatDoor
