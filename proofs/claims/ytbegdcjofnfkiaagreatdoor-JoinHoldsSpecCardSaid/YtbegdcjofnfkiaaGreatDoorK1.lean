/- The reference's arguments and order (printed by tools/gen120.py). -/
import Derived.Test.YtbegdcjofnfkiaaGreatDoorK0
import Derived.Test.YtbegdcjofnfkiaaGreatDoorJ6
import Derived.Test.YtbegdcjofnfkiaaGreatDoorJ17A
import Derived.Test.YtbegdcjofnfkiaaGreatDoorRelQS
namespace Go.Proofs.YtbegdcjofnfkiaaGreatDoor
open Go.RowKit Go.Shelf Go.Sort

theorem am_getK {n₀ n c k : Nat} {A : Option Addr} {l : List Am} {W : World} (h : amSl W n₀ A n c l) (hk : k < n) :
    ∃ b off a, A = some ⟨b, off, none⟩ ∧ b < n₀ ∧ l[k]? = some a ∧ W.cell? ⟨b, off + k * 9, none⟩ = some (.int .i64 a.kind) ∧ W.cell? ⟨b, off + k * 9 + 1, none⟩ = some (.bool a.s.var) ∧ W.cell? ⟨b, off + k * 9 + 2, none⟩ = some (.int .i64 a.s.n) ∧ W.cell? ⟨b, off + k * 9 + 3, none⟩ = some (.bool a.o.var) ∧ W.cell? ⟨b, off + k * 9 + 4, none⟩ = some (.int .i64 a.o.n) ∧
      W.cell? ⟨b, off + k * 9 + 5, none⟩ = some (.bool a.v.var) ∧ W.cell? ⟨b, off + k * 9 + 6, none⟩ = some (.int .i64 a.v.n) ∧ W.cell? ⟨b, off + k * 9 + 7, none⟩ = some (.int .i64 a.term) ∧ W.cell? ⟨b, off + k * 9 + 8, none⟩ = some (.int .i64 a.known) := by
  obtain ⟨b, off, m, cs, e, hlt, hk', rfl, hc⟩ := Rows.get h hk
  exact ⟨b, off, m, e, hlt, hk', hc 0 _ rfl, hc 1 _ rfl, hc 2 _ rfl, hc 3 _ rfl, hc 4 _ rfl, hc 5 _ rfl, hc 6 _ rfl, hc 7 _ rfl, hc 8 _ rfl⟩
theorem te_getK {n₀ n c k : Nat} {A : Option Addr} {l : List Te} {W : World} (h : teSl W n₀ A n c l) (hk : k < n) :
    ∃ b off a, A = some ⟨b, off, none⟩ ∧ b < n₀ ∧ l[k]? = some a ∧ W.cell? ⟨b, off + k * 5, none⟩ = some (.int .i64 a.op) ∧ W.cell? ⟨b, off + k * 5 + 1, none⟩ = some (.bool a.a.var) ∧ W.cell? ⟨b, off + k * 5 + 2, none⟩ = some (.int .i64 a.a.n) ∧ W.cell? ⟨b, off + k * 5 + 3, none⟩ = some (.bool a.b.var) ∧ W.cell? ⟨b, off + k * 5 + 4, none⟩ = some (.int .i64 a.b.n) := by
  obtain ⟨b, off, m, cs, e, hlt, hk', rfl, hc⟩ := Rows.get h hk
  exact ⟨b, off, m, e, hlt, hk', hc 0 _ rfl, hc 1 _ rfl, hc 2 _ rfl, hc 3 _ rfl, hc 4 _ rfl⟩
theorem arInfoK : (Tryz.prog.info? 62).map (fun i => (i.zero, i.size, i.bytes)) = some (some (.agg #[.bool false, .int .i64 0]), 2, 16) := by kernel_rfl
theorem ix_ArgsK {A : Option Addr} {n c k b off : Nat} (hA : A = some ⟨b, off, none⟩) (hk : k < n) (W : World) : (Instr.indexAt 130 (.slice A n c) (.int .i64 k)).run Tryz.prog W = .ok (.pointer (some ⟨b, off + k * 2, none⟩)) W := by
  subst hA
  have hk' : (k : Int) < n := by omega
  simp [go_sem, hk']
theorem argsA_len (l : List Am) : (argsA l).length = 3 * l.length := by
  unfold argsA
  induction l with
  | nil => rfl
  | cons a l ih => rw [List.flatMap_cons, List.length_append, ih]; simp; omega
theorem argsT_len (l : List Te) : (argsT l).length = 2 * l.length := by
  unfold argsT
  induction l with
  | nil => rfl
  | cons a l ih => rw [List.flatMap_cons, List.length_append, ih]; simp; omega
theorem argsA_step {l : List Am} {k : Nat} {a : Am} (h : l[k]? = some a) : argsA (l.take (k + 1)) = argsA (l.take k) ++ [a.s, a.o, a.v] := by
  unfold argsA; rw [take_snoc h, List.flatMap_append]; simp
theorem argsT_step {l : List Te} {k : Nat} {a : Te} (h : l[k]? = some a) : argsT (l.take (k + 1)) = argsT (l.take k) ++ [a.a, a.b] := by
  unfold argsT; rw [take_snoc h, List.flatMap_append]; simp
set_option maxRecDepth 100000 in
set_option maxHeartbeats 8000000 in
theorem r50args_any (q : Qu) (w : World) (hq : QuIn q w w.heap.size) (ha6 : q.an ≤ 1000) (ht6 : q.tn ≤ 1000) :
    Calls Tryz.prog 69 #[.agg #[.slice q.nA q.nn q.nc, .slice q.sA q.sn q.sc, .slice q.aA q.an q.ac, .slice q.tA q.tn q.tc]] w fun e w' => ∃ A n c, e = .returned (.slice A n c) ∧ w'.ownsRow (w.heap.size + 1) 62 2 (.slice A n c) n ((argsJ q).flatMap arEnc) ∧ n = (argsJ q).length ∧ Below w.heap.size w w' := by
  obtain ⟨i0, hi, hz, hs, hbb⟩ := info_parts arInfoK
  have HQu : Hid (∀ W, Below w.heap.size w W → QuIn q W W.heap.size) := fun W hb => hq.keep hb.size hb.block
  have HLen : Hid (q.an = q.atoms.length ∧ q.tn = q.tests.length) := ⟨hq.2.2.1.1, hq.2.2.2.1⟩
  obtain ⟨W0, hW0⟩ : ∃ W0, w.alloc (.cells #[.slice q.nA q.nn q.nc, .slice q.sA q.sn q.sc, .slice q.aA q.an q.ac, .slice q.tA q.tn q.tc] 27) = W0 := ⟨_, rfl⟩
  have hBW : Below w.heap.size w W0 := hW0 ▸ (Below.refl _ w).alloc (Nat.le_refl _) _
  have hb0 : QBox q w.heap.size W0 := ⟨hW0 ▸ World.alloc_heap_new _ _⟩
  have hz0 : W0.heap.size = w.heap.size + 1 := by rw [← hW0]; simp
  have HBW := hidp hBW
  have HB0 := hidp hb0
  have HW0 := hidp hW0
  have HZ0 := hidp hz0
  clear hBW hb0 hq hW0 hz0
  go_enter Tryz.func69, Tryz.ntmps69
  go_wp2_with fail
  rw [HW0.out]
  have hoe := own_empty W0 (w.heap.size + 1) 2 62 (by rw [HZ0.out]; exact Nat.le_refl _)
  have HOe : Hid ((W0.alloc (.cells #[] 62)).ownsRow (w.heap.size + 1) 62 2 (.slice (some ⟨w.heap.size + 1, 0, none⟩) 0 0) 0 ([].flatMap arEnc)) := by
    show World.ownsRow _ _ _ _ _ _ _
    have h := hoe
    rw [HZ0.out] at h
    exact h
  have hb1 : Below W0.heap.size W0 (W0.alloc (.cells #[] 62)) := (Below.refl _ _).alloc (Nat.le_refl _) _
  go_loopw [3, 4] (fun v i wr => ∃ k : Nat, k ≤ q.an ∧ i = .int .i64 k ∧ (∃ A c, v = .slice A (3 * k) c) ∧ wr.ownsRow (w.heap.size + 1) 62 2 v (3 * k) ((argsA (q.atoms.take k)).flatMap arEnc) ∧ QBox q w.heap.size wr ∧ Below w.heap.size w wr) (fun _ i _ => q.an - (intOf i).toNat)
  case atStart => exact ⟨0, by omega, rfl, ⟨_, _, rfl⟩, by rw [List.take_zero]; show World.ownsRow _ _ _ _ _ 0 []; exact HOe.out, HB0.out.later hb1, HBW.out.trans (hb1.mono HBW.out.size)⟩
  case round =>
  obtain ⟨k, hk, rfl, ⟨A3, c3, rfl⟩, hown, hqb, hbe⟩ := hrel
  have HOw := hidp hown
  have HQb := hidp hqb
  have HBe := hidp hbe
  obtain ⟨x0, x1, x2, x3, l0⟩ := hqb.cells
  have hbr := hbe.size
  have hbr1 : w.heap.size + 1 ≤ wr.heap.size := by have := lt_of_heap hqb.box; omega
  clear hoe hb1 hown hqb hbe
  by_cases hkn : k < q.an
  · have hkn' : (k : Int) < q.an := by omega
    obtain ⟨b, off, a, hA, _, hak, c0, c1, c2, c3', c4, c5, c6, c7, c8⟩ := am_getK (HQu.out _ HBe.out).2.2.1 hkn
    have hix := fun W => ix_Atoms (c := q.ac) hA hkn W
    have la := lt_of_cell c0
    have HAk := hidp hak
    clear hak hA c0 c7 c8
    go_wp2_with fail
    refine wp_region_QS (w.heap.size) (fun k => k == 20) (fun k => k == 19 || k == 20 || k == 21) (fun k => k == 0 || k == 1 || k == 2 || k == 3 || k == 4 || k == 5 || k == 6 || k == 7 || k == 8 || k == 9 || k == 10 || k == 11 || k == 12 || k == 13 || k == 14 || k == 15 || k == 16 || k == 17 || k == 18 || k == 19 || k == 20) (hbr) (by kernel_rfl) (by kernel_rfl) (by kernel_rfl) (by kernel_rfl) ?_
    apply qs_det (mask := []) (S := (Below wr.heap.size wr)) (m := (fun w => w.heap.size)) (hS := by rfl) (hm := by rfl) (hg := by kernel_rfl) (hk := by kernel_rfl)
    · dsimp only [oblS]
      rintro w9 h9
      go_simp
      exact ⟨Below.refl _ _, rfl⟩
    dsimp only [List.nil_append, List.cons_append]
    apply qs_det (mask := [false]) (S := (Below wr.heap.size wr)) (m := (fun w => w.heap.size)) (hS := by rfl) (hm := by rfl) (hg := by kernel_rfl) (hk := by kernel_rfl)
    · dsimp only [oblS]
      rintro w9 h9
      go_simp
      exact ⟨Below.refl _ _, rfl⟩
    dsimp only [List.nil_append, List.cons_append]
    apply qs_det (mask := [false, true]) (S := (Below wr.heap.size wr)) (m := (fun w => w.heap.size)) (hS := by rfl) (hm := by rfl) (hg := by kernel_rfl) (hk := by kernel_rfl)
    · dsimp only [oblS]
      rintro w9 h9
      have hc9 := (bcell h9).1
      go_simp
      exact ⟨Below.refl _ _, rfl⟩
    dsimp only [List.nil_append, List.cons_append]
    apply qs_det (mask := [false, false, false]) (S := (Below wr.heap.size wr)) (m := (fun w => w.heap.size)) (hS := by rfl) (hm := by rfl) (hg := by kernel_rfl) (hk := by kernel_rfl)
    · dsimp only [oblS]
      rintro w9 h9
      go_simp
      exact ⟨Below.refl _ _, rfl⟩
    dsimp only [List.nil_append, List.cons_append]
    apply qs_det (mask := [false, false, true, true]) (S := (Below wr.heap.size wr)) (m := (fun w => w.heap.size)) (hS := by rfl) (hm := by rfl) (hg := by kernel_rfl) (hk := by kernel_rfl)
    · dsimp only [oblS]
      rintro w9 h9
      go_simp
      exact ⟨Below.refl _ _, rfl⟩
    dsimp only [List.nil_append, List.cons_append]
    apply qs_det (mask := [false, false, false, false, true]) (S := (Below wr.heap.size wr)) (m := (fun w => w.heap.size)) (hS := by rfl) (hm := by rfl) (hg := by kernel_rfl) (hk := by kernel_rfl)
    · dsimp only [oblS]
      rintro w9 h9
      go_simp
      exact ⟨Below.refl _ _, rfl⟩
    dsimp only [List.nil_append, List.cons_append]
    apply qs_det (mask := [false, false, false, false, false, true]) (S := (Below wr.heap.size wr)) (m := (fun w => w.heap.size)) (hS := by rfl) (hm := by rfl) (hg := by kernel_rfl) (hk := by kernel_rfl)
    · dsimp only [oblS]
      rintro w9 h9
      have hc9 := (bcell h9).1
      go_simp
      exact ⟨Below.refl _ _, rfl⟩
    dsimp only [List.nil_append, List.cons_append]
    apply qs_det (mask := [false, false, false, false, false, false, false]) (S := (Below wr.heap.size wr)) (m := (fun w => w.heap.size)) (hS := by rfl) (hm := by rfl) (hg := by kernel_rfl) (hk := by kernel_rfl)
    · dsimp only [oblS]
      rintro w9 h9
      go_simp
      exact ⟨Below.refl _ _, rfl⟩
    dsimp only [List.nil_append, List.cons_append]
    apply qs_det (mask := [false, false, false, false, false, false, false, true]) (S := (Below wr.heap.size wr)) (m := (fun w => w.heap.size)) (hS := by rfl) (hm := by rfl) (hg := by kernel_rfl) (hk := by kernel_rfl)
    · dsimp only [oblS]
      rintro w9 h9
      have hc9 := (bcell h9).1
      go_simp
      exact ⟨Below.refl _ _, rfl⟩
    dsimp only [List.nil_append, List.cons_append]
    apply qs_det (mask := [false, false, false, false, false, false, false, false, false]) (S := (Below wr.heap.size wr)) (m := (fun w => w.heap.size)) (hS := by rfl) (hm := by rfl) (hg := by kernel_rfl) (hk := by kernel_rfl)
    · dsimp only [oblS]
      rintro w9 h9
      go_simp
      exact ⟨Below.refl _ _, rfl⟩
    dsimp only [List.nil_append, List.cons_append]
    apply qs_det (mask := [false, false, false, false, false, false, false, false, true, true]) (S := (Below wr.heap.size wr)) (m := (fun w => w.heap.size)) (hS := by rfl) (hm := by rfl) (hg := by kernel_rfl) (hk := by kernel_rfl)
    · dsimp only [oblS]
      rintro w9 h9
      go_simp
      exact ⟨Below.refl _ _, rfl⟩
    dsimp only [List.nil_append, List.cons_append]
    apply qs_det (mask := [false, false, false, false, false, false, false, false, false, false, true]) (S := (Below wr.heap.size wr)) (m := (fun w => w.heap.size)) (hS := by rfl) (hm := by rfl) (hg := by kernel_rfl) (hk := by kernel_rfl)
    · dsimp only [oblS]
      rintro w9 h9
      go_simp
      exact ⟨Below.refl _ _, rfl⟩
    dsimp only [List.nil_append, List.cons_append]
    apply qs_det (mask := [false, false, false, false, false, false, false, false, false, false, false, true]) (S := (Below wr.heap.size wr)) (m := (fun w => w.heap.size)) (hS := by rfl) (hm := by rfl) (hg := by kernel_rfl) (hk := by kernel_rfl)
    · dsimp only [oblS]
      rintro w9 h9
      have hc9 := (bcell h9).1
      go_simp
      exact ⟨Below.refl _ _, rfl⟩
    dsimp only [List.nil_append, List.cons_append]
    apply qs_det (mask := [false, false, false, false, false, false, false, false, false, false, false, false, false]) (S := (Below wr.heap.size wr)) (m := (fun w => w.heap.size)) (hS := by rfl) (hm := by rfl) (hg := by kernel_rfl) (hk := by kernel_rfl)
    · dsimp only [oblS]
      rintro w9 h9
      go_simp
      exact ⟨Below.refl _ _, rfl⟩
    dsimp only [List.nil_append, List.cons_append]
    apply qs_det (mask := [false, false, false, false, false, false, false, false, false, false, false, false, false, true]) (S := (Below wr.heap.size wr)) (m := (fun w => w.heap.size)) (hS := by rfl) (hm := by rfl) (hg := by kernel_rfl) (hk := by kernel_rfl)
    · dsimp only [oblS]
      rintro w9 h9
      have hc9 := (bcell h9).1
      go_simp
      exact ⟨Below.refl _ _, rfl⟩
    dsimp only [List.nil_append, List.cons_append]
    apply qs_det (mask := [false, false, false, false, false, false, false, false, false, false, false, false, false, false, false]) (S := (Below wr.heap.size wr)) (m := (fun w => w.heap.size)) (hS := by rfl) (hm := by rfl) (hg := by kernel_rfl) (hk := by kernel_rfl)
    · dsimp only [oblS]
      rintro w9 h9
      go_simp
      exact ⟨Below.refl _ _, rfl⟩
    dsimp only [List.nil_append, List.cons_append]
    apply qs_det (mask := [false, false, false, false, false, false, false, false, false, false, false, false, false, false, true, true]) (S := (Below wr.heap.size wr)) (m := (fun w => w.heap.size)) (hS := by rfl) (hm := by rfl) (hg := by kernel_rfl) (hk := by kernel_rfl)
    · dsimp only [oblS]
      rintro w9 h9
      go_simp
      exact ⟨Below.refl _ _, rfl⟩
    dsimp only [List.nil_append, List.cons_append]
    apply qs_det (mask := [false, false, false, false, false, false, false, false, false, false, false, false, false, false, false, false, true]) (S := (Below wr.heap.size wr)) (m := (fun w => w.heap.size)) (hS := by rfl) (hm := by rfl) (hg := by kernel_rfl) (hk := by kernel_rfl)
    · dsimp only [oblS]
      rintro w9 h9
      go_simp
      exact ⟨Below.refl _ _, rfl⟩
    dsimp only [List.nil_append, List.cons_append]
    apply qs_det (mask := [false, false, false, false, false, false, false, false, false, false, false, false, false, false, false, false, false, true]) (S := (Below wr.heap.size wr)) (m := (fun w => w.heap.size)) (hS := by rfl) (hm := by rfl) (hg := by kernel_rfl) (hk := by kernel_rfl)
    · dsimp only [oblS]
      rintro w9 h9
      have hc9 := (bcell h9).1
      go_simp
      exact ⟨Below.refl _ _, rfl⟩
    dsimp only [List.nil_append, List.cons_append]
    apply qs_any (mask := [false, false, false, false, false, false, true, false, false, false, false, false, true, false, false, false, false, false, true]) (S := (Below wr.heap.size wr)) (m := (fun w => w.heap.size)) (T := fun v W => ∃ g, v = .slice (some ⟨g, 0, none⟩) 3 3 ∧ W.heap[g]? = some (.cells #[.bool a.s.var, .int .i64 a.s.n, .bool a.o.var, .int .i64 a.o.n, .bool a.v.var, .int .i64 a.v.n] 62 (0, 0))) (hT := fun v w w' hb ⟨g, hv, hh⟩ => ⟨g, hv, (hb.block _ (lt_of_heap hh)).trans hh⟩) (hf := by kernel_rfl) (hS := by rfl) (hm := by rfl) (hg := by kernel_rfl) (hk := by kernel_rfl)
    · dsimp only [oblS]
      rintro w9 h9 T' hT'
      go_simp
      exact ⟨(Below.refl _ w9).alloc (Nat.le_refl _) _, hT' _ _ ⟨_, rfl, World.alloc_heap_new w9 _⟩⟩
    dsimp only [List.nil_append, List.cons_append]
    apply qs_any (mask := [true, false, false, false, false, false, false, false, false, false, false, false, false, false, false, false, false, false, false, true]) (S := (Below wr.heap.size wr)) (m := (fun _ => w.heap.size)) (T := fun v W => ∃ A c, v = .slice A (3 * k + 3) c ∧ W.ownsRow (w.heap.size + 1) 62 2 v (3 * k + 3) (((argsA (q.atoms.take k)) ++ [a.s, a.o, a.v]).flatMap arEnc) ∧ QBox q w.heap.size W) (hT := fun v w w' hb ⟨A, c, e, h, hq⟩ => ⟨A, c, e, own_keepB h fun g hg => hb.block g (h.lt g hg).2, hq.later hb⟩) (hf := by kernel_rfl) (hS := by rfl) (hm := by rfl) (hg := by kernel_rfl) (hk := by kernel_rfl)
    · dsimp only [oblS]
      intro v33
      rintro w9 ⟨h9, t33⟩ T' hT'
      obtain ⟨g, e0, hg0⟩ := t33
      subst e0
      have ho9 : w9.ownsRow (w.heap.size + 1) 62 2 (.slice A3 (3 * k) c3) (3 * k) ((argsA (q.atoms.take k)).flatMap arEnc) := own_keepB HOw.out fun g hg => h9.block g (HOw.out.lt g hg).2
      have rw9 : Rows 2 (Rep.flat arEnc) w9 w9.heap.size (some ⟨g, 0, none⟩) 3 3 [a.s, a.o, a.v] := rows_of_heap (l := [a.s, a.o, a.v]) arEnc_len hg0 (by show 3 ≤ 3; decide) (by show 3 ≤ 9223372036854775807; decide) rfl
      obtain ⟨v', w', hrun, hown', hg', hat⟩ := run_append_rows (P := Tryz.prog) (ty := 130) (enc := arEnc) Tryz.underlying130 hi hz hs hbb rfl arEnc_len (by decide) arEnc_one ho9 rw9 (by omega) (by omega) (by have := h9.size; omega)
      have hb9 : Below w.heap.size w9 w' := (Below.refl _ _).grown hg' (by have := h9.size; omega) fun g e => by have := (ho9.lt g e).1; omega
      have hq9 : QBox q w.heap.size w' := ⟨(hg'.block _ (by have := h9.size; omega) (fun e => by have := (ho9.lt _ e.symm).1; omega)).trans (HQb.out.later h9).box⟩
      obtain ⟨A', c', e', _⟩ := own_rows arEnc_len (by decide) hown'
      exact relUpon_append (.tmp 14) (.tmp 33) 130 rfl rfl rfl hrun hb9 (hT' _ _ ⟨A', c', e', hown', hq9⟩)
    dsimp only [List.nil_append, List.cons_append]
    apply qs_any (mask := [true, false, false, false, false, false, false, false, false, false, false, false, false, false, false, false, false, false, false, false, true]) (S := (Below (w.heap.size) wr)) (m := (fun w => w.heap.size)) (T := fun v W => ∃ A c, v = .slice A (3 * k + 3) c ∧ W.ownsRow (w.heap.size + 1) 62 2 v (3 * k + 3) (((argsA (q.atoms.take k)) ++ [a.s, a.o, a.v]).flatMap arEnc) ∧ QBox q w.heap.size W) (hT := fun v w w' hb ⟨A, c, e, h, hq⟩ => ⟨A, c, e, own_keepB h fun g hg => hb.block g (h.lt g hg).2, hq.later hb⟩) (hf := by kernel_rfl) (hS := by rfl) (hm := by rfl) (hg := by kernel_rfl) (hk := by kernel_rfl)
    · dsimp only [oblS]
      intro v34
      rintro w9 ⟨h9, t34⟩ T' hT'
      go_simp
      exact ⟨Below.refl _ _, hT' _ _ t34⟩
    dsimp only [List.nil_append, List.cons_append]
    refine qs_end [false, false, false, false, false, false, false, false, false, false, false, false, false, false, false, false, false, false, false, true, false, false] (by kernel_rfl) (by kernel_rfl) ?_
    dsimp only [finQ]
    rintro v33 v34 v3 w8 ⟨⟨hb8, _⟩, A8, c8, rfl, ho8, hq8⟩
    have HO8 := hidp ho8
    have HQ8 := hidp hq8
    have HB8 := hidp (HBe.out.trans hb8)
    have hst := argsA_step HAk.out
    have HSt := hidp hst
    clear ho8 hq8 hb8 hst x0 x1 x2 x3 l0
    go_simp
    go_wp2_with fail
    go_roundw
    case rel => exact ⟨k + 1, by omega, by go_num, ⟨A8, c8, by rw [show 3 * k + 3 = 3 * (k + 1) by omega]⟩, by rw [show 3 * (k + 1) = 3 * k + 3 by omega, HSt.out]; exact HO8.out, HQ8.out, HB8.out⟩
    case measure => simp [intOf]; omega
  have hke : k = q.an := by omega
  subst hke
  have hkk : ¬ ((q.an : Int) < q.an) := by omega
  have HO1 : Hid (wr.ownsRow (w.heap.size + 1) 62 2 (.slice A3 (3 * q.an) c3) (3 * q.an) ((argsA q.atoms).flatMap arEnc)) := by
    have h := HOw.out
    rw [List.take_of_length_le (by rw [← HLen.out.1]; exact Nat.le_refl _)] at h
    exact h
  rename World => wm
  clear HOw
  go_wp2_with fail
  clear x0 x1 x2 x3 l0
  go_loopw [3, 5] (fun v i wr => ∃ k : Nat, k ≤ q.tn ∧ i = .int .i64 k ∧ (∃ A c, v = .slice A (3 * q.an + 2 * k) c) ∧ wr.ownsRow (w.heap.size + 1) 62 2 v (3 * q.an + 2 * k) ((argsA q.atoms ++ argsT (q.tests.take k)).flatMap arEnc) ∧ QBox q w.heap.size wr ∧ Below w.heap.size w wr) (fun _ i _ => q.tn - (intOf i).toNat)
  case atStart => exact ⟨0, by omega, rfl, ⟨_, _, rfl⟩, by rw [List.take_zero, show argsT [] = [] from rfl, List.append_nil]; exact HO1.out, HQb.out, HBe.out⟩
  case round =>
  obtain ⟨k, hk, rfl, ⟨A4, c4, rfl⟩, hown, hqb, hbe⟩ := hrel
  clear HO1 HQb HBe
  have HOw := hidp hown
  have HQb := hidp hqb
  have HBe := hidp hbe
  obtain ⟨x0, x1, x2, x3, l0⟩ := hqb.cells
  have hbr := hbe.size
  have hbr1 : w.heap.size + 1 ≤ wr.heap.size := by have := lt_of_heap hqb.box; omega
  clear hown hqb hbe
  by_cases hkn : k < q.tn
  · have hkn' : (k : Int) < q.tn := by omega
    obtain ⟨b, off, a, hA, _, hak, d0, d1, d2, d3, d4⟩ := te_getK (HQu.out _ HBe.out).2.2.2 hkn
    have hix := fun W => ix_Tests (c := q.tc) hA hkn W
    have la := lt_of_cell d0
    have HAk := hidp hak
    clear hak hA d0
    go_wp2_with fail
    refine wp_region_QS (w.heap.size) (fun k => k == 14) (fun k => k == 13 || k == 14 || k == 15) (fun k => k == 0 || k == 1 || k == 2 || k == 3 || k == 4 || k == 5 || k == 6 || k == 7 || k == 8 || k == 9 || k == 10 || k == 11 || k == 12 || k == 13 || k == 14) (hbr) (by kernel_rfl) (by kernel_rfl) (by kernel_rfl) (by kernel_rfl) ?_
    apply qs_det (mask := []) (S := (Below wr.heap.size wr)) (m := (fun w => w.heap.size)) (hS := by rfl) (hm := by rfl) (hg := by kernel_rfl) (hk := by kernel_rfl)
    · dsimp only [oblS]
      rintro w9 h9
      go_simp
      exact ⟨Below.refl _ _, rfl⟩
    dsimp only [List.nil_append, List.cons_append]
    apply qs_det (mask := [false]) (S := (Below wr.heap.size wr)) (m := (fun w => w.heap.size)) (hS := by rfl) (hm := by rfl) (hg := by kernel_rfl) (hk := by kernel_rfl)
    · dsimp only [oblS]
      rintro w9 h9
      go_simp
      exact ⟨Below.refl _ _, rfl⟩
    dsimp only [List.nil_append, List.cons_append]
    apply qs_det (mask := [false, true]) (S := (Below wr.heap.size wr)) (m := (fun w => w.heap.size)) (hS := by rfl) (hm := by rfl) (hg := by kernel_rfl) (hk := by kernel_rfl)
    · dsimp only [oblS]
      rintro w9 h9
      have hc9 := (bcell h9).1
      go_simp
      exact ⟨Below.refl _ _, rfl⟩
    dsimp only [List.nil_append, List.cons_append]
    apply qs_det (mask := [false, false, false]) (S := (Below wr.heap.size wr)) (m := (fun w => w.heap.size)) (hS := by rfl) (hm := by rfl) (hg := by kernel_rfl) (hk := by kernel_rfl)
    · dsimp only [oblS]
      rintro w9 h9
      go_simp
      exact ⟨Below.refl _ _, rfl⟩
    dsimp only [List.nil_append, List.cons_append]
    apply qs_det (mask := [false, false, true, true]) (S := (Below wr.heap.size wr)) (m := (fun w => w.heap.size)) (hS := by rfl) (hm := by rfl) (hg := by kernel_rfl) (hk := by kernel_rfl)
    · dsimp only [oblS]
      rintro w9 h9
      go_simp
      exact ⟨Below.refl _ _, rfl⟩
    dsimp only [List.nil_append, List.cons_append]
    apply qs_det (mask := [false, false, false, false, true]) (S := (Below wr.heap.size wr)) (m := (fun w => w.heap.size)) (hS := by rfl) (hm := by rfl) (hg := by kernel_rfl) (hk := by kernel_rfl)
    · dsimp only [oblS]
      rintro w9 h9
      go_simp
      exact ⟨Below.refl _ _, rfl⟩
    dsimp only [List.nil_append, List.cons_append]
    apply qs_det (mask := [false, false, false, false, false, true]) (S := (Below wr.heap.size wr)) (m := (fun w => w.heap.size)) (hS := by rfl) (hm := by rfl) (hg := by kernel_rfl) (hk := by kernel_rfl)
    · dsimp only [oblS]
      rintro w9 h9
      have hc9 := (bcell h9).1
      go_simp
      exact ⟨Below.refl _ _, rfl⟩
    dsimp only [List.nil_append, List.cons_append]
    apply qs_det (mask := [false, false, false, false, false, false, false]) (S := (Below wr.heap.size wr)) (m := (fun w => w.heap.size)) (hS := by rfl) (hm := by rfl) (hg := by kernel_rfl) (hk := by kernel_rfl)
    · dsimp only [oblS]
      rintro w9 h9
      go_simp
      exact ⟨Below.refl _ _, rfl⟩
    dsimp only [List.nil_append, List.cons_append]
    apply qs_det (mask := [false, false, false, false, false, false, false, true]) (S := (Below wr.heap.size wr)) (m := (fun w => w.heap.size)) (hS := by rfl) (hm := by rfl) (hg := by kernel_rfl) (hk := by kernel_rfl)
    · dsimp only [oblS]
      rintro w9 h9
      have hc9 := (bcell h9).1
      go_simp
      exact ⟨Below.refl _ _, rfl⟩
    dsimp only [List.nil_append, List.cons_append]
    apply qs_det (mask := [false, false, false, false, false, false, false, false, false]) (S := (Below wr.heap.size wr)) (m := (fun w => w.heap.size)) (hS := by rfl) (hm := by rfl) (hg := by kernel_rfl) (hk := by kernel_rfl)
    · dsimp only [oblS]
      rintro w9 h9
      go_simp
      exact ⟨Below.refl _ _, rfl⟩
    dsimp only [List.nil_append, List.cons_append]
    apply qs_det (mask := [false, false, false, false, false, false, false, false, true, true]) (S := (Below wr.heap.size wr)) (m := (fun w => w.heap.size)) (hS := by rfl) (hm := by rfl) (hg := by kernel_rfl) (hk := by kernel_rfl)
    · dsimp only [oblS]
      rintro w9 h9
      go_simp
      exact ⟨Below.refl _ _, rfl⟩
    dsimp only [List.nil_append, List.cons_append]
    apply qs_det (mask := [false, false, false, false, false, false, false, false, false, false, true]) (S := (Below wr.heap.size wr)) (m := (fun w => w.heap.size)) (hS := by rfl) (hm := by rfl) (hg := by kernel_rfl) (hk := by kernel_rfl)
    · dsimp only [oblS]
      rintro w9 h9
      go_simp
      exact ⟨Below.refl _ _, rfl⟩
    dsimp only [List.nil_append, List.cons_append]
    apply qs_det (mask := [false, false, false, false, false, false, false, false, false, false, false, true]) (S := (Below wr.heap.size wr)) (m := (fun w => w.heap.size)) (hS := by rfl) (hm := by rfl) (hg := by kernel_rfl) (hk := by kernel_rfl)
    · dsimp only [oblS]
      rintro w9 h9
      have hc9 := (bcell h9).1
      go_simp
      exact ⟨Below.refl _ _, rfl⟩
    dsimp only [List.nil_append, List.cons_append]
    apply qs_any (mask := [false, false, false, false, false, false, true, false, false, false, false, false, true]) (S := (Below wr.heap.size wr)) (m := (fun w => w.heap.size)) (T := fun v W => ∃ g, v = .slice (some ⟨g, 0, none⟩) 2 2 ∧ W.heap[g]? = some (.cells #[.bool a.a.var, .int .i64 a.a.n, .bool a.b.var, .int .i64 a.b.n] 62 (0, 0))) (hT := fun v w w' hb ⟨g, hv, hh⟩ => ⟨g, hv, (hb.block _ (lt_of_heap hh)).trans hh⟩) (hf := by kernel_rfl) (hS := by rfl) (hm := by rfl) (hg := by kernel_rfl) (hk := by kernel_rfl)
    · dsimp only [oblS]
      rintro w9 h9 T' hT'
      go_simp
      exact ⟨(Below.refl _ w9).alloc (Nat.le_refl _) _, hT' _ _ ⟨_, rfl, World.alloc_heap_new w9 _⟩⟩
    dsimp only [List.nil_append, List.cons_append]
    apply qs_any (mask := [true, false, false, false, false, false, false, false, false, false, false, false, false, true]) (S := (Below wr.heap.size wr)) (m := (fun _ => w.heap.size)) (T := fun v W => ∃ A c, v = .slice A (3 * q.an + 2 * k + 2) c ∧ W.ownsRow (w.heap.size + 1) 62 2 v (3 * q.an + 2 * k + 2) (((argsA q.atoms ++ argsT (q.tests.take k)) ++ [a.a, a.b]).flatMap arEnc) ∧ QBox q w.heap.size W) (hT := fun v w w' hb ⟨A, c, e, h, hq⟩ => ⟨A, c, e, own_keepB h fun g hg => hb.block g (h.lt g hg).2, hq.later hb⟩) (hf := by kernel_rfl) (hS := by rfl) (hm := by rfl) (hg := by kernel_rfl) (hk := by kernel_rfl)
    · dsimp only [oblS]
      intro v55
      rintro w9 ⟨h9, t55⟩ T' hT'
      obtain ⟨g, e0, hg0⟩ := t55
      subst e0
      have ho9 : w9.ownsRow (w.heap.size + 1) 62 2 (.slice A4 (3 * q.an + 2 * k) c4) (3 * q.an + 2 * k) ((argsA q.atoms ++ argsT (q.tests.take k)).flatMap arEnc) := own_keepB HOw.out fun g hg => h9.block g (HOw.out.lt g hg).2
      have rw9 : Rows 2 (Rep.flat arEnc) w9 w9.heap.size (some ⟨g, 0, none⟩) 2 2 [a.a, a.b] := rows_of_heap (l := [a.a, a.b]) arEnc_len hg0 (by show 2 ≤ 2; decide) (by show 2 ≤ 9223372036854775807; decide) rfl
      obtain ⟨v', w', hrun, hown', hg', hat⟩ := run_append_rows (P := Tryz.prog) (ty := 130) (enc := arEnc) Tryz.underlying130 hi hz hs hbb rfl arEnc_len (by decide) arEnc_one ho9 rw9 (by omega) (by omega) (by have := h9.size; omega)
      have hb9 : Below w.heap.size w9 w' := (Below.refl _ _).grown hg' (by have := h9.size; omega) fun g e => by have := (ho9.lt g e).1; omega
      have hq9 : QBox q w.heap.size w' := ⟨(hg'.block _ (by have := h9.size; omega) (fun e => by have := (ho9.lt _ e.symm).1; omega)).trans (HQb.out.later h9).box⟩
      obtain ⟨A', c', e', _⟩ := own_rows arEnc_len (by decide) hown'
      exact relUpon_append (.tmp 42) (.tmp 55) 130 rfl rfl rfl hrun hb9 (hT' _ _ ⟨A', c', e', hown', hq9⟩)
    dsimp only [List.nil_append, List.cons_append]
    apply qs_any (mask := [true, false, false, false, false, false, false, false, false, false, false, false, false, false, true]) (S := (Below (w.heap.size) wr)) (m := (fun w => w.heap.size)) (T := fun v W => ∃ A c, v = .slice A (3 * q.an + 2 * k + 2) c ∧ W.ownsRow (w.heap.size + 1) 62 2 v (3 * q.an + 2 * k + 2) (((argsA q.atoms ++ argsT (q.tests.take k)) ++ [a.a, a.b]).flatMap arEnc) ∧ QBox q w.heap.size W) (hT := fun v w w' hb ⟨A, c, e, h, hq⟩ => ⟨A, c, e, own_keepB h fun g hg => hb.block g (h.lt g hg).2, hq.later hb⟩) (hf := by kernel_rfl) (hS := by rfl) (hm := by rfl) (hg := by kernel_rfl) (hk := by kernel_rfl)
    · dsimp only [oblS]
      intro v56
      rintro w9 ⟨h9, t56⟩ T' hT'
      go_simp
      exact ⟨Below.refl _ _, hT' _ _ t56⟩
    dsimp only [List.nil_append, List.cons_append]
    refine qs_end [false, false, false, false, false, false, false, false, false, false, false, false, false, true, false, false] (by kernel_rfl) (by kernel_rfl) ?_
    dsimp only [finQ]
    rintro v55 v56 v3 w8 ⟨⟨hb8, _⟩, A8, c8, rfl, ho8, hq8⟩
    have HO8 := hidp ho8
    have HQ8 := hidp hq8
    have HB8 := hidp (HBe.out.trans hb8)
    have hst := argsT_step HAk.out
    have HSt := hidp hst
    clear ho8 hq8 hb8 hst x0 x1 x2 x3 l0
    go_simp
    go_wp2_with fail
    go_roundw
    case rel => exact ⟨k + 1, by omega, by go_num, ⟨A8, c8, by rw [show 3 * q.an + 2 * k + 2 = 3 * q.an + 2 * (k + 1) by omega]⟩, by rw [show 3 * q.an + 2 * (k + 1) = 3 * q.an + 2 * k + 2 by omega, HSt.out, ← List.append_assoc]; exact HO8.out, HQ8.out, HB8.out⟩
    case measure => simp [intOf]; omega
  have hke : k = q.tn := by omega
  subst hke
  have hkk2 : ¬ ((q.tn : Int) < q.tn) := by omega
  go_wp2_with fail
  go_ret
  have h := HOw.out
  rw [List.take_of_length_le (by rw [← HLen.out.2]; exact Nat.le_refl _)] at h
  refine ⟨_, _, _, rfl, h, ?_, HBe.out⟩
  unfold argsJ
  rw [List.length_append, argsA_len, argsT_len, ← HLen.out.1, ← HLen.out.2]
end Go.Proofs.YtbegdcjofnfkiaaGreatDoor
