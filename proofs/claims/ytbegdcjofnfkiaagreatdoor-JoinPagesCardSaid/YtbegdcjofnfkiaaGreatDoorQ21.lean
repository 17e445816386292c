/- Several texts in one: A5 A6. -/
import Derived.Test.YtbegdcjofnfkiaaGreatDoorQ16
namespace Go.Proofs.YtbegdcjofnfkiaaGreatDoor
section
open Go.RowKit
structure GoodB (s : Ps) (r P R V N L : Nat) (w : World) : Prop where
 p : w.heap[P]? = some (.cells #[.slice s.pA s.pn s.pc, .slice s.rA s.rn s.rc] 45 (0, 0))
 r : w.heap[R]? = some (.cells #[.int .i64 r] 3 (0, 0))
 v : w.heap[V]? = some (.cells #[.func (.func 119) #[] #[.pointer (some ⟨P, 0, none⟩), .pointer (some ⟨R, 0, none⟩), .pointer (some ⟨V, 0, none⟩), .pointer (some ⟨N, 0, none⟩)]] 180 (0, 0))
 n : w.heap[N]? = some (.cells #[.func (.func 118) #[] #[.pointer (some ⟨L, 0, none⟩)]] 179 (0, 0))
 ne : P ≠ L ∧ R ≠ L ∧ V ≠ L ∧ N ≠ L
theorem GoodB.kept {s : Ps} {r P R V N L : Nat} {w w' : World} (h : GoodB s r P R V N L w) (hk : Kept (fun b => b = L) w w') : GoodB s r P R V N L w' :=
 ⟨(hk.block _ (lt_of_heap h.p) h.ne.1).trans h.p, (hk.block _ (lt_of_heap h.r) h.ne.2.1).trans h.r, (hk.block _ (lt_of_heap h.v) h.ne.2.2.1).trans h.v, (hk.block _ (lt_of_heap h.n) h.ne.2.2.2).trans h.n, h.ne⟩
structure VisB (s : Ps) (r P R V N L : Nat) (g : Pq) (G : Nat) (last : Option Fc) (w w8 : World) : Prop where
 kept : Kept (fun b => b = L) w w8
 good : GoodB s r P R V N L w8
 page : w8.heap[G]? = some (.cells #[.slice g.fA g.fn g.fc, .slice g.kA g.kn g.kc] 86 (0, 0))
 last : LastAt w8 L last
 ne : G ≠ L
theorem VisB.turned {s : Ps} {r P R V N L : Nat} {g : Pq} {G : Nat} {last last' : Option Fc} {w w8 w9 : World} (h : VisB s r P R V N L g G last w w8) (hk : Kept (fun b => b = L) w8 w9) (hl : LastAt w9 L last') : VisB s r P R V N L g G last' w w9 :=
 ⟨h.kept.trans hk, h.good.kept hk, (hk.block _ (lt_of_heap h.page) h.ne).trans h.page, hl, h.ne⟩
theorem kept_below {L : Nat} {w8 w9 : World} (hb : Below w8.heap.size w8 w9) : Kept (fun b => b = L) w8 w9 := (Kept.refl (fun b => b = L) w8).below hb fun b h1 h2 => by omega
theorem VisB.later {s : Ps} {r P R V N L : Nat} {g : Pq} {G : Nat} {last : Option Fc} {w w8 w9 : World} (h : VisB s r P R V N L g G last w w8) (hb : Below w8.heap.size w8 w9) : VisB s r P R V N L g G last w w9 :=
 h.turned (kept_below hb) (h.last.keep hb)
theorem VisB.cells {s : Ps} {r P R V N L : Nat} {g : Pq} {G : Nat} {last : Option Fc} {w w8 : World} (h : VisB s r P R V N L g G last w w8) :
  w8.cell? ⟨G, 0, none⟩ = some (.slice g.fA g.fn g.fc) ∧ w8.cell? ⟨G, 1, none⟩ = some (.slice g.kA g.kn g.kc) ∧ w8.cell? ⟨R, 0, none⟩ = some (.int .i64 r) ∧
  w8.cell? ⟨V, 0, none⟩ = some (.func (.func 119) #[] #[.pointer (some ⟨P, 0, none⟩), .pointer (some ⟨R, 0, none⟩), .pointer (some ⟨V, 0, none⟩), .pointer (some ⟨N, 0, none⟩)]) ∧
  w8.cell? ⟨N, 0, none⟩ = some (.func (.func 118) #[] #[.pointer (some ⟨L, 0, none⟩)]) ∧ G < w8.heap.size ∧ R < w8.heap.size ∧ V < w8.heap.size ∧ N < w8.heap.size :=
 ⟨by rw [cell_of_heap h.page]; rfl, by rw [cell_of_heap h.page]; rfl, by rw [cell_of_heap h.good.r]; rfl, by rw [cell_of_heap h.good.v]; rfl, by rw [cell_of_heap h.good.n]; rfl, lt_of_heap h.page, lt_of_heap h.good.r, lt_of_heap h.good.v, lt_of_heap h.good.n⟩
def VisitPost (L : Nat) (o : Option (List Fc × Nat)) (w : World) (e : Ending) (w' : World) : Prop :=
 Kept (fun b => b = L) w w' ∧ (o = none → e = .panicked [failV 470]) ∧ ∀ m d, o = some (m, d) → e = .returned (.int .i64 (d : Nat)) ∧ LastAt w' L m.getLast?
theorem visit_no {L : Nat} {o : Option (List Fc × Nat)} {w w' : World} (ho : o = none) (hk : Kept (fun b => b = L) w w') : VisitPost L o w (.panicked [failV 470]) w' :=
 ⟨hk, fun _ => rfl, fun m d h => by rw [ho] at h; cases h⟩
theorem visit_yes {L : Nat} {o : Option (List Fc × Nat)} {w w' : World} {m : List Fc} {d : Nat} (ho : o = some (m, d)) (hk : Kept (fun b => b = L) w w') (hl : LastAt w' L m.getLast?) : VisitPost L o w (.returned (.int .i64 (d : Nat))) w' :=
 ⟨hk, fun h => by (rw [ho] at h; cases h), fun m' d' h => by rw [ho] at h; cases h; exact ⟨rfl, hl⟩⟩
set_option maxRecDepth 100000 in
set_option maxHeartbeats 8000000 in
theorem good2_any (s : Ps) (r P R V N L n₀ : Nat) (hnL : n₀ ≤ L) (hr : r < 9223372036854775807) (hsm : ∀ g ∈ s.gs, g.fn ≤ 1000000 ∧ g.kn ≤ 1000000) : ∀ (k q : Nat), q < k → q ≤ r → ∀ (g : Pq), s.gs[q]? = some g → ∀ (l : List Fc) (w : World), GoodB s r P R V N L w → PsIn s w n₀ → n₀ ≤ w.heap.size → LastAt w L l.getLast? →
  Calls Tryz.prog 119 #[.int .i64 q, .pointer (some ⟨P, 0, none⟩), .pointer (some ⟨R, 0, none⟩), .pointer (some ⟨V, 0, none⟩), .pointer (some ⟨N, 0, none⟩)] w (VisitPost L (walkP (psV s) q (decide (q = r)) l) w) := by
 intro k
 induction k with
 | zero => intro q hq; omega
 | succ k ih =>
 intro q hqk hqr g hg l w hbox hps hnw hlast
 have HIH := hidp ih
 have HGg := hidp hg
 have HBx := hidp hbox
 have HPs := hidp hps
 have HL0 := hidp hlast
 have HNw := hidp hnw
 have HWk : Hid (walkP (psV s) q (decide (q = r)) l = if pgOk (decide (q = r)) (pgV g) = true then (loopW (kidW (psV s) q) (pgV g) l (g.facts.length + 1)).map fun t => (t.1, t.2 + 1) else none) := walkP_eq (psV_get hg) _ l
 have HPg := hidp (hps.each g (List.mem_of_getElem? hg))
 have hqn : q < s.pn := by rw [hps.pages.1]; exact (List.getElem?_eq_some_iff.1 hg).1
 have HQn := hidp hqn
 obtain ⟨bp, op, g', hpA, _, hg', c0, c1⟩ := pgSl.get hps.pages hqn
 obtain rfl : g = g' := Option.some.inj (hg.symm.trans hg')
 have hixp := fun W => ix_Pages (c := s.pc) hpA hqn W
 have hqn' : (q : Int) < s.pn := by omega
 have lc := lt_of_cell c0
 have p0 := cell_of_heap (o := 0) hbox.p
 have lp := lt_of_heap hbox.p
 simp only [List.getElem?_toArray, List.getElem?_cons_zero] at p0
 have HFn := hidp HPg.out.1.1
 have HKn := hidp HPg.out.2.1
 obtain ⟨hfs, hks⟩ := hsm g (List.mem_of_getElem? hg)
 have HSm := hidp hsm
 have hfc := HPg.out.1.2.1
 have hfcc := HPg.out.1.2.2.1
 have hkc := HPg.out.2.2.1
 have hkcc := HPg.out.2.2.2.1
 clear ih hbox hps hnw hlast hg hg' hpA hsm
 obtain ⟨W0, hW0⟩ : ∃ W0, w.alloc (.cells #[.slice g.fA g.fn g.fc, .slice g.kA g.kn g.kc] 86) = W0 := ⟨_, rfl⟩
 have HV0 : Hid (VisB s r P R V N L g w.heap.size l.getLast? w W0) := by
  have hb : Below w.heap.size w W0 := hW0 ▸ (Below.refl _ w).alloc (Nat.le_refl _) _
  exact ⟨kept_below hb, HBx.out.kept (kept_below hb), hW0 ▸ World.alloc_heap_new _ _, HL0.out.keep hb, fun e => by have := HL0.out.lt; omega⟩
 have HW0 := hidp hW0
 have HWP : Hid (∀ W, Kept (fun b => b = L) w W → PsIn s W n₀) := fun W hk => HPs.out.keep (Nat.le_refl _) fun b hb => hk.block b (by have := HNw.out; omega) (by show ¬ b = L; omega)
 go_enter Tryz.func119, Tryz.ntmps119
 go_wp2_with fail
 try rw [HW0.out]
 clear p0 lp c0 c1 lc hW0 hixp
 obtain ⟨g0, g1, r0, v0, n0, lg, lr, lv, ln⟩ := HV0.out.cells
 obtain ⟨lf, hlf⟩ : ∃ b, ((g.kn : Int) == 0) = b := ⟨_, rfl⟩
 have HLf := hidp hlf
 refine wp_region_S W0.heap.size 9 (fun _ => false) (Nat.le_refl _) (by kernel_rfl) (by kernel_rfl) (by kernel_rfl) ?_
 dsimp only [List.take, List.drop]
 apply relS_det (mask := [])
 ·rfl
 ·kernel_rfl
 ·kernel_rfl
 ·dsimp only [oblS]
  rintro w9 h9
  go_simp
  exact ⟨Below.refl _ _, rfl⟩
 dsimp only [naL, caL]
 apply relS_det (mask := [true]) (x := .slice g.fA g.fn g.fc)
 ·rfl
 ·kernel_rfl
 ·kernel_rfl
 ·dsimp only [oblS]
  rintro w9 h9
  have hc9 := (bcell h9).1
  go_simp
  exact ⟨Below.refl _ _, rfl⟩
 dsimp only [naL, caL]
 apply relS_det (mask := [false, true]) (x := .int .i64 g.fn)
 ·rfl
 ·kernel_rfl
 ·kernel_rfl
 ·dsimp only [oblS]
  rintro w9 h9
  go_simp
  exact ⟨Below.refl _ _, rfl⟩
 dsimp only [naL, caL]
 apply relS_det (mask := [false, false, false])
 ·rfl
 ·kernel_rfl
 ·kernel_rfl
 ·dsimp only [oblS]
  rintro w9 h9
  go_simp
  exact ⟨Below.refl _ _, rfl⟩
 dsimp only [naL, caL]
 apply relS_det (mask := [false, false, false, true]) (x := .slice g.kA g.kn g.kc)
 ·rfl
 ·kernel_rfl
 ·kernel_rfl
 ·dsimp only [oblS]
  rintro w9 h9
  have hc9 := (bcell h9).1
  go_simp
  exact ⟨Below.refl _ _, rfl⟩
 dsimp only [naL, caL]
 apply relS_det (mask := [false, false, false, false, true]) (x := .int .i64 g.kn)
 ·rfl
 ·kernel_rfl
 ·kernel_rfl
 ·dsimp only [oblS]
  rintro w9 h9
  go_simp
  exact ⟨Below.refl _ _, rfl⟩
 dsimp only [naL, caL]
 apply relS_det (mask := [false, false, false, false, false, true]) (x := .bool lf)
 ·rfl
 ·kernel_rfl
 ·kernel_rfl
 ·dsimp only [oblS]
  rintro w9 h9
  go_simp
  exact ⟨Below.refl _ _, rfl⟩
 dsimp only [naL, caL]
 apply relS_det (mask := [false, false, true, false, false, false, false]) (x := .int .i64 g.fn)
 ·rfl
 ·kernel_rfl
 ·kernel_rfl
 ·dsimp only [oblS]
  rintro w9 h9
  go_simp
  exact ⟨Below.refl _ _, rfl⟩
 dsimp only [naL, caL]
 apply relS_det (mask := [false, false, false, false, false, false, true, false]) (x := .bool lf)
 ·rfl
 ·kernel_rfl
 ·kernel_rfl
 ·dsimp only [oblS]
  rintro w9 h9
  go_simp
  exact ⟨Below.refl _ _, rfl⟩
 dsimp only [naL, caL]
 refine relS_end (by rfl) ?_
 dsimp only [finS]
 rintro w2 hb2
 have HV2 := hidp (HV0.out.later hb2)
 clear g0 g1 r0 v0 n0 lg lr lv ln hb2
 obtain ⟨g0, g1, r0, v0, n0, lg, lr, lv, ln⟩ := HV2.out.cells
 obtain ⟨b1, hb1⟩ : ∃ b, decide ((g.fn : Int) ≤ 4) = b := ⟨_, rfl⟩
 obtain ⟨b2, hb2⟩ : ∃ b, ((q : Int) == (r : Int)) = b := ⟨_, rfl⟩
 obtain ⟨b3, hb3⟩ : ∃ b, decide ((g.fn : Int) ≥ 2) = b := ⟨_, rfl⟩
 obtain ⟨b4, hb4⟩ : ∃ b, ((g.kn : Int) == (g.fn : Int) + 1) = b := ⟨_, rfl⟩
 obtain ⟨b5, hb5⟩ : ∃ b, decide ((g.fn : Int) ≥ 1) = b := ⟨_, rfl⟩
 obtain ⟨c1, hc1⟩ : ∃ b, (b1 && (b2 || b3)) = b := ⟨_, rfl⟩
 obtain ⟨pk, hpk⟩ : ∃ b, (c1 && (lf || (b4 && b5))) = b := ⟨_, rfl⟩
 have HC1 := hidp hc1
 have HPk := hidp hpk
 have hw1 : IntKind.i64.wrap ((g.fn : Int) + 1) = (g.fn : Int) + 1 := IntWalk.i64_in _ (by omega)
 have HOk : Hid (pgOk (decide (q = r)) (pgV g) = pk) := by
  show _ = _
  rw [← hpk, ← hc1, ← hb1, ← hb2, ← hb3, ← hb4, ← hb5, ← hlf]
  have h1 := HFn.out
  have h2 := HKn.out
  unfold pgOk pgV
  dsimp only
  rw [← h1, ← h2, Bool.eq_iff_iff]
  simp only [Bool.and_eq_true, Bool.or_eq_true, decide_eq_true_eq, beq_iff_eq]
  omega
 clear hc1 hpk
 go_simp
 go_step
 go_step
 go_step
 go_step
 refine wp_region_SF w2.heap.size 26 (fun _ => false) (Nat.le_refl _) (by kernel_rfl) (by kernel_rfl) (by kernel_rfl) ?_
 dsimp only [List.take, List.drop]
 apply relS_det (mask := []) (x := .int .i64 g.fn)
 ·rfl
 ·kernel_rfl
 ·kernel_rfl
 ·dsimp only [oblS]
  rintro w9 h9
  go_simp
  exact ⟨Below.refl _ _, rfl⟩
 dsimp only [naL, caL]
 apply relS_det (mask := [true]) (x := .bool b1)
 ·rfl
 ·kernel_rfl
 ·kernel_rfl
 ·dsimp only [oblS]
  rintro w9 h9
  go_simp
  exact ⟨Below.refl _ _, rfl⟩
 dsimp only [naL, caL]
 apply relS_det (mask := [false, true]) (x := .bool b1)
 ·rfl
 ·kernel_rfl
 ·kernel_rfl
 ·dsimp only [oblS]
  rintro w9 h9
  go_simp
  exact ⟨Below.refl _ _, rfl⟩
 dsimp only [naL, caL]
 apply relS_if (mask := [false, false, true]) (t := 26) (want := true) (g := b1)
 ·rfl
 ·kernel_rfl
 ·kernel_rfl
 ·dsimp only [oblS]
  refine ⟨⟨.bool b1, by rfl, (guard_free (by simp)).1, (guard_free (by simp)).2⟩, ?_⟩
  intro hg
  rintro w9 h9
  go_simp
  exact ⟨Below.refl _ _, rfl⟩
 dsimp only [naL, caL]
 apply relS_if (mask := [false, false, true, false]) (t := 26) (want := true) (g := b1) (x := .int .i64 r)
 ·rfl
 ·kernel_rfl
 ·kernel_rfl
 ·dsimp only [oblS]
  refine ⟨⟨.bool b1, by rfl, (guard_free (by simp)).1, (guard_free (by simp)).2⟩, ?_⟩
  intro hg
  rintro w9 h9
  have hc9 := (bcell h9).1
  go_simp
  exact ⟨Below.refl _ _, rfl⟩
 dsimp only [naL, caL]
 apply relS_if (mask := [false, false, true, true, true]) (t := 26) (want := true) (g := b1) (x := .bool b2)
 ·rfl
 ·kernel_rfl
 ·kernel_rfl
 ·dsimp only [oblS]
  refine ⟨⟨.bool b1, by rfl, (guard_free (by simp)).1, (guard_free (by simp)).2⟩, ?_⟩
  intro hg
  rintro w9 h9
  go_simp
  exact ⟨Below.refl _ _, rfl⟩
 dsimp only [naL, caL]
 apply relS_if (mask := [false, false, true, false, false, true]) (t := 26) (want := true) (g := b1) (x := .bool b2)
 ·rfl
 ·kernel_rfl
 ·kernel_rfl
 ·dsimp only [oblS]
  refine ⟨⟨.bool b1, by rfl, (guard_free (by simp)).1, (guard_free (by simp)).2⟩, ?_⟩
  intro hg
  rintro w9 h9
  go_simp
  exact ⟨Below.refl _ _, rfl⟩
 dsimp only [naL, caL]
 apply relS_if (mask := [false, false, false, false, false, false, true]) (t := 30) (want := false) (g := (b1 && !b2)) (x := .int .i64 g.fn)
 ·rfl
 ·kernel_rfl
 ·kernel_rfl
 ·dsimp only [oblS]
  refine ⟨⟨if b1 = true then .bool b2 else undef, by rfl, (guard_in (by simp)).1, (guard_in (by simp)).2⟩, ?_⟩
  intro hg
  rintro w9 h9
  go_simp
  exact ⟨Below.refl _ _, rfl⟩
 dsimp only [naL, caL]
 apply relS_if (mask := [false, false, false, false, false, false, true, true]) (t := 30) (want := false) (g := (b1 && !b2)) (x := .bool b3)
 ·rfl
 ·kernel_rfl
 ·kernel_rfl
 ·dsimp only [oblS]
  refine ⟨⟨if b1 = true then .bool b2 else undef, by rfl, (guard_in (by simp)).1, (guard_in (by simp)).2⟩, ?_⟩
  intro hg
  rintro w9 h9
  go_simp
  exact ⟨Below.refl _ _, rfl⟩
 dsimp only [naL, caL]
 apply relS_if (mask := [false, false, true, false, false, false, true, false, true]) (t := 26) (want := true) (g := b1) (x := .bool (b2 || b3))
 ·rfl
 ·kernel_rfl
 ·kernel_rfl
 ·dsimp only [oblS]
  refine ⟨⟨.bool b1, by rfl, (guard_free (by simp)).1, (guard_free (by simp)).2⟩, ?_⟩
  intro hg
  rintro w9 h9
  cases b1 <;> cases b2
  all_goals (first | exact absurd hg Bool.false_ne_true | (go_simp; exact ⟨Below.refl _ _, by simp [IsV]⟩))
 dsimp only [naL, caL]
 apply relS_det (mask := [false, false, true, false, false, false, false, false, false, true]) (x := .bool c1)
 ·rfl
 ·kernel_rfl
 ·kernel_rfl
 ·dsimp only [oblS]
  rintro w9 h9
  rw [← HC1.out]
  cases b1 <;> cases b2 <;> cases b3
  all_goals (first | exact absurd hg Bool.false_ne_true | (go_simp; exact ⟨Below.refl _ _, by simp [IsV]⟩))
 dsimp only [naL, caL]
 apply relS_det (mask := [false, false, false, false, false, false, false, false, false, false, true]) (x := .bool c1)
 ·rfl
 ·kernel_rfl
 ·kernel_rfl
 ·dsimp only [oblS]
  rintro w9 h9
  go_simp
  exact ⟨Below.refl _ _, rfl⟩
 dsimp only [naL, caL]
 apply relS_if (mask := [false, false, false, false, false, false, false, false, false, false, false, true]) (t := 35) (want := true) (g := c1) (x := .bool lf)
 ·rfl
 ·kernel_rfl
 ·kernel_rfl
 ·dsimp only [oblS]
  refine ⟨⟨.bool c1, by rfl, (guard_free (by simp)).1, (guard_free (by simp)).2⟩, ?_⟩
  intro hg
  rintro w9 h9
  go_simp
  exact ⟨Below.refl _ _, rfl⟩
 dsimp only [naL, caL]
 apply relS_if (mask := [false, false, false, false, false, false, false, false, false, false, false, true, true]) (t := 35) (want := true) (g := c1) (x := .bool lf)
 ·rfl
 ·kernel_rfl
 ·kernel_rfl
 ·dsimp only [oblS]
  refine ⟨⟨.bool c1, by rfl, (guard_free (by simp)).1, (guard_free (by simp)).2⟩, ?_⟩
  intro hg
  rintro w9 h9
  go_simp
  exact ⟨Below.refl _ _, rfl⟩
 dsimp only [naL, caL]
 apply relS_if (mask := [false, false, false, false, false, false, false, false, false, false, false, false, false, true]) (t := 37) (want := false) (g := (c1 && !lf))
 ·rfl
 ·kernel_rfl
 ·kernel_rfl
 ·dsimp only [oblS]
  refine ⟨⟨if c1 = true then .bool lf else undef, by rfl, (guard_in (by simp)).1, (guard_in (by simp)).2⟩, ?_⟩
  intro hg
  rintro w9 h9
  go_simp
  exact ⟨Below.refl _ _, rfl⟩
 dsimp only [naL, caL]
 apply relS_if (mask := [false, false, false, false, false, false, false, false, false, false, false, false, false, true, true]) (t := 37) (want := false) (g := (c1 && !lf)) (x := .slice g.kA g.kn g.kc)
 ·rfl
 ·kernel_rfl
 ·kernel_rfl
 ·dsimp only [oblS]
  refine ⟨⟨if c1 = true then .bool lf else undef, by rfl, (guard_in (by simp)).1, (guard_in (by simp)).2⟩, ?_⟩
  intro hg
  rintro w9 h9
  have hc9 := (bcell h9).1
  go_simp
  exact ⟨Below.refl _ _, rfl⟩
 dsimp only [naL, caL]
 apply relS_if (mask := [false, false, false, false, false, false, false, false, false, false, false, false, false, true, false, true]) (t := 37) (want := false) (g := (c1 && !lf)) (x := .int .i64 g.kn)
 ·rfl
 ·kernel_rfl
 ·kernel_rfl
 ·dsimp only [oblS]
  refine ⟨⟨if c1 = true then .bool lf else undef, by rfl, (guard_in (by simp)).1, (guard_in (by simp)).2⟩, ?_⟩
  intro hg
  rintro w9 h9
  go_simp
  exact ⟨Below.refl _ _, rfl⟩
 dsimp only [naL, caL]
 apply relS_if (mask := [false, false, false, false, false, false, false, false, false, false, false, false, false, true, false, false, false]) (t := 37) (want := false) (g := (c1 && !lf)) (x := .int .i64 g.fn)
 ·rfl
 ·kernel_rfl
 ·kernel_rfl
 ·dsimp only [oblS]
  refine ⟨⟨if c1 = true then .bool lf else undef, by rfl, (guard_in (by simp)).1, (guard_in (by simp)).2⟩, ?_⟩
  intro hg
  rintro w9 h9
  go_simp
  exact ⟨Below.refl _ _, rfl⟩
 dsimp only [naL, caL]
 apply relS_if (mask := [false, false, false, false, false, false, false, false, false, false, false, false, false, true, false, false, false, true]) (t := 37) (want := false) (g := (c1 && !lf)) (x := .int .i64 ((g.fn : Int) + 1))
 ·rfl
 ·kernel_rfl
 ·kernel_rfl
 ·dsimp only [oblS]
  refine ⟨⟨if c1 = true then .bool lf else undef, by rfl, (guard_in (by simp)).1, (guard_in (by simp)).2⟩, ?_⟩
  intro hg
  rintro w9 h9
  go_simp
  exact ⟨Below.refl _ _, rfl⟩
 dsimp only [naL, caL]
 apply relS_if (mask := [false, false, false, false, false, false, false, false, false, false, false, false, false, true, false, false, true, false, true]) (t := 37) (want := false) (g := (c1 && !lf)) (x := .bool b4)
 ·rfl
 ·kernel_rfl
 ·kernel_rfl
 ·dsimp only [oblS]
  refine ⟨⟨if c1 = true then .bool lf else undef, by rfl, (guard_in (by simp)).1, (guard_in (by simp)).2⟩, ?_⟩
  intro hg
  rintro w9 h9
  go_simp
  exact ⟨Below.refl _ _, rfl⟩
 dsimp only [naL, caL]
 apply relS_if (mask := [false, false, false, false, false, false, false, false, false, false, false, false, false, true, false, false, false, false, false, true]) (t := 37) (want := false) (g := (c1 && !lf)) (x := .bool b4)
 ·rfl
 ·kernel_rfl
 ·kernel_rfl
 ·dsimp only [oblS]
  refine ⟨⟨if c1 = true then .bool lf else undef, by rfl, (guard_in (by simp)).1, (guard_in (by simp)).2⟩, ?_⟩
  intro hg
  rintro w9 h9
  go_simp
  exact ⟨Below.refl _ _, rfl⟩
 dsimp only [naL, caL]
 apply relS_if (mask := [false, false, false, false, false, false, false, false, false, false, false, false, false, false, false, false, false, false, false, false, true]) (t := 44) (want := true) (g := (c1 && !lf && b4)) (x := .int .i64 g.fn)
 ·rfl
 ·kernel_rfl
 ·kernel_rfl
 ·dsimp only [oblS]
  refine ⟨⟨if (c1 && !lf) = true then .bool b4 else undef, by rfl, (guard_in (by simp)).1, (guard_in (by simp)).2⟩, ?_⟩
  intro hg
  rintro w9 h9
  go_simp
  exact ⟨Below.refl _ _, rfl⟩
 dsimp only [naL, caL]
 apply relS_if (mask := [false, false, false, false, false, false, false, false, false, false, false, false, false, false, false, false, false, false, false, false, true, true]) (t := 44) (want := true) (g := (c1 && !lf && b4)) (x := .bool b5)
 ·rfl
 ·kernel_rfl
 ·kernel_rfl
 ·dsimp only [oblS]
  refine ⟨⟨if (c1 && !lf) = true then .bool b4 else undef, by rfl, (guard_in (by simp)).1, (guard_in (by simp)).2⟩, ?_⟩
  intro hg
  rintro w9 h9
  go_simp
  exact ⟨Below.refl _ _, rfl⟩
 dsimp only [naL, caL]
 apply relS_if (mask := [false, false, false, false, false, false, false, false, false, false, false, false, false, true, false, false, false, false, false, false, true, false, true]) (t := 37) (want := false) (g := (c1 && !lf)) (x := .bool (b4 && b5))
 ·rfl
 ·kernel_rfl
 ·kernel_rfl
 ·dsimp only [oblS]
  refine ⟨⟨if c1 = true then .bool lf else undef, by rfl, (guard_in (by simp)).1, (guard_in (by simp)).2⟩, ?_⟩
  intro hg
  rintro w9 h9
  cases c1 <;> cases lf <;> cases b4
  all_goals (first | exact absurd hg Bool.false_ne_true | (go_simp; exact ⟨Below.refl _ _, by simp [IsV]⟩))
 dsimp only [naL, caL]
 apply relS_if (mask := [false, false, false, false, false, false, false, false, false, false, false, true, false, true, false, false, false, false, false, false, false, false, false, true]) (t := 35) (want := true) (g := c1) (x := .bool (lf || (b4 && b5)))
 ·rfl
 ·kernel_rfl
 ·kernel_rfl
 ·dsimp only [oblS]
  refine ⟨⟨.bool c1, by rfl, (guard_free (by simp)).1, (guard_free (by simp)).2⟩, ?_⟩
  intro hg
  rintro w9 h9
  cases c1 <;> cases lf
  all_goals (first | exact absurd hg Bool.false_ne_true | (go_simp; exact ⟨Below.refl _ _, by simp [IsV]⟩))
 dsimp only [naL, caL]
 apply relS_det (mask := [false, false, false, false, false, false, false, false, false, false, false, true, false, false, false, false, false, false, false, false, false, false, false, false, true]) (x := .bool pk)
 ·rfl
 ·kernel_rfl
 ·kernel_rfl
 ·dsimp only [oblS]
  rintro w9 h9
  rw [← HPk.out]
  cases c1 <;> cases lf <;> cases b4 <;> cases b5
  all_goals (first | exact absurd hg Bool.false_ne_true | (go_simp; exact ⟨Below.refl _ _, by simp [IsV]⟩))
 dsimp only [naL, caL]
 refine relS_endK [false, false, false, false, false, false, false, false, false, false, false, false, false, false, false, false, false, false, false, false, false, false, false, false, false, true] (by rfl) (by rfl) ?_
 dsimp only [finK]
 intro q0 q1 q2 q3 q4 q5 q6 q7 q8 q9 q10 q11 q12 q13 q14 q15 q16 q17 q18 q19 q20 q21 q22 q23 q24
 rintro w3 hb3'
 have HV3 := hidp (HV2.out.later hb3')
 clear g0 g1 r0 v0 n0 lg lr lv ln hb3' hb1 hb2 hb3 hb4 hb5 hw1
 obtain ⟨g0, g1, r0, v0, n0, lg, lr, lv, ln⟩ := HV3.out.cells
 go_simp
 go_wp2_with fail
 refine (demand_any pk 470 _).mono ?_
 rintro e w4 ⟨rfl, rfl⟩
 cases pk
 ·have HN : Hid (walkP (psV s) q (decide (q = r)) l = none) := by show _ = _; rw [HWk.out, HOk.out]; rfl
  exact ⟨rfl, visit_no HN.out HV3.out.kept⟩
 simp only [demandE, if_true]
 have HW1 : Hid (walkP (psV s) q (decide (q = r)) l = (loopW (kidW (psV s) q) (pgV g) l (g.facts.length + 1)).map fun t => (t.1, t.2 + 1)) := by show _ = _; rw [HWk.out, HOk.out]; rfl
 have HNone : Hid (∀ j, j ≤ g.fn → loopW (kidW (psV s) q) (pgV g) l (j + 1) = none → walkP (psV s) q (decide (q = r)) l = none) := fun j hj h => by
  rw [HW1.out, loopW_none h (g.facts.length + 1) (by have := HFn.out; omega)]; rfl
 have hfn4 : g.fn ≤ 4 := by
  have h := HOk.out
  unfold pgOk pgV at h
  simp only [Bool.and_eq_true, decide_eq_true_eq] at h
  have := HFn.out
  omega
 have hw1 : IntKind.i64.wrap ((g.fn : Int) + 1) = (g.fn : Int) + 1 := IntWalk.i64_in _ (by omega)
 have HKl : Hid (lf = false → g.kn = g.fn + 1) := fun hf => by
  have h := HOk.out
  unfold pgOk pgV at h
  simp only [Bool.and_eq_true, Bool.or_eq_true, decide_eq_true_eq] at h
  have h1 := HFn.out
  have h2 := HKn.out
  have h3 := HLf.out
  rw [hf] at h3
  simp at h3
  omega
 have HKz : Hid (lf = true → g.kids.length = 0) := fun hf => by
  have h2 := HKn.out
  have h3 := HLf.out
  rw [hf] at h3
  simp at h3
  omega
 clear hlf g0 g1 r0 v0 n0 lg lr lv ln HC1 HPk
 cases lf
 ·skip
  go_wp2_with fail
  go_loopw [6, 53] (fun lvv i wr => ∃ (j : Nat) (m : List Fc) (lv : Nat), j ≤ g.fn + 1 ∧ i = .int .i64 j ∧ lvv = .int .i64 (lv : Nat) ∧ loopW (kidW (psV s) q) (pgV g) l j = some (m, lv) ∧ VisB s r P R V N L g w.heap.size m.getLast? w wr) (fun _ i _ => g.fn + 1 - (intOf i).toNat)
  case atStart => exact ⟨0, l, 0, by omega, rfl, rfl, loopW_zero _ _ _, HV3.out⟩
  case round =>
  obtain ⟨j, m, lev, hj, rfl, rfl, hlp, hvb⟩ := hrel
  have HLp := hidp hlp
  have HVr := hidp hvb
  obtain ⟨g0, g1, r0, v0, n0, lg, lr, lv, ln⟩ := hvb.cells
  clear hlp hvb
  by_cases hjn : j < g.fn + 1
  ·have hjn' : (j : Int) < (g.fn : Int) + 1 := by omega
   have hjk : j < g.kn := by have := HKl.out (by simp); omega
   obtain ⟨bk, ok, kid, hkA, _, hkid, k0⟩ := iSl.get ((HWP.out wr HVr.out.kept).each g (List.mem_of_getElem? HGg.out)).2 hjk
   have hixk := fun W => ix_intsP (c := g.kc) hkA hjk W
   have lk0 := lt_of_cell k0
   have HKid : Hid ((pgV g).kids[j]? = some kid) := hkid
   obtain ⟨z0, hz0⟩ : ∃ b, decide (0 ≤ kid) = b := ⟨_, rfl⟩
   obtain ⟨z1, hz1⟩ : ∃ b, decide (kid < q) = b := ⟨_, rfl⟩
   have HZ0 := hidp hz0
   have HZ1 := hidp hz1
   clear hkid hkA
   cases z0
   ·go_wp2_with fail
    refine (demand_any false 470 _).mono ?_
    rintro e w4 ⟨rfl, rfl⟩
    exact ⟨rfl, visit_no (HNone.out j (by omega) (step_kid_no HKid.out HLp.out (by unfold kidW; rw [if_neg (fun h => by have := of_decide_eq_false HZ0.out; omega)]))) HVr.out.kept⟩
   cases z1
   ·go_wp2_with fail
    refine (demand_any false 470 _).mono ?_
    rintro e w4 ⟨rfl, rfl⟩
    exact ⟨rfl, visit_no (HNone.out j (by omega) (step_kid_no HKid.out HLp.out (by unfold kidW; rw [if_neg (fun h => by have := of_decide_eq_false HZ1.out; omega)]))) HVr.out.kept⟩
   have hkq : 0 ≤ kid ∧ kid < q := ⟨of_decide_eq_true HZ0.out, of_decide_eq_true HZ1.out⟩
   obtain ⟨kn, rfl⟩ : ∃ n : Nat, kid = n := ⟨kid.toNat, by omega⟩
   have hkq' : kn < q := by omega
   have HSubE : Hid (kidW (psV s) q kn m = walkP (psV s) kn (decide (kn = r)) m) := by
    show _ = _
    unfold kidW
    rw [if_pos (by omega), decide_eq_false (p := kn = r) (by omega)]; rfl
   go_wp2_with fail
   refine (demand_any true 470 _).mono ?_
   rintro e w4 ⟨rfl, rfl⟩
   simp only [demandE, if_true]
   clear hz0 hz1 hkq
   go_wp2_with fail
   refine wp_region_S wr.heap.size 6 (fun _ => false) (Nat.le_refl _) (by kernel_rfl) (by kernel_rfl) (by kernel_rfl) ?_
   dsimp only [List.take, List.drop]
   apply relS_det (mask := []) (x := .func (.func 119) #[] #[.pointer (some ⟨P, 0, none⟩), .pointer (some ⟨R, 0, none⟩), .pointer (some ⟨V, 0, none⟩), .pointer (some ⟨N, 0, none⟩)])
   ·rfl
   ·kernel_rfl
   ·kernel_rfl
   ·dsimp only [oblS]
    rintro w9 h9
    have hc9 := (bcell h9).1
    go_simp
    exact ⟨Below.refl _ _, rfl⟩
   dsimp only [naL, caL]
   apply relS_det (mask := [false])
   ·rfl
   ·kernel_rfl
   ·kernel_rfl
   ·dsimp only [oblS]
    rintro w9 h9
    go_simp
    exact ⟨Below.refl _ _, rfl⟩
   dsimp only [naL, caL]
   apply relS_det (mask := [false, true]) (x := .slice g.kA g.kn g.kc)
   ·rfl
   ·kernel_rfl
   ·kernel_rfl
   ·dsimp only [oblS]
    rintro w9 h9
    have hc9 := (bcell h9).1
    go_simp
    exact ⟨Below.refl _ _, rfl⟩
   dsimp only [naL, caL]
   apply relS_det (mask := [false, false, false])
   ·rfl
   ·kernel_rfl
   ·kernel_rfl
   ·dsimp only [oblS]
    rintro w9 h9
    go_simp
    exact ⟨Below.refl _ _, rfl⟩
   dsimp only [naL, caL]
   apply relS_det (mask := [false, false, true, true]) (x := .pointer (some ⟨bk, ok + j, none⟩))
   ·rfl
   ·kernel_rfl
   ·kernel_rfl
   ·dsimp only [oblS]
    rintro w9 h9
    go_simp
    exact ⟨Below.refl _ _, rfl⟩
   dsimp only [naL, caL]
   apply relS_det (mask := [false, false, false, false, true]) (x := .int .i64 (kn : Nat))
   ·rfl
   ·kernel_rfl
   ·kernel_rfl
   ·dsimp only [oblS]
    rintro w9 h9
    have hc9 := (bcell h9).1
    go_simp
    exact ⟨Below.refl _ _, rfl⟩
   dsimp only [naL, caL]
   refine relS_end (by rfl) ?_
   dsimp only [finS]
   rintro w5 hb5
   have HV5 := hidp (HVr.out.later hb5)
   obtain ⟨gk, hgk⟩ : ∃ gk, s.gs[kn]? = some gk := ⟨_, List.getElem?_eq_getElem (by have := HPs.out.pages.1; have := HQn.out; omega)⟩
   have HGk := hidp hgk
   clear g0 g1 r0 v0 n0 lg lr lv ln k0 lk0 hixk hb5 hgk
   go_simp
   go_wp2_with fail
   refine (HIH.out kn (by omega) (by omega) gk HGk.out m w5 HV5.out.good (HWP.out _ HV5.out.kept) (by have := HNw.out; have := HV5.out.kept.size; omega) HV5.out.last).mono ?_
   rintro e w6 ⟨hk6, hno, hyes⟩
   have HK6 := hidp hk6
   rcases hsub : walkP (psV s) kn (decide (kn = r)) m with _ | ⟨m', d⟩
   ·obtain rfl := hno hsub
    exact ⟨rfl, visit_no (HNone.out j (by omega) (step_kid_no HKid.out HLp.out (HSubE.out.trans hsub))) (HV5.out.kept.trans HK6.out)⟩
   obtain ⟨rfl, hl6⟩ := hyes m' d hsub
   have HSub : Hid (kidW (psV s) q kn m = some (m', d)) := HSubE.out.trans hsub
   have HV6 := hidp (HV5.out.turned HK6.out hl6)
   have hdq : d ≤ q := by have := walkP_lv (psV s) (kn + 1) kn _ m m' d (by omega) hsub; omega
   clear hk6 hno hyes hsub hl6
   obtain ⟨g0, g1, r0, v0, n0, lg, lr, lv, ln⟩ := HV6.out.cells
   by_cases hdd : j = 0 ∨ d = lev
   rotate_left
   ·have hi0 : ((j : Int) == 0) = false := by simp; omega
    have hd0 : ((d : Int) == (lev : Int)) = false := by simp; omega
    have HDd := hidp hdd
    clear hdd
    go_wp2_with fail
    refine (demand_any false 470 _).mono ?_
    rintro e w4 ⟨rfl, rfl⟩
    exact ⟨rfl, visit_no (HNone.out j (by omega) (step_kid_lv HKid.out HLp.out HSub.out HDd.out)) HV6.out.kept⟩
   have HDd := hidp hdd
   have h01 : ((j : Int) == 0) = true ∨ (((j : Int) == 0) = false ∧ ((d : Int) == (lev : Int)) = true) := by
    rcases Nat.eq_zero_or_pos j with h | h
    ·exact .inl (by simp [h])
    ·exact .inr ⟨by simp; omega, by rcases hdd with h' | h' <;> simp <;> omega⟩
   clear hdd
   rcases h01 with hi0 | ⟨hi0, hd0⟩
   ·go_wp2_with fail
    refine (demand_any true 470 _).mono ?_
    rintro e w4 ⟨rfl, rfl⟩
    simp only [demandE, if_true]
    clear hi0
    by_cases hjf : j < g.fn
    ·have hjf' : (j : Int) < g.fn := by omega
     obtain ⟨bf, of, f, hfA, _, hf, f0, f1, f2, f3, f4, f5, f6, f7⟩ := fSl.get ((HWP.out w6 HV6.out.kept).each g (List.mem_of_getElem? HGg.out)).1 hjf
     have hixf := fun W => ix_FactsP (c := g.fc) hfA hjf W
     have lf0 := lt_of_cell f0
     have HF := hidp hf
     clear hf hfA
     go_wp2_with fail
     refine wp_region_S w6.heap.size 6 (fun _ => false) (Nat.le_refl _) (by kernel_rfl) (by kernel_rfl) (by kernel_rfl) ?_
     dsimp only [List.take, List.drop]
     apply relS_det (mask := []) (x := .func (.func 118) #[] #[.pointer (some ⟨L, 0, none⟩)])
     ·rfl
     ·kernel_rfl
     ·kernel_rfl
     ·dsimp only [oblS]
      rintro w9 h9
      have hc9 := (bcell h9).1
      go_simp
      exact ⟨Below.refl _ _, rfl⟩
     dsimp only [naL, caL]
     apply relS_det (mask := [false])
     ·rfl
     ·kernel_rfl
     ·kernel_rfl
     ·dsimp only [oblS]
      rintro w9 h9
      go_simp
      exact ⟨Below.refl _ _, rfl⟩
     dsimp only [naL, caL]
     apply relS_det (mask := [false, true]) (x := .slice g.fA g.fn g.fc)
     ·rfl
     ·kernel_rfl
     ·kernel_rfl
     ·dsimp only [oblS]
      rintro w9 h9
      have hc9 := (bcell h9).1
      go_simp
      exact ⟨Below.refl _ _, rfl⟩
     dsimp only [naL, caL]
     apply relS_det (mask := [false, false, false])
     ·rfl
     ·kernel_rfl
     ·kernel_rfl
     ·dsimp only [oblS]
      rintro w9 h9
      go_simp
      exact ⟨Below.refl _ _, rfl⟩
     dsimp only [naL, caL]
     apply relS_det (mask := [false, false, true, true]) (x := .pointer (some ⟨bf, of + j * 8, none⟩))
     ·rfl
     ·kernel_rfl
     ·kernel_rfl
     ·dsimp only [oblS]
      rintro w9 h9
      go_simp
      exact ⟨Below.refl _ _, rfl⟩
     dsimp only [naL, caL]
     apply relS_det (mask := [false, false, false, false, true]) (x := .agg #[.int .i64 f.key.kind, .int .i64 f.key.subj, .int .i64 f.key.obj, .int .i64 f.val, .int .i64 f.fr, .int .i64 f.to, .int .i64 f.known, .int .i64 f.no])
     ·rfl
     ·kernel_rfl
     ·kernel_rfl
     ·dsimp only [oblS]
      rintro w9 h9
      have hc9 := (bcell h9).1
      go_simp
      exact ⟨Below.refl _ _, rfl⟩
     dsimp only [naL, caL]
     refine relS_end (by rfl) ?_
     dsimp only [finS]
     rintro wy hby
     have HVy := hidp (HV6.out.later hby)
     clear g0 g1 r0 v0 n0 lg lr lv ln f0 f1 f2 f3 f4 f5 f6 f7 lf0 hixf hby
     go_simp
     go_wp2_with fail
     refine (good1_any L m'.getLast? f wy HVy.out.last).mono ?_
     rintro e wz ⟨rfl, hl9, hk9⟩
     obtain ⟨ok, hok⟩ : ∃ b, nextOk m'.getLast? f = b := ⟨_, rfl⟩
     have HStep := step_kid_fact HKid.out HLp.out HSub.out HDd.out HF.out
     rw [hok] at hl9 HStep
     rw [hok]
     have HK9 := hidp hk9
     have HSt := hidp HStep
     have HL9 := hidp hl9
     clear HStep hok hk9 hl9
     cases ok
     ·exact ⟨rfl, visit_no (HNone.out j (by omega) (by rw [HSt.out]; rfl)) (HVy.out.kept.trans HK9.out)⟩
     simp only [demandE, if_true]
     have HVz := hidp (HVy.out.turned HK9.out (HL9.out rfl))
     obtain ⟨g0, g1, r0, v0, n0, lg, lr, lv, ln⟩ := HVz.out.cells
     go_wp2_with fail
     go_roundw
     case rel => exact ⟨j + 1, _, d, by omega, by go_num, rfl, by rw [HSt.out]; rfl, by rw [List.getLast?_append]; exact HVz.out⟩
     case measure => simp [intOf]; omega
    have hje : j = g.fn := by omega
    have hjf' : ¬ ((j : Int) < g.fn) := by omega
    clear hjf
    go_wp2_with fail
    go_roundw
    case rel => exact ⟨j + 1, m', d, by omega, by go_num, rfl, step_kid_end HKid.out HLp.out HSub.out HDd.out (List.getElem?_eq_none (by show g.facts.length ≤ j; have := HFn.out; omega)), HV6.out⟩
    case measure => simp [intOf]; omega
   ·go_wp2_with fail
    refine (demand_any true 470 _).mono ?_
    rintro e w4 ⟨rfl, rfl⟩
    simp only [demandE, if_true]
    clear hi0 hd0
    by_cases hjf : j < g.fn
    ·have hjf' : (j : Int) < g.fn := by omega
     obtain ⟨bf, of, f, hfA, _, hf, f0, f1, f2, f3, f4, f5, f6, f7⟩ := fSl.get ((HWP.out w6 HV6.out.kept).each g (List.mem_of_getElem? HGg.out)).1 hjf
     have hixf := fun W => ix_FactsP (c := g.fc) hfA hjf W
     have lf0 := lt_of_cell f0
     have HF := hidp hf
     clear hf hfA
     go_wp2_with fail
     refine wp_region_S w6.heap.size 6 (fun _ => false) (Nat.le_refl _) (by kernel_rfl) (by kernel_rfl) (by kernel_rfl) ?_
     dsimp only [List.take, List.drop]
     apply relS_det (mask := []) (x := .func (.func 118) #[] #[.pointer (some ⟨L, 0, none⟩)])
     ·rfl
     ·kernel_rfl
     ·kernel_rfl
     ·dsimp only [oblS]
      rintro w9 h9
      have hc9 := (bcell h9).1
      go_simp
      exact ⟨Below.refl _ _, rfl⟩
     dsimp only [naL, caL]
     apply relS_det (mask := [false])
     ·rfl
     ·kernel_rfl
     ·kernel_rfl
     ·dsimp only [oblS]
      rintro w9 h9
      go_simp
      exact ⟨Below.refl _ _, rfl⟩
     dsimp only [naL, caL]
     apply relS_det (mask := [false, true]) (x := .slice g.fA g.fn g.fc)
     ·rfl
     ·kernel_rfl
     ·kernel_rfl
     ·dsimp only [oblS]
      rintro w9 h9
      have hc9 := (bcell h9).1
      go_simp
      exact ⟨Below.refl _ _, rfl⟩
     dsimp only [naL, caL]
     apply relS_det (mask := [false, false, false])
     ·rfl
     ·kernel_rfl
     ·kernel_rfl
     ·dsimp only [oblS]
      rintro w9 h9
      go_simp
      exact ⟨Below.refl _ _, rfl⟩
     dsimp only [naL, caL]
     apply relS_det (mask := [false, false, true, true]) (x := .pointer (some ⟨bf, of + j * 8, none⟩))
     ·rfl
     ·kernel_rfl
     ·kernel_rfl
     ·dsimp only [oblS]
      rintro w9 h9
      go_simp
      exact ⟨Below.refl _ _, rfl⟩
     dsimp only [naL, caL]
     apply relS_det (mask := [false, false, false, false, true]) (x := .agg #[.int .i64 f.key.kind, .int .i64 f.key.subj, .int .i64 f.key.obj, .int .i64 f.val, .int .i64 f.fr, .int .i64 f.to, .int .i64 f.known, .int .i64 f.no])
     ·rfl
     ·kernel_rfl
     ·kernel_rfl
     ·dsimp only [oblS]
      rintro w9 h9
      have hc9 := (bcell h9).1
      go_simp
      exact ⟨Below.refl _ _, rfl⟩
     dsimp only [naL, caL]
     refine relS_end (by rfl) ?_
     dsimp only [finS]
     rintro wy hby
     have HVy := hidp (HV6.out.later hby)
     clear g0 g1 r0 v0 n0 lg lr lv ln f0 f1 f2 f3 f4 f5 f6 f7 lf0 hixf hby
     go_simp
     go_wp2_with fail
     refine (good1_any L m'.getLast? f wy HVy.out.last).mono ?_
     rintro e wz ⟨rfl, hl9, hk9⟩
     obtain ⟨ok, hok⟩ : ∃ b, nextOk m'.getLast? f = b := ⟨_, rfl⟩
     have HStep := step_kid_fact HKid.out HLp.out HSub.out HDd.out HF.out
     rw [hok] at hl9 HStep
     rw [hok]
     have HK9 := hidp hk9
     have HSt := hidp HStep
     have HL9 := hidp hl9
     clear HStep hok hk9 hl9
     cases ok
     ·exact ⟨rfl, visit_no (HNone.out j (by omega) (by rw [HSt.out]; rfl)) (HVy.out.kept.trans HK9.out)⟩
     simp only [demandE, if_true]
     have HVz := hidp (HVy.out.turned HK9.out (HL9.out rfl))
     obtain ⟨g0, g1, r0, v0, n0, lg, lr, lv, ln⟩ := HVz.out.cells
     go_wp2_with fail
     go_roundw
     case rel => exact ⟨j + 1, _, d, by omega, by go_num, rfl, by rw [HSt.out]; rfl, by rw [List.getLast?_append]; exact HVz.out⟩
     case measure => simp [intOf]; omega
    have hje : j = g.fn := by omega
    have hjf' : ¬ ((j : Int) < g.fn) := by omega
    clear hjf
    go_wp2_with fail
    go_roundw
    case rel => exact ⟨j + 1, m', d, by omega, by go_num, rfl, step_kid_end HKid.out HLp.out HSub.out HDd.out (List.getElem?_eq_none (by show g.facts.length ≤ j; have := HFn.out; omega)), HV6.out⟩
    case measure => simp [intOf]; omega
  have hje : j = g.fn + 1 := by omega
  have hjn' : ¬ ((j : Int) < (g.fn : Int) + 1) := by omega
  have HRes : Hid (walkP (psV s) q (decide (q = r)) l = some (m, lev + 1)) := by
   show _ = _
   rw [HW1.out, show g.facts.length + 1 = j by have := HFn.out; omega, HLp.out]; rfl
  have hlv : lev ≤ q := by have := walkP_lv (psV s) (q + 1) q _ l m _ (by omega) HRes.out; omega
  have hwl : IntKind.i64.wrap ((lev : Int) + 1) = ((lev + 1 : Nat) : Int) := by rw [IntWalk.i64_in _ (by omega)]; omega
  clear hjn
  go_wp2_with fail
  go_ret
  exact visit_yes HRes.out HVr.out.kept HVr.out.last
 ·skip
  go_wp2_with fail
  go_loopw [6, 53] (fun lvv i wr => ∃ (j : Nat) (m : List Fc) (lv : Nat), j ≤ g.fn + 1 ∧ i = .int .i64 j ∧ lvv = .int .i64 (lv : Nat) ∧ loopW (kidW (psV s) q) (pgV g) l j = some (m, lv) ∧ VisB s r P R V N L g w.heap.size m.getLast? w wr) (fun _ i _ => g.fn + 1 - (intOf i).toNat)
  case atStart => exact ⟨0, l, 0, by omega, rfl, rfl, loopW_zero _ _ _, HV3.out⟩
  case round =>
  obtain ⟨j, m, lev, hj, rfl, rfl, hlp, hvb⟩ := hrel
  have HLp := hidp hlp
  have HVr := hidp hvb
  obtain ⟨g0, g1, r0, v0, n0, lg, lr, lv, ln⟩ := hvb.cells
  clear hlp hvb
  by_cases hjn : j < g.fn + 1
  ·have hjn' : (j : Int) < (g.fn : Int) + 1 := by omega
   by_cases hjf : j < g.fn
   ·have hjf' : (j : Int) < g.fn := by omega
    obtain ⟨bf, of, f, hfA, _, hf, f0, f1, f2, f3, f4, f5, f6, f7⟩ := fSl.get ((HWP.out wr HVr.out.kept).each g (List.mem_of_getElem? HGg.out)).1 hjf
    have hixf := fun W => ix_FactsP (c := g.fc) hfA hjf W
    have lf0 := lt_of_cell f0
    have HF := hidp hf
    clear hf hfA
    go_wp2_with fail
    refine wp_region_S wr.heap.size 6 (fun _ => false) (Nat.le_refl _) (by kernel_rfl) (by kernel_rfl) (by kernel_rfl) ?_
    dsimp only [List.take, List.drop]
    apply relS_det (mask := []) (x := .func (.func 118) #[] #[.pointer (some ⟨L, 0, none⟩)])
    ·rfl
    ·kernel_rfl
    ·kernel_rfl
    ·dsimp only [oblS]
     rintro w9 h9
     have hc9 := (bcell h9).1
     go_simp
     exact ⟨Below.refl _ _, rfl⟩
    dsimp only [naL, caL]
    apply relS_det (mask := [false])
    ·rfl
    ·kernel_rfl
    ·kernel_rfl
    ·dsimp only [oblS]
     rintro w9 h9
     go_simp
     exact ⟨Below.refl _ _, rfl⟩
    dsimp only [naL, caL]
    apply relS_det (mask := [false, true]) (x := .slice g.fA g.fn g.fc)
    ·rfl
    ·kernel_rfl
    ·kernel_rfl
    ·dsimp only [oblS]
     rintro w9 h9
     have hc9 := (bcell h9).1
     go_simp
     exact ⟨Below.refl _ _, rfl⟩
    dsimp only [naL, caL]
    apply relS_det (mask := [false, false, false])
    ·rfl
    ·kernel_rfl
    ·kernel_rfl
    ·dsimp only [oblS]
     rintro w9 h9
     go_simp
     exact ⟨Below.refl _ _, rfl⟩
    dsimp only [naL, caL]
    apply relS_det (mask := [false, false, true, true]) (x := .pointer (some ⟨bf, of + j * 8, none⟩))
    ·rfl
    ·kernel_rfl
    ·kernel_rfl
    ·dsimp only [oblS]
     rintro w9 h9
     go_simp
     exact ⟨Below.refl _ _, rfl⟩
    dsimp only [naL, caL]
    apply relS_det (mask := [false, false, false, false, true]) (x := .agg #[.int .i64 f.key.kind, .int .i64 f.key.subj, .int .i64 f.key.obj, .int .i64 f.val, .int .i64 f.fr, .int .i64 f.to, .int .i64 f.known, .int .i64 f.no])
    ·rfl
    ·kernel_rfl
    ·kernel_rfl
    ·dsimp only [oblS]
     rintro w9 h9
     have hc9 := (bcell h9).1
     go_simp
     exact ⟨Below.refl _ _, rfl⟩
    dsimp only [naL, caL]
    refine relS_end (by rfl) ?_
    dsimp only [finS]
    rintro wy hby
    have HVy := hidp (HVr.out.later hby)
    clear g0 g1 r0 v0 n0 lg lr lv ln f0 f1 f2 f3 f4 f5 f6 f7 lf0 hixf hby
    go_simp
    go_wp2_with fail
    refine (good1_any L m.getLast? f wy HVy.out.last).mono ?_
    rintro e wz ⟨rfl, hl9, hk9⟩
    obtain ⟨ok, hok⟩ : ∃ b, nextOk m.getLast? f = b := ⟨_, rfl⟩
    have HStep := step_leaf_fact (HKz.out (by simp)) HLp.out HF.out
    rw [hok] at hl9 HStep
    rw [hok]
    have HK9 := hidp hk9
    have HSt := hidp HStep
    have HL9 := hidp hl9
    clear HStep hok hk9 hl9
    cases ok
    ·exact ⟨rfl, visit_no (HNone.out j (by omega) (by rw [HSt.out]; rfl)) (HVy.out.kept.trans HK9.out)⟩
    simp only [demandE, if_true]
    have HVz := hidp (HVy.out.turned HK9.out (HL9.out rfl))
    obtain ⟨g0, g1, r0, v0, n0, lg, lr, lv, ln⟩ := HVz.out.cells
    go_wp2_with fail
    go_roundw
    case rel => exact ⟨j + 1, _, lev, by omega, by go_num, rfl, by rw [HSt.out]; rfl, by rw [List.getLast?_append]; exact HVz.out⟩
    case measure => simp [intOf]; omega
   have hje : j = g.fn := by omega
   have hjf' : ¬ ((j : Int) < g.fn) := by omega
   clear hjf
   go_wp2_with fail
   go_roundw
   case rel => exact ⟨j + 1, m, lev, by omega, by go_num, rfl, step_leaf_end (HKz.out (by simp)) HLp.out (List.getElem?_eq_none (by show g.facts.length ≤ j; have := HFn.out; omega)), HVr.out⟩
   case measure => simp [intOf]; omega
  have hje : j = g.fn + 1 := by omega
  have hjn' : ¬ ((j : Int) < (g.fn : Int) + 1) := by omega
  have HRes : Hid (walkP (psV s) q (decide (q = r)) l = some (m, lev + 1)) := by
   show _ = _
   rw [HW1.out, show g.facts.length + 1 = j by have := HFn.out; omega, HLp.out]; rfl
  have hlv : lev ≤ q := by have := walkP_lv (psV s) (q + 1) q _ l m _ (by omega) HRes.out; omega
  have hwl : IntKind.i64.wrap ((lev : Int) + 1) = ((lev + 1 : Nat) : Int) := by rw [IntWalk.i64_in _ (by omega)]; omega
  clear hjn
  go_wp2_with fail
  go_ret
  exact visit_yes HRes.out HVr.out.kept HVr.out.last
end
section
open Go.RowKit
theorem run_store_fnP {P : Program} {w : World} {a : Addr} {f : Fn} {fr cs : Array Value} {m : Mode} : (store a (.func f fr cs) m).run P w = stored P w a (.func f fr cs) m := run_store P w a _ m rfl
attribute [local go_sem] run_store_fnP
set_option maxRecDepth 100000 in
set_option maxHeartbeats 4000000 in
theorem good_any (s : Ps) (root : Int) (w : World) (hps : PsIn s w w.heap.size) (hsm : ∀ g ∈ s.gs, g.fn ≤ 1000000 ∧ g.kn ≤ 1000000) :
  Calls Tryz.prog 84 #[.agg #[.slice s.pA s.pn s.pc, .slice s.rA s.rn s.rc], .int .i64 root] w fun e w' => e = demandE (rootP (psV s) root) 470 ∧ Below w.heap.size w w' := by
 have HPs := hidp hps
 have HSm := hidp hsm
 have hpc := hps.pages.2.1
 have hpcc := hps.pages.2.2.1
 have HPn : Hid (s.pn = s.gs.length) := hps.pages.1
 obtain ⟨W0, hW0⟩ : ∃ W0, (w.alloc (.cells #[.slice s.pA s.pn s.pc, .slice s.rA s.rn s.rc] 45)).alloc (.cells #[.int .i64 root] 3) = W0 := ⟨_, rfl⟩
 have hB0 : Below w.heap.size w W0 := hW0 ▸ ((Below.refl _ w).alloc (Nat.le_refl _) _).alloc (by simp) _
 have gp : W0.heap[w.heap.size]? = some (.cells #[.slice s.pA s.pn s.pc, .slice s.rA s.rn s.rc] 45 (0, 0)) := hW0 ▸ (Below.heap_alloc _ _ _ (by simp)).trans (World.alloc_heap_new _ _)
 have gr : W0.heap[w.heap.size + 1]? = some (.cells #[.int .i64 root] 3 (0, 0)) := by
  rw [← hW0]; have := World.alloc_heap_new (w.alloc (.cells #[.slice s.pA s.pn s.pc, .slice s.rA s.rn s.rc] 45)) (.cells #[.int .i64 root] 3); rwa [World.size_alloc] at this
 have hz0 : W0.heap.size = w.heap.size + 2 := by rw [← hW0]; simp
 have HB0 := hidp hB0
 have HGp := hidp gp
 have HGr := hidp gr
 have HZ0 := hidp hz0
 have HW0 := hidp hW0
 have p0 := cell_of_heap (o := 0) gp
 have r0 := cell_of_heap (o := 0) gr
 have lp := lt_of_heap gp
 have lr := lt_of_heap gr
 simp only [List.getElem?_toArray, List.getElem?_cons_zero] at p0 r0
 obtain ⟨z0, hz0'⟩ : ∃ b, decide (0 ≤ root) = b := ⟨_, rfl⟩
 obtain ⟨z1, hz1⟩ : ∃ b, decide (root < (s.pn : Int)) = b := ⟨_, rfl⟩
 have HZa := hidp hz0'
 have HZb := hidp hz1
 clear hB0 gp gr hz0 hps hsm hW0
 go_enter Tryz.func84, Tryz.ntmps84
 cases z0
 ·have HN : Hid (rootP (psV s) root = false) := by show _ = _; unfold rootP; rw [HZa.out]; rfl
  go_wp2_with fail
  try rw [HW0.out]
  refine (demand_any false 470 _).mono ?_
  rintro e w1 ⟨rfl, rfl⟩
  exact ⟨rfl, by rw [HN.out]; rfl, HB0.out⟩
 cases z1
 ·have HN : Hid (rootP (psV s) root = false) := by
   show _ = _; unfold rootP; rw [psV_len, ← HPn.out, HZb.out]; simp
  go_wp2_with fail
  try rw [HW0.out]
  refine (demand_any false 470 _).mono ?_
  rintro e w1 ⟨rfl, rfl⟩
  exact ⟨rfl, by rw [HN.out]; rfl, HB0.out⟩
 have hrt : 0 ≤ root ∧ root < s.pn := ⟨of_decide_eq_true HZa.out, of_decide_eq_true HZb.out⟩
 obtain ⟨r, rfl⟩ : ∃ n : Nat, root = n := ⟨root.toNat, by omega⟩
 go_wp2_with fail
 try rw [HW0.out]
 refine (demand_any true 470 _).mono ?_
 rintro e w1 ⟨rfl, rfl⟩
 simp only [demandE, if_true]
 go_wp2_with fail
 obtain ⟨g, hg⟩ : ∃ g, s.gs[r]? = some g := ⟨_, List.getElem?_eq_getElem (by have := HPn.out; omega)⟩
 obtain ⟨W3, hW3⟩ : ∃ W3, (((W0.alloc (.cells #[.pointer none] 99)).alloc (.cells #[.func (.func 118) #[] #[.pointer (some ⟨W0.heap.size, 0, none⟩)]] 179)).alloc (.cells #[.func (.func 119) #[] #[.pointer (some ⟨w.heap.size, 0, none⟩), .pointer (some ⟨w.heap.size + 1, 0, none⟩), .pointer (some ⟨W0.heap.size + 1 + 1, 0, none⟩), .pointer (some ⟨W0.heap.size + 1, 0, none⟩)]] 180)) = W3 := ⟨_, rfl⟩
 rw [hW3]
 have hb3 : Below W0.heap.size W0 W3 := hW3 ▸ (((Below.refl _ W0).alloc (Nat.le_refl _) _).alloc (by simp) _).alloc (by simp; omega) _
 have gl : W3.heap[W0.heap.size]? = some (.cells #[.pointer none] 99 (0, 0)) := hW3 ▸ (Below.heap_alloc _ _ _ (by simp; omega)).trans ((Below.heap_alloc _ _ _ (by simp)).trans (World.alloc_heap_new _ _))
 have gn : W3.heap[W0.heap.size + 1]? = some (.cells #[.func (.func 118) #[] #[.pointer (some ⟨W0.heap.size, 0, none⟩)]] 179 (0, 0)) := by
  rw [← hW3]
  refine (Below.heap_alloc _ _ _ (by simp)).trans ?_
  have := World.alloc_heap_new (W0.alloc (.cells #[.pointer none] 99)) (.cells #[.func (.func 118) #[] #[.pointer (some ⟨W0.heap.size, 0, none⟩)]] 179)
  rwa [World.size_alloc] at this
 have gv : W3.heap[W0.heap.size + 1 + 1]? = some (.cells #[.func (.func 119) #[] #[.pointer (some ⟨w.heap.size, 0, none⟩), .pointer (some ⟨w.heap.size + 1, 0, none⟩), .pointer (some ⟨W0.heap.size + 1 + 1, 0, none⟩), .pointer (some ⟨W0.heap.size + 1, 0, none⟩)]] 180 (0, 0)) := by
  rw [← hW3]
  have := World.alloc_heap_new ((W0.alloc (.cells #[.pointer none] 99)).alloc (.cells #[.func (.func 118) #[] #[.pointer (some ⟨W0.heap.size, 0, none⟩)]] 179)) (.cells #[.func (.func 119) #[] #[.pointer (some ⟨w.heap.size, 0, none⟩), .pointer (some ⟨w.heap.size + 1, 0, none⟩), .pointer (some ⟨W0.heap.size + 1 + 1, 0, none⟩), .pointer (some ⟨W0.heap.size + 1, 0, none⟩)]] 180)
  rwa [World.size_alloc, World.size_alloc] at this
 have hgood : GoodB s r w.heap.size (w.heap.size + 1) (W0.heap.size + 1 + 1) (W0.heap.size + 1) W0.heap.size W3 :=
  ⟨(hb3.block _ (by have := HZ0.out; omega)).trans HGp.out, (hb3.block _ (by have := HZ0.out; omega)).trans HGr.out, gv, gn, by have := HZ0.out; omega⟩
 have hB3 := HB0.out.trans (hb3.mono HB0.out.size)
 have hlast : LastAt W3 W0.heap.size ([] : List Fc).getLast? := gl
 have HB3 := hidp hB3
 have HRoot : Hid (rootP (psV s) r = (walkP (psV s) r true []).isSome) := by
  show _ = _
  unfold rootP
  rw [decide_eq_true (p := (0 : Int) ≤ r) (by omega), decide_eq_true (p := (r : Int) < (psV s).length) (by rw [psV_len, ← HPn.out]; omega), Int.toNat_natCast]; rfl
 refine (good2_any s r _ _ _ _ _ w.heap.size (by have := HZ0.out; omega) (by omega) HSm.out (r + 1) r (by omega) (Nat.le_refl _) g hg [] W3 hgood (HPs.out.keep (Nat.le_refl _) hB3.block) hB3.size hlast).mono ?_
 rintro e w4 ⟨hk, hno, hyes⟩
 have HB4 : Hid (Below w.heap.size w w4) := HB3.out.trans (hk.toBelow (by have := HB3.out.size; omega) fun b hb e => by have := HZ0.out; omega)
 rw [decide_eq_true (rfl : r = r)] at hno hyes
 rcases hwk : walkP (psV s) r true [] with _ | ⟨m, d⟩
 ·obtain rfl := hno hwk
  exact ⟨rfl, by rw [HRoot.out, hwk]; rfl, HB4.out⟩
 ·obtain ⟨rfl, _⟩ := hyes m d hwk
  have HR : Hid (rootP (psV s) r = true) := by show _ = _; rw [HRoot.out, hwk]; rfl
  clear hno hyes hk hwk hgood hlast hb3 gl gn gv hB3 hg hW3
  go_wp2_with fail
  go_end0
  exact ⟨by rw [HR.out]; rfl, HB4.out⟩
set_option maxRecDepth 100000 in
set_option maxHeartbeats 4000000 in
theorem pgCheck_any (s : Ps) (w : World) (hps : PsIn s w w.heap.size) (hsm : ∀ g ∈ s.gs, g.fn ≤ 1000000 ∧ g.kn ≤ 1000000) :
  Calls Tryz.prog 40 #[.agg #[.slice s.pA s.pn s.pc, .slice s.rA s.rn s.rc]] w fun e w' => e = .returned (.int .i64 (errP (checkP (psV s) s.roots))) ∧ Below w.heap.size w w' := by
 have HPs : Hid (∀ W, Below w.heap.size w W → PsIn s W W.heap.size) := fun W h => hps.later h
 have HSm := hidp hsm
 have hrc := hps.roots.2.1
 have hrcc := hps.roots.2.2.1
 have HRn : Hid (s.rn = s.roots.length) := hps.roots.1
 have hmf : ∀ (fn : Fn) (first cap : Array Value) (W : World), (Instr.makeFunc fn first cap).run Tryz.prog W = .ok (.func fn first cap) W := fun _ _ _ _ => rfl
 clear hps hsm
 obtain ⟨W0, hW0⟩ : ∃ W0, (w.alloc (.cells #[.slice s.pA s.pn s.pc, .slice s.rA s.rn s.rc] 45)).alloc (.cells #[.int .i64 0] 31) = W0 := ⟨_, rfl⟩
 have HB0 : Hid (Below w.heap.size w W0) := hW0 ▸ ((Below.refl _ w).alloc (Nat.le_refl _) _).alloc (by simp) _
 have HGp : Hid (W0.heap[w.heap.size]? = some (.cells #[.slice s.pA s.pn s.pc, .slice s.rA s.rn s.rc] 45 (0, 0))) := hW0 ▸ (Below.heap_alloc _ _ _ (by simp)).trans (World.alloc_heap_new _ _)
 have HGe : Hid (W0.heap[w.heap.size + 1]? = some (.cells #[.int .i64 0] 31 (0, 0))) := by
  show _ = _
  rw [← hW0]; have := World.alloc_heap_new (w.alloc (.cells #[.slice s.pA s.pn s.pc, .slice s.rA s.rn s.rc] 45)) (.cells #[.int .i64 0] 31); rwa [World.size_alloc] at this
 have HW0 := hidp hW0
 clear hW0
 obtain ⟨z0, hz0⟩ : ∃ b, decide (0 < s.rn) = b := ⟨_, rfl⟩
 have HZ := hidp hz0
 go_enter_defers Tryz.func40, Tryz.ntmps40
 cases z0
 ·have HN : Hid (checkP (psV s) s.roots = false) := by show _ = _; unfold checkP; rw [← HRn.out, HZ.out]; rfl
  go_wp2_with fail
  try rw [HW0.out]
  refine (demand_any false 470 _).mono ?_
  rintro e w1 ⟨rfl, rfl⟩
  simp only [demandE, Bool.false_eq_true, if_false]
  refine leaves_cons (f := 83) (args := #[.pointer (some ⟨w.heap.size + 1, 0, none⟩)]) (by simp) (by simp [go_sem]) ?_
  refine (catchC_panicking (w.heap.size + 1) 0 470 [] _ HGe.out).mono ?_
  rintro e u' w'' ⟨rfl, rfl, h1, h2⟩
  have hce := cell_of_heap (o := 0) h1
  simp only [List.getElem?_toArray, List.getElem?_cons_zero] at hce
  have HB2 : Hid (Below w.heap.size w w'') := HB0.out.trans (h2.toBelow (by have := HB0.out.size; omega) fun b hb e => by omega)
  simp [Leaves, settle, results, Tryz.results40, go_sem, hce]
  exact ⟨by rw [HN.out]; rfl, HB2.out⟩
 go_wp2_with fail
 try rw [HW0.out]
 refine (demand_any true 470 _).mono ?_
 rintro e w1 ⟨rfl, rfl⟩
 simp only [demandE, if_true]
 have p1 := cell_of_heap (o := 1) HGp.out
 have lp := lt_of_heap HGp.out
 simp only [List.getElem?_toArray, List.getElem?_cons_zero, List.getElem?_cons_succ] at p1
 go_wp2_with fail
 clear p1 lp
 go_loopw [14] (fun i wr => ∃ k : Nat, k ≤ s.rn ∧ i = .int .i64 k ∧ wr.heap[w.heap.size]? = some (.cells #[.slice s.pA s.pn s.pc, .slice s.rA s.rn s.rc] 45 (0, 0)) ∧ wr.heap[w.heap.size + 1]? = some (.cells #[.int .i64 0] 31 (0, 0)) ∧ Below w.heap.size w wr ∧ (s.roots.take k).all (rootP (psV s)) = true) (fun i _ => s.rn - (intOf i).toNat)
 case atStart => exact ⟨0, by omega, rfl, HGp.out, HGe.out, HB0.out, by simp⟩
 case round =>
 obtain ⟨k, hk, rfl, hgp, hge, hbe, hall⟩ := hrel
 have HGp1 := hidp hgp
 have HGe1 := hidp hge
 have HBe := hidp hbe
 have HAll := hidp hall
 have p0 := cell_of_heap (o := 0) hgp
 have p1 := cell_of_heap (o := 1) hgp
 have lp := lt_of_heap hgp
 simp only [List.getElem?_toArray, List.getElem?_cons_zero, List.getElem?_cons_succ] at p0 p1
 clear hgp hge hbe hall
 by_cases hkn : k < s.rn
 ·have hkn' : (k : Int) < s.rn := by omega
  obtain ⟨b, off, root, hA, _, hrt, c0⟩ := iSl.get (HPs.out wr HBe.out).roots hkn
  have hix := fun W => ix_intsP (c := s.rc) hA hkn W
  have lb := lt_of_cell c0
  have HRt := hidp hrt
  clear hrt hA
  go_wp2_with fail
  refine (good_any s root wr (HPs.out wr HBe.out) HSm.out).mono ?_
  rintro e w2 ⟨rfl, hb2⟩
  have HB2 := hidp (HBe.out.trans (hb2.mono HBe.out.size))
  have HGp2 := hidp ((hb2.block _ (lt_of_heap HGp1.out)).trans HGp1.out)
  have HGe2 := hidp ((hb2.block _ (lt_of_heap HGe1.out)).trans HGe1.out)
  obtain ⟨ok, hok⟩ : ∃ b, rootP (psV s) root = b := ⟨_, rfl⟩
  rw [hok]
  have HOk := hidp hok
  clear hok hb2 p0 p1 lp c0 lb hix
  cases ok
  ·have HN : Hid (checkP (psV s) s.roots = false) := by
    show _ = _
    unfold checkP
    rw [Bool.and_eq_false_iff]
    refine .inr ?_
    rw [Bool.eq_false_iff]
    intro h
    have := List.all_eq_true.1 h root (List.mem_of_getElem? HRt.out)
    rw [HOk.out] at this; cases this
   simp only [demandE, Bool.false_eq_true, if_false]
   refine leaves_cons (f := 83) (args := #[.pointer (some ⟨w.heap.size + 1, 0, none⟩)]) (by simp) (by simp [go_sem]) ?_
   refine (catchC_panicking (w.heap.size + 1) 0 470 [] _ HGe2.out).mono ?_
   rintro e u' w'' ⟨rfl, rfl, h1, h2⟩
   have hce := cell_of_heap (o := 0) h1
   simp only [List.getElem?_toArray, List.getElem?_cons_zero] at hce
   have HB3 : Hid (Below w.heap.size w w'') := HB2.out.trans (h2.toBelow (by have := HB2.out.size; omega) fun b hb e => by omega)
   simp [Leaves, settle, results, Tryz.results40, go_sem, hce]
   exact ⟨by rw [HN.out]; rfl, HB3.out⟩
  simp only [demandE, if_true]
  go_wp2_with fail
  go_roundw
  case rel => exact ⟨k + 1, by omega, by go_num, HGp2.out, HGe2.out, HB2.out, by rw [take_snoc HRt.out, List.all_append, HAll.out]; simp [HOk.out]⟩
  case measure => simp [intOf]; omega
 have hke : k = s.rn := by omega
 subst hke
 have hkk : ¬ ((s.rn : Int) < s.rn) := by omega
 have HY : Hid (checkP (psV s) s.roots = true) := by
  have h := HAll.out
  rw [List.take_of_length_le (by rw [← HRn.out]; exact Nat.le_refl _)] at h
  show _ = _
  unfold checkP
  rw [← HRn.out, HZ.out, h]; rfl
 have hce := cell_of_heap (o := 0) HGe1.out
 have hze := frozen_of_heap (o := 0) HGe1.out
 have le := lt_of_heap HGe1.out
 simp only [List.getElem?_toArray, List.getElem?_cons_zero] at hce
 clear p0 p1 lp
 go_wp2_with fail
 have h1 := heap_set1 HGe1.out (.int .i64 0)
 have hcs := cell_of_heap (o := 0) h1
 simp only [List.getElem?_toArray, List.getElem?_cons_zero] at hcs
 have HB2 : Hid (Below w.heap.size w (wr.setCell ⟨w.heap.size + 1, 0, none⟩ (.int .i64 0))) := HBe.out.setCell (p := ⟨w.heap.size + 1, 0, none⟩) (by simp) _
 refine leaves_cons (f := 83) (args := #[.pointer (some ⟨w.heap.size + 1, 0, none⟩)]) (by simp) (by simp [go_sem]) ?_
 refine (catchC_idle (w.heap.size + 1) _).mono ?_
 rintro e u' w'' ⟨rfl, rfl, rfl⟩
 simp [Leaves, settle, results, Tryz.results40, go_sem, hcs]
 exact ⟨by rw [HY.out]; rfl, HB2.out⟩
end
end Go.Proofs.YtbegdcjofnfkiaaGreatDoor
