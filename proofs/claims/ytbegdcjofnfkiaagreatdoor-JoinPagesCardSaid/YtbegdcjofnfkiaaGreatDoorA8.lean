import Derived.Test.YtbegdcjofnfkiaaGreatDoorQ18
import Derived.Test.YtbegdcjofnfkiaaGreatDoorQ22
import Derived.Test.YtbegdcjofnfkiaaGreatDoorQ9
import Derived.Test.YtbegdcjofnfkiaaGreatDoorQ4
import Derived.OwnWalkIn
import Derived.TacticsInMore
import Derived.LoopNIn
import Derived.LoopIn
namespace Go.Proofs.YtbegdcjofnfkiaaGreatDoor
open Go.RowKit
attribute [local go_sem] Oper.semAt_some
theorem run_store_fnA {P : Program} {w : World} {a : Addr} {f : Fn} {fr cs : Array Value} {m : Mode} : (store a (.func f fr cs) m).run P w = stored P w a (.func f fr cs) m := run_store P w a _ m rfl
attribute [local go_sem] run_store_fnA
def fArgs (x : Fc) : Array Value := #[.agg #[.int .i64 x.key.kind, .int .i64 x.key.subj, .int .i64 x.key.obj, .int .i64 x.val, .int .i64 x.fr, .int .i64 x.to, .int .i64 x.known, .int .i64 x.no]]
theorem outT_pre (ps : List Pv) (p : Nat) (g : Pv) (j : Nat) : ∀ d, ∃ suf, outT ps p g (j + d) = outT ps p g j ++ suf
  | 0 => ⟨[], by simp⟩
  | d + 1 => by
    obtain ⟨suf, h⟩ := outT_pre ps p g j d
    rw [← Nat.add_assoc, outT_succ, h]
    exact ⟨_, List.append_assoc ..⟩
structure AllSt (n₀ P A : Nat) (g : Pq) (li : Nat) (J : (Nat → Prop) → World → Prop) (w W : World) (Ds : List Nat) (C1 : Nat → Prop) (wr : World) : Prop where
 j : J C1 wr
 st : SeqSt (fun b => b < n₀ ∨ b = P ∨ b = A) w W C1 wr
 y : wr.heap[W.heap.size]? = some (.cells #[.func (.yield li) #[] #[]] 106 (0, 0))
 g : wr.heap[W.heap.size + 1]? = some (.cells #[.slice g.fA g.fn g.fc, .slice g.kA g.kn g.kc] 86 (0, 0))
 ny : ¬ C1 W.heap.size ∧ ¬ C1 (W.heap.size + 1)
 marks : Marks (W.heap.size + 2) Ds wr
 nm : ∀ D ∈ Ds, ¬ C1 D
theorem AllSt.own {n₀ P A : Nat} {g : Pq} {li : Nat} {J : (Nat → Prop) → World → Prop} {w W : World} {Ds : List Nat} {C1 : Nat → Prop} {wr w2 : World} {M : Nat → Prop} (h : AllSt n₀ P A g li J w W Ds C1 wr) (hk : Kept M wr w2) (hM : ∀ b, M b → W.heap.size + 2 ≤ b ∧ ¬ C1 b ∧ b ∉ Ds)
  (hJ : ∀ C1 W1 W2, J C1 W1 → Kept (fun b => W.heap.size ≤ b ∧ ¬ C1 b) W1 W2 → J C1 W2) : AllSt n₀ P A g li J w W Ds C1 w2 :=
 ⟨hJ _ _ _ h.j (hk.mono fun b _ hb => ⟨by have := (hM b hb).1; omega, (hM b hb).2.1⟩), h.st.own hk fun b hb => by have := (hM b hb).1; omega,
  (hk.block _ (lt_of_heap h.y) fun hb => by have := (hM _ hb).1; omega).trans h.y, (hk.block _ (lt_of_heap h.g) fun hb => by have := (hM _ hb).1; omega).trans h.g, h.ny,
  h.marks.keep fun D hD => hk.block _ (h.marks.lt D hD) fun hb => (hM _ hb).2.2 hD, h.nm⟩
theorem AllSt.round {n₀ P A : Nat} {g : Pq} {li : Nat} {J J' : (Nat → Prop) → World → Prop} {w W : World} {Ds : List Nat} {C1 C2 : Nat → Prop} {wr w2 : World} (h : AllSt n₀ P A g li J w W Ds C1 wr) (hk : Kept C1 wr w2) (hC : ∀ b, C2 b → b < w2.heap.size ∧ (C1 b ∨ wr.heap.size ≤ b)) (hj : J' C2 w2) : AllSt n₀ P A g li J' w W Ds C2 w2 := by
 have n : ∀ b, b < wr.heap.size → ¬ C1 b → ¬ C2 b := fun b hb hn h2 => by
  rcases (hC b h2).2 with h3 | h3
  ·exact hn h3
  ·omega
 exact ⟨hj, h.st.round hk hC, (hk.block _ (lt_of_heap h.y) h.ny.1).trans h.y, (hk.block _ (lt_of_heap h.g) h.ny.2).trans h.g, ⟨n _ (lt_of_heap h.y) h.ny.1, n _ (lt_of_heap h.g) h.ny.2⟩,
  h.marks.keep fun D hD => hk.block _ (h.marks.lt D hD) (h.nm D hD), fun D hD => n D (h.marks.lt D hD) (h.nm D hD)⟩
theorem AllSt.mark {n₀ P A : Nat} {g : Pq} {li : Nat} {J : (Nat → Prop) → World → Prop} {w W : World} {Ds : List Nat} {D : Nat} {C1 : Nat → Prop} {wr : World} (h : AllSt n₀ P A g li J w W Ds C1 wr) (hD : W.heap.size + 2 ≤ D) (hm : wr.heap[D]? = some (.deferred (some []))) (hn : ¬ C1 D) (hd : D ∉ Ds) : AllSt n₀ P A g li J w W (D :: Ds) C1 wr :=
 ⟨h.j, h.st, h.y, h.g, h.ny, h.marks.cons hD hm hd, fun E hE => by
  rcases List.mem_cons.1 hE with rfl | hE
  ·exact hn
  ·exact h.nm E hE⟩
theorem AllSt.cells {n₀ P A : Nat} {g : Pq} {li : Nat} {J : (Nat → Prop) → World → Prop} {w W : World} {Ds : List Nat} {C1 : Nat → Prop} {wr : World} (h : AllSt n₀ P A g li J w W Ds C1 wr) :
  wr.cell? ⟨W.heap.size, 0, none⟩ = some (.func (.yield li) #[] #[]) ∧ wr.cell? ⟨W.heap.size + 1, 0, none⟩ = some (.slice g.fA g.fn g.fc) ∧ wr.cell? ⟨W.heap.size + 1, 1, none⟩ = some (.slice g.kA g.kn g.kc) ∧ W.heap.size < wr.heap.size ∧ W.heap.size + 1 < wr.heap.size :=
 ⟨by rw [cell_of_heap h.y]; rfl, by rw [cell_of_heap h.g]; rfl, by rw [cell_of_heap h.g]; rfl, lt_of_heap h.y, lt_of_heap h.g⟩
set_option maxRecDepth 100000 in
set_option maxHeartbeats 16000000 in
theorem all1_seq (s : Ps) (n₀ : Nat) : ∀ (k q : Nat), q < k → OkT (psV s) q → ∀ (P A : Nat) (w : World), n₀ ≤ P → n₀ ≤ A → w.heap[P]? = some (.cells #[.slice s.pA s.pn s.pc, .slice s.rA s.rn s.rc] 45 (0, 0)) → w.heap[A]? = some (.cells #[.int .i64 q] 3 (0, 0)) → PsIn s w n₀ → (∀ g ∈ s.gs, g.fn ≤ 1000000 ∧ g.kn ≤ 1000000) →
  SeqP Tryz.prog 85 #[.pointer (some ⟨P, 0, none⟩), .pointer (some ⟨A, 0, none⟩)] fArgs (allT (psV s) q) (fun b => b < n₀ ∨ b = P ∨ b = A) w := by
 intro k
 induction k with
 | zero => intro q hq; omega
 | succ k ih =>
 intro q hqk hokt P A w hnP hnA hP hA hps hsm li J Jx Jp C W hS hC hJ hJx hJp hY h0
 have HIH := hidp ih
 obtain ⟨gv, hgv, hkids⟩ := hokt.page
 obtain ⟨g, hg, rfl⟩ : ∃ g, s.gs[q]? = some g ∧ gv = pgV g := by
  unfold psV at hgv
  rw [List.getElem?_map] at hgv
  cases hg : s.gs[q]? with
  | none => rw [hg] at hgv; cases hgv
  | some g => rw [hg] at hgv; exact ⟨g, rfl, by cases hgv; rfl⟩
 have HAll : Hid (allT (psV s) q = outT (psV s) q (pgV g) (g.facts.length + 1)) := allT_eq hgv
 refine calls_of_wp_marks Tryz.func85 rfl ((wpIn_wide (n := 0)).1 ?_)
 simp only [Tryz.ntmps85, List.size_toArray, List.length_cons, List.length_nil, Nat.reduceAdd, Nat.reduceSub, Array.replicate_succ, Array.replicate_zero, List.push_toArray, List.append_toArray, List.nil_append, List.cons_append]
 have HY := hidp hY
 have HJ := hidp hJ
 have HJx := hidp hJx
 have HJp := hidp hJp
 have HGg := hidp hg
 have HKids := hidp hkids
 have HSm := hidp hsm
 have hst0 : SeqSt (fun b => b < n₀ ∨ b = P ∨ b = A) w W C W := SeqSt.start hS hC
 have HPs : Hid (∀ W', (∀ b, b < n₀ → W'.heap[b]? = w.heap[b]?) → PsIn s W' n₀) := fun W' h => hps.keep (Nat.le_refl _) h
 have hqn : q < s.pn := by rw [hps.pages.1]; exact (List.getElem?_eq_some_iff.1 hg).1
 have hqn' : (q : Int) < s.pn := by omega
 have HQn := hidp hqn
 have HFn : Hid (g.fn = g.facts.length) := (hps.each g (List.mem_of_getElem? hg)).1.1
 have HKn : Hid (g.kn = g.kids.length) := (hps.each g (List.mem_of_getElem? hg)).2.1
 obtain ⟨hfs, hks⟩ := hsm g (List.mem_of_getElem? hg)
 have hPW := (hS P (.inr (.inl rfl))).2.1.trans hP
 have hAW := (hS A (.inr (.inr rfl))).2.1.trans hA
 have HPw := hidp hP
 have HAw := hidp hA
 have hpsW := HPs.out W fun b hb => (hS b (.inl hb)).2.1
 obtain ⟨bp, op, g', hpA, _, hg', c0, c1⟩ := pgSl.get hpsW.pages hqn
 obtain rfl : g = g' := Option.some.inj (hg.symm.trans hg')
 have hixp := fun W => ix_Pages (c := s.pc) hpA hqn W
 have lc := lt_of_cell c0
 have p0 := cell_of_heap (o := 0) hPW
 have a0 := cell_of_heap (o := 0) hAW
 have lp := lt_of_heap hPW
 have la := lt_of_heap hAW
 simp only [List.getElem?_toArray, List.getElem?_cons_zero] at p0 a0
 obtain ⟨W0, hW0⟩ : ∃ W0, (W.alloc (.cells #[.func (.yield li) #[] #[]] 106)).alloc (.cells #[.slice g.fA g.fn g.fc, .slice g.kA g.kn g.kc] 86) = W0 := ⟨_, rfl⟩
 have HA0 : Hid (AllSt n₀ P A g li (J []) w W [] C W0) := by
  have hk0 : Kept (fun _ => False) W W0 := hW0 ▸ ((Kept.refl _ W).alloc _).alloc _
  refine ⟨hJ _ _ _ _ h0 (hk0.mono fun _ _ h => h.elim), hst0.own hk0 fun _ h => h.elim, hW0 ▸ (Below.heap_alloc _ _ _ (by simp)).trans (World.alloc_heap_new _ _), ?_, ⟨fun h => by have := hC _ h; omega, fun h => by have := hC _ h; omega⟩, Marks.nil _ _, fun D hD => by simp at hD⟩
  rw [← hW0]; have := World.alloc_heap_new (W.alloc (.cells #[.func (.yield li) #[] #[]] 106)) (.cells #[.slice g.fA g.fn g.fc, .slice g.kA g.kn g.kc] 86); rwa [World.size_alloc] at this
 have HW0 := hidp hW0
 clear hW0 hY hJ hJx hJp hg hkids hgv hg' hpA hPW hAW hpsW hP hA hps hsm hS hC h0 hokt ih hst0
 gi_wp2
 try rw [HW0.out]
 clear p0 a0 lp la c0 c1 lc hixp
 refine wpIn_loop (fun a' wr => ∃ (j : Nat) (Ds : List Nat) (C1 : Nat → Prop) (v5 v6 v17 v18 v19 v20 v21 v22 v23 v24 v25 v26 v27 v28 v29 v30 v31 v32 v33 v34 v35 v36 v37 v38 v39 v40 v41 v42 v43 v44 v45 v46 v47 v48 v49 v50 : Value), j ≤ g.fn + 1 ∧ AllSt n₀ P A g li (J (outT (psV s) q (pgV g) j)) w W Ds C1 wr ∧ a' = { tmps := #[.func (.yield li) #[] #[], .pointer (some ⟨P, 0, none⟩), .pointer (some ⟨A, 0, none⟩), .pointer (some ⟨W.heap.size, 0, none⟩), .pointer (some ⟨W.heap.size + 1, 0, none⟩), v5, v6, .pointer (some ⟨P, 0, none⟩), .slice s.pA s.pn s.pc, .int .i64 q, .pointer (some ⟨bp, op + q * 2, none⟩), .agg #[.slice g.fA g.fn g.fc, .slice g.kA g.kn g.kc], .pointer (some ⟨W.heap.size + 1, 0, none⟩), .slice g.fA g.fn g.fc, .int .i64 g.fn, .int .i64 ((g.fn : Int) + 1), .int .i64 j, v17, v18, v19, v20, v21, v22, v23, v24, v25, v26, v27, v28, v29, v30, v31, v32, v33, v34, v35, v36, v37, v38, v39, v40, v41, v42, v43, v44, v45, v46, v47, v48, v49, v50], defers := Ds.map markOf }) (fun a' _ => g.fn + 1 - (intOf (a'.tmps.getD 16 undef)).toNat) ?start ?round
 case start => exact ⟨0, [], C, undef, undef, undef, undef, undef, undef, undef, undef, undef, undef, undef, undef, undef, undef, undef, undef, undef, undef, undef, undef, undef, undef, undef, undef, undef, undef, undef, undef, undef, undef, undef, undef, undef, undef, undef, undef, by omega, HA0.out, rfl⟩
 case round =>
 rintro a' wr ⟨j, Ds, C1, v5, v6, v17, v18, v19, v20, v21, v22, v23, v24, v25, v26, v27, v28, v29, v30, v31, v32, v33, v34, v35, v36, v37, v38, v39, v40, v41, v42, v43, v44, v45, v46, v47, v48, v49, v50, hj, hst, rfl⟩
 have HSt := hidp hst
 obtain ⟨y0, g0, g1, ly, lg⟩ := hst.cells
 clear hst
 by_cases hjn : j < g.fn + 1
 rotate_left
 ·have hje : j = g.fn + 1 := by omega
  have hjn' : ¬ ((j : Int) < (g.fn : Int) + 1) := by omega
  have HEnd : Hid (J (allT (psV s) q) C1 wr) := by
   show J _ _ _
   rw [HAll.out, show g.facts.length + 1 = j by have := HFn.out; omega]; exact HSt.out.j
  clear hjn
  gi_wp2
  exact leave_marks (.inr rfl) HSt.out.marks rfl fun W' hz hk => ⟨.tuple #[], results_none rfl _ _ _, .inl ⟨⟨_, rfl⟩, C1, .inl (HJ.out _ _ _ _ HEnd.out (hk.mono fun b _ hb => ⟨by have := (HSt.out.marks.2 b hb).1; omega, HSt.out.nm b hb⟩))⟩⟩
 have hjn' : (j : Int) < (g.fn : Int) + 1 := by omega
 have HSplit : Hid (∃ suf, allT (psV s) q = outT (psV s) q (pgV g) j ++ (subT (psV s) q (pgV g) j ++ g.facts[j]?.toList) ++ suf) := by
  obtain ⟨suf, h⟩ := outT_pre (psV s) q (pgV g) (j + 1) (g.facts.length + 1 - (j + 1))
  exact ⟨suf, by rw [HAll.out, show g.facts.length + 1 = j + 1 + (g.facts.length + 1 - (j + 1)) by have := HFn.out; omega, h, outT_succ]; rfl⟩
 have hkd := HKids.out
 rcases hkd with hk0 | ⟨hkl, hkid⟩
 ·have hgt : decide (0 < g.kn) = false := by simp; have := HKn.out; have : g.kids.length = 0 := hk0; omega
  have HS9 : Hid (AllSt n₀ P A g li (J (outT (psV s) q (pgV g) j ++ subT (psV s) q (pgV g) j)) w W Ds C1 wr) := by
   show AllSt _ _ _ _ _ _ _ _ _ _ _
   rw [subT_leaf hk0, List.append_nil]; exact HSt.out
  gi_wp2_with fail
  by_cases hjf : j < g.fn
  ·have hjf' : (j : Int) < g.fn := by omega
   obtain ⟨bf, of, f, hfA, _, hf, f0, f1, f2, f3, f4, f5, f6, f7⟩ := fSl.get ((HPs.out wr fun b hb => (HS9.out.st.reads b (.inl hb)).2.1).each g (List.mem_of_getElem? HGg.out)).1 hjf
   have hixf := fun W => ix_FactsP (c := g.fc) hfA hjf W
   have lf0 := lt_of_cell f0
   have HF := hidp hf
   clear hf hfA
   refine wpIn_region_SW wr.heap.size 12 (fun _ => false) (Nat.le_refl _) (by kernel_rfl) (by kernel_rfl) (by kernel_rfl) ?_
   dsimp only [List.take, List.drop]
   apply relS_det (mask := []) (x := .int .i64 j)
   ·rfl
   ·kernel_rfl
   ·kernel_rfl
   ·dsimp only [oblS]
    rintro w9 h9
    go_simp
    exact ⟨Below.refl _ _, rfl⟩
   dsimp only [naL, caL]
   apply relS_det (mask := [false])
   ·rfl
   ·kernel_rfl
   ·kernel_rfl
   ·dsimp only [oblS]
    rintro w9 h9
    go_simp
    exact ⟨Below.refl _ _, rfl⟩
   dsimp only [naL, caL]
   apply relS_det (mask := [false, true]) (x := .slice g.fA g.fn g.fc)
   ·rfl
   ·kernel_rfl
   ·kernel_rfl
   ·dsimp only [oblS]
    rintro w9 h9
    have hc9 := (bcell h9).1
    go_simp
    exact ⟨Below.refl _ _, rfl⟩
   dsimp only [naL, caL]
   apply relS_det (mask := [false, false, true]) (x := .int .i64 g.fn)
   ·rfl
   ·kernel_rfl
   ·kernel_rfl
   ·dsimp only [oblS]
    rintro w9 h9
    go_simp
    exact ⟨Below.refl _ _, rfl⟩
   dsimp only [naL, caL]
   apply relS_det (mask := [true, false, false, true]) (x := .bool true)
   ·rfl
   ·kernel_rfl
   ·kernel_rfl
   ·dsimp only [oblS]
    rintro w9 h9
    go_simp
    exact ⟨Below.refl _ _, rfl⟩
   dsimp only [naL, caL]
   apply relS_det (mask := [false, false, false, false, true]) (x := .bool true)
   ·rfl
   ·kernel_rfl
   ·kernel_rfl
   ·dsimp only [oblS]
    rintro w9 h9
    go_simp
    exact ⟨Below.refl _ _, rfl⟩
   dsimp only [naL, caL]
   apply relS_detg (mask := [false, false, false, false, false, true]) (t := 40) (want := true) (x := .func (.yield li) #[] #[])
   ·rfl
   ·kernel_rfl
   ·kernel_rfl
   ·dsimp only [oblS]
    refine ⟨by rfl, ?_⟩
    rintro w9 h9
    have hc9 := (bcell h9).1
    go_simp
    exact ⟨Below.refl _ _, rfl⟩
   dsimp only [naL, caL]
   apply relS_detg (mask := [false, false, false, false, false, true, false]) (t := 40) (want := true)
   ·rfl
   ·kernel_rfl
   ·kernel_rfl
   ·dsimp only [oblS]
    refine ⟨by rfl, ?_⟩
    rintro w9 h9
    go_simp
    exact ⟨Below.refl _ _, rfl⟩
   dsimp only [naL, caL]
   apply relS_detg (mask := [false, false, false, false, false, true, false, true]) (t := 40) (want := true) (x := .slice g.fA g.fn g.fc)
   ·rfl
   ·kernel_rfl
   ·kernel_rfl
   ·dsimp only [oblS]
    refine ⟨by rfl, ?_⟩
    rintro w9 h9
    have hc9 := (bcell h9).1
    go_simp
    exact ⟨Below.refl _ _, rfl⟩
   dsimp only [naL, caL]
   apply relS_detg (mask := [false, false, false, false, false, true, false, false, false]) (t := 40) (want := true) (x := .int .i64 j)
   ·rfl
   ·kernel_rfl
   ·kernel_rfl
   ·dsimp only [oblS]
    refine ⟨by rfl, ?_⟩
    rintro w9 h9
    go_simp
    exact ⟨Below.refl _ _, rfl⟩
   dsimp only [naL, caL]
   apply relS_detg (mask := [false, false, false, false, false, true, false, false, true, true]) (t := 40) (want := true) (x := .pointer (some ⟨bf, of + j * 8, none⟩))
   ·rfl
   ·kernel_rfl
   ·kernel_rfl
   ·dsimp only [oblS]
    refine ⟨by rfl, ?_⟩
    rintro w9 h9
    go_simp
    exact ⟨Below.refl _ _, rfl⟩
   dsimp only [naL, caL]
   apply relS_detg (mask := [false, false, false, false, false, true, false, false, false, false, true]) (t := 40) (want := true) (x := .agg #[.int .i64 f.key.kind, .int .i64 f.key.subj, .int .i64 f.key.obj, .int .i64 f.val, .int .i64 f.fr, .int .i64 f.to, .int .i64 f.known, .int .i64 f.no])
   ·rfl
   ·kernel_rfl
   ·kernel_rfl
   ·dsimp only [oblS]
    refine ⟨by rfl, ?_⟩
    rintro w9 h9
    have hc9 := (bcell h9).1
    go_simp
    exact ⟨Below.refl _ _, rfl⟩
   dsimp only [naL, caL]
   with_reducible refine relS_endG ?_ ?_
   ·kernel_rfl
   intro CC hCC
   dsimp only [finS]
   rintro w8 hb8
   have HS8 := hidp (HS9.out.own (kept_of_below (M := fun _ => False) hb8 fun b h1 h2 => by omega) (fun b h => h.elim) (HJ.out _))
   clear f0 f1 f2 f3 f4 f5 f6 f7 lf0 hixf y0 g0 g1 ly lg hb8
   obtain ⟨suf, hsuf⟩ := HSplit.out
   rw [HF.out] at hsuf
   have hsuf' : allT (psV s) q = (outT (psV s) q (pgV g) j ++ subT (psV s) q (pgV g) j) ++ f :: suf := by rw [hsuf]; simp
   have HNext : Hid (outT (psV s) q (pgV g) (j + 1) = outT (psV s) q (pgV g) j ++ subT (psV s) q (pgV g) j ++ [f]) := by
    show _ = _
    rw [outT_succ, show (pgV g).facts[j]? = some f from HF.out]; simp
   obtain ⟨fn', tm', asg, bd, hy, hR⟩ := HY.out 0 _ _ _ _ _ hsuf' HS8.out.j
   have HR := hidp hR
   have hy' : (Instr.yield li #[.agg #[.int .i64 f.key.kind, .int .i64 f.key.subj, .int .i64 f.key.obj, .int .i64 f.val, .int .i64 f.fr, .int .i64 f.to, .int .i64 f.known, .int .i64 f.no]]).run Tryz.prog w8 = .ok (.round li fn' tm' asg bd) w8 := hy
   clear hsuf hsuf' hR hy
   apply hCC
   go_simp
   gi_wp2_with fail
   refine ⟨rfl, HR.out.mono ?_⟩
   rintro e W3 ⟨C3, hk3, hC3, (⟨rfl, hJ3⟩ | ⟨rfl, hJx3⟩ | ⟨ch, rfl, hJp3⟩)⟩
   ·have HS3 : Hid (AllSt n₀ P A g li (J (outT (psV s) q (pgV g) (j + 1))) w W Ds C3 W3) := by
     show AllSt _ _ _ _ _ _ _ _ _ _ _
     rw [HNext.out]; exact HS8.out.round hk3 hC3 hJ3
    clear hk3 hC3 hJ3 hy' HR
    gi_wp2_with fail
    exact ⟨⟨j + 1, Ds, C3, _, _, _, _, _, _, _, _, _, _, _, _, _, _, _, _, _, _, _, _, _, _, _, _, _, _, _, _, _, _, _, _, _, _, _, _, by omega, HS3.out, rfl⟩, by simp [intOf]; omega⟩
   ·have HS3 : Hid (AllSt n₀ P A g li Jx w W Ds C3 W3) := HS8.out.round hk3 hC3 hJx3
    clear hk3 hC3 hJx3 hy' HR
    gi_wp2_with fail
    exact leave_marks (.inl rfl) HS3.out.marks rfl fun W' hz hk => ⟨.tuple #[], results_none rfl _ _ _, .inl ⟨⟨_, rfl⟩, C3, .inr (HJx.out _ _ _ HS3.out.j (hk.mono fun b _ hb => ⟨by have := (HS3.out.marks.2 b hb).1; omega, HS3.out.nm b hb⟩))⟩⟩
   ·have HS3 : Hid (AllSt n₀ P A g li (Jp ch) w W Ds C3 W3) := HS8.out.round hk3 hC3 hJp3
    clear hk3 hC3 hJp3 hy' HR
    exact panic_marks HS3.out.marks rfl fun W' hz hk => .inr ⟨ch, rfl, C3, HJp.out _ _ _ _ HS3.out.j (hk.mono fun b _ hb => ⟨by have := (HS3.out.marks.2 b hb).1; omega, HS3.out.nm b hb⟩)⟩
  have hjf' : ¬ ((j : Int) < g.fn) := by omega
  have HSe : Hid (AllSt n₀ P A g li (J (outT (psV s) q (pgV g) (j + 1))) w W Ds C1 wr) := by
   show AllSt _ _ _ _ _ _ _ _ _ _ _
   rw [outT_succ, show (pgV g).facts[j]? = none from List.getElem?_eq_none (by show g.facts.length ≤ j; have := HFn.out; omega), Option.toList_none, List.append_nil]; exact HS9.out
  have hjd : decide (j < g.fn) = false := by simp; omega
  clear hjf hjf'
  gi_wp2_with fail
  refine wpIn_region_SW wr.heap.size 15 (fun _ => false) (Nat.le_refl _) (by kernel_rfl) (by kernel_rfl) (by kernel_rfl) ?_
  dsimp only [List.take, List.drop]
  apply relS_det (mask := []) (x := .int .i64 j)
  ·rfl
  ·kernel_rfl
  ·kernel_rfl
  ·dsimp only [oblS]
   rintro w9 h9
   go_simp
   exact ⟨Below.refl _ _, rfl⟩
  dsimp only [naL, caL]
  apply relS_det (mask := [false])
  ·rfl
  ·kernel_rfl
  ·kernel_rfl
  ·dsimp only [oblS]
   rintro w9 h9
   go_simp
   exact ⟨Below.refl _ _, rfl⟩
  dsimp only [naL, caL]
  apply relS_det (mask := [false, true]) (x := .slice g.fA g.fn g.fc)
  ·rfl
  ·kernel_rfl
  ·kernel_rfl
  ·dsimp only [oblS]
   rintro w9 h9
   have hc9 := (bcell h9).1
   go_simp
   exact ⟨Below.refl _ _, rfl⟩
  dsimp only [naL, caL]
  apply relS_det (mask := [false, false, true]) (x := .int .i64 g.fn)
  ·rfl
  ·kernel_rfl
  ·kernel_rfl
  ·dsimp only [oblS]
   rintro w9 h9
   go_simp
   exact ⟨Below.refl _ _, rfl⟩
  dsimp only [naL, caL]
  apply relS_det (mask := [true, false, false, true]) (x := .bool false)
  ·rfl
  ·kernel_rfl
  ·kernel_rfl
  ·dsimp only [oblS]
   rintro w9 h9
   go_simp
   exact ⟨Below.refl _ _, rfl⟩
  dsimp only [naL, caL]
  apply relS_det (mask := [false, false, false, false, true]) (x := .bool false)
  ·rfl
  ·kernel_rfl
  ·kernel_rfl
  ·dsimp only [oblS]
   rintro w9 h9
   go_simp
   exact ⟨Below.refl _ _, rfl⟩
  dsimp only [naL, caL]
  apply relS_not (mask := [false, false, false, false, false, true]) (t := 40) (want := true) (hf := by rfl) (hg := by kernel_rfl) (hm := by kernel_rfl)
  ·rfl
  dsimp only [naL, caL]
  apply relS_not (mask := [false, false, false, false, false, true, false]) (t := 40) (want := true) (hf := by rfl) (hg := by kernel_rfl) (hm := by kernel_rfl)
  ·rfl
  dsimp only [naL, caL]
  apply relS_not (mask := [false, false, false, false, false, true, false, true]) (t := 40) (want := true) (hf := by rfl) (hg := by kernel_rfl) (hm := by kernel_rfl)
  ·rfl
  dsimp only [naL, caL]
  apply relS_not (mask := [false, false, false, false, false, true, false, false, false]) (t := 40) (want := true) (hf := by rfl) (hg := by kernel_rfl) (hm := by kernel_rfl)
  ·rfl
  dsimp only [naL, caL]
  apply relS_not (mask := [false, false, false, false, false, true, false, false, true, true]) (t := 40) (want := true) (hf := by rfl) (hg := by kernel_rfl) (hm := by kernel_rfl)
  ·rfl
  dsimp only [naL, caL]
  apply relS_not (mask := [false, false, false, false, false, true, false, false, false, false, true]) (t := 40) (want := true) (hf := by rfl) (hg := by kernel_rfl) (hm := by kernel_rfl)
  ·rfl
  dsimp only [naL, caL]
  apply relS_not (mask := [false, false, false, false, false, true, true, false, false, false, false, true]) (t := 40) (want := true) (hf := by rfl) (hg := by kernel_rfl) (hm := by kernel_rfl)
  ·rfl
  dsimp only [naL, caL]
  apply relS_not (mask := [false, false, false, false, false, true, false, false, false, false, false, false, true]) (t := 40) (want := true) (hf := by rfl) (hg := by kernel_rfl) (hm := by kernel_rfl)
  ·rfl
  dsimp only [naL, caL]
  apply relS_det (mask := [false, false, false, false, false, true, false, false, false, false, false, false, false, true]) (x := .bool false)
  ·rfl
  ·kernel_rfl
  ·kernel_rfl
  ·dsimp only [oblS]
   rintro w9 h9
   go_simp
   exact ⟨Below.refl _ _, rfl⟩
  dsimp only [naL, caL]
  with_reducible refine relS_endG ?_ ?_
  ·kernel_rfl
  intro CC hCC
  dsimp only [finS]
  intro w8 hb8
  have HS8 := hidp (HSe.out.own (kept_of_below (M := fun _ => False) hb8 fun b h1 h2 => by omega) (fun b h => h.elim) (HJ.out _))
  clear y0 g0 g1 ly lg hb8
  apply hCC
  go_simp
  gi_wp2_with fail
  exact ⟨⟨j + 1, Ds, C1, _, _, _, _, _, _, _, _, _, _, _, _, _, _, _, _, _, _, _, _, _, _, _, _, _, _, _, _, _, _, _, _, _, _, _, _, by omega, HS8.out, rfl⟩, by simp [intOf]; omega⟩
 ·obtain ⟨kn, hkj, hkq, hok⟩ := hkid j (by rw [hkl]; show j < g.facts.length + 1; have := HFn.out; omega)
  have hkl' : g.kids.length = g.facts.length + 1 := hkl
  have hgt : decide (0 < g.kn) = true := by simp; have := HKn.out; omega
  have hjk : j < g.kn := by have := HKn.out; have := HFn.out; omega
  obtain ⟨bk, ok, kid, hkA, _, hkd2, k0⟩ := iSl.get ((HPs.out wr fun b hb => (HSt.out.st.reads b (.inl hb)).2.1).each g (List.mem_of_getElem? HGg.out)).2 hjk
  obtain rfl : kid = (kn : Int) := Option.some.inj (hkd2.symm.trans hkj)
  have hixk := fun W => ix_intsP (c := g.kc) hkA hjk W
  have lk0 := lt_of_cell k0
  have HSub : Hid (subT (psV s) q (pgV g) j = allT (psV s) kn) := subT_kid hkj hkq
  have hPr := HSt.out.st.reads P (.inr (.inl rfl))
  have gp := hPr.2.1.trans HPw.out
  have p0 := cell_of_heap (o := 0) gp
  have p1 := cell_of_heap (o := 1) gp
  have lp := lt_of_heap gp
  simp only [List.getElem?_toArray, List.getElem?_cons_zero, List.getElem?_cons_succ] at p0 p1
  have HSz : Hid (n₀ ≤ wr.heap.size ∧ W.heap.size + 2 ≤ wr.heap.size) := ⟨by omega, by omega⟩
  have HOk := hidp hok
  have HKq := hidp hkq
  clear hkj hok hkA hkd2 hPr gp hkid hkl hkl' hkq
  gi_wp2_with fail
  refine wpIn_region_SW wr.heap.size 7 (fun _ => false) (Nat.le_refl _) (by kernel_rfl) (by kernel_rfl) (by kernel_rfl) ?_
  dsimp only [List.take, List.drop]
  apply relS_det (mask := []) (x := .agg #[.slice s.pA s.pn s.pc, .slice s.rA s.rn s.rc])
  ·rfl
  ·kernel_rfl
  ·kernel_rfl
  ·dsimp only [oblS]
   rintro w9 h9
   have hc9 := (bcell h9).1
   go_simp
   exact ⟨Below.refl _ _, rfl⟩
  dsimp only [naL, caL]
  apply relS_det (mask := [false])
  ·rfl
  ·kernel_rfl
  ·kernel_rfl
  ·dsimp only [oblS]
   rintro w9 h9
   go_simp
   exact ⟨Below.refl _ _, rfl⟩
  dsimp only [naL, caL]
  apply relS_det (mask := [false, true]) (x := .slice g.kA g.kn g.kc)
  ·rfl
  ·kernel_rfl
  ·kernel_rfl
  ·dsimp only [oblS]
   rintro w9 h9
   have hc9 := (bcell h9).1
   go_simp
   exact ⟨Below.refl _ _, rfl⟩
  dsimp only [naL, caL]
  apply relS_det (mask := [false, false, false]) (x := .int .i64 j)
  ·rfl
  ·kernel_rfl
  ·kernel_rfl
  ·dsimp only [oblS]
   rintro w9 h9
   go_simp
   exact ⟨Below.refl _ _, rfl⟩
  dsimp only [naL, caL]
  apply relS_det (mask := [false, false, true, true]) (x := .pointer (some ⟨bk, ok + j, none⟩))
  ·rfl
  ·kernel_rfl
  ·kernel_rfl
  ·dsimp only [oblS]
   rintro w9 h9
   go_simp
   exact ⟨Below.refl _ _, rfl⟩
  dsimp only [naL, caL]
  apply relS_det (mask := [false, false, false, false, true]) (x := .int .i64 (kn : Nat))
  ·rfl
  ·kernel_rfl
  ·kernel_rfl
  ·dsimp only [oblS]
   rintro w9 h9
   have hc9 := (bcell h9).1
   go_simp
   exact ⟨Below.refl _ _, rfl⟩
  dsimp only [naL, caL]
  apply relS_any (mask := [true, false, false, false, false, true]) (T := fun v W' => ∃ P2 A2, v = .func (.func 85) #[] #[.pointer (some ⟨P2, 0, none⟩), .pointer (some ⟨A2, 0, none⟩)] ∧ wr.heap.size ≤ P2 ∧ wr.heap.size ≤ A2 ∧ W'.heap[P2]? = some (.cells #[.slice s.pA s.pn s.pc, .slice s.rA s.rn s.rc] 45 (0, 0)) ∧ W'.heap[A2]? = some (.cells #[.int .i64 (kn : Nat)] 3 (0, 0))) (hT := fun v w w' hb ⟨P2, A2, e, h1, h2, h3, h4⟩ => ⟨P2, A2, e, h1, h2, (hb.block _ (lt_of_heap h3)).trans h3, (hb.block _ (lt_of_heap h4)).trans h4⟩)
  ·rfl
  ·kernel_rfl
  ·kernel_rfl
  ·dsimp only [oblS]
   rintro w9 h9 T' hT'
   go_simp
   refine (pgall_any s kn w9).mono ?_
   rintro e w7 ⟨rfl, h1, h2, hb7⟩
   exact ⟨_, rfl, hb7, hT' _ _ ⟨_, _, rfl, h9.size, by have := h9.size; omega, h1, h2⟩⟩
  dsimp only [naL, caL]
  with_reducible refine relS_endG ?_ ?_
  ·kernel_rfl
  intro CC hCC
  dsimp only [finS]
  rintro v29 w6 ⟨hb6, P2, A2, rfl, hP2, hA2, gp2, ga2⟩
  have hbs := hb6.size
  have HS6 := hidp (HSt.out.own (kept_of_below (M := fun _ => False) hb6 fun b h1 h2 => by omega) (fun b h => h.elim) (HJ.out _))
  have HSeq := hidp (HIH.out kn (by have := HKq.out; omega) HOk.out P2 A2 w6 (by have := HSz.out.1; omega) (by have := HSz.out.1; omega) gp2 ga2 (HPs.out w6 fun b hb => (HS6.out.st.reads b (.inl hb)).2.1) HSm.out)
  have hl2 := lt_of_heap gp2
  have ha2 := lt_of_heap ga2
  have HOwn : Hid (∀ (J' : (Nat → Prop) → World → Prop) (hJ' : ∀ C1 W1 W2, J' C1 W1 → Kept (fun b => W.heap.size ≤ b ∧ ¬ C1 b) W1 W2 → J' C1 W2) C' W1 W2, AllSt n₀ P A g li J' w W Ds C' W1 → Kept (fun b => w6.heap.size ≤ b ∧ ¬ C' b) W1 W2 → AllSt n₀ P A g li J' w W Ds C' W2) :=
   fun J' hJ' C' W1 W2 h hk => h.own hk (fun b hb => ⟨by have := hb.1; have := HSz.out.2; omega, hb.2, fun hD => by have := HS6.out.marks.lt b hD; have := hb.1; omega⟩) hJ'
  have hw6 : W.heap.size + 2 ≤ w6.heap.size := by have := HSz.out.2; omega
  clear y0 g0 g1 ly lg p0 p1 lp k0 lk0 hixk hb6 gp2 ga2
  apply hCC
  go_simp
  gi_wp2_with fail
  refine wpIn_wide.2 (wp_rangeP (gf := 85) (lb := #[.pointer (some ⟨P2, 0, none⟩), .pointer (some ⟨A2, 0, none⟩)]) rfl (enters_of Tryz.func85 (by kernel_rfl) rfl) HSeq.out C1 ?S (fun _ => rfl) ?CC
   (fun pre C' W' => AllSt n₀ P A g li (J (outT (psV s) q (pgV g) j ++ pre)) w W Ds C' W')
   (fun c C' W' => c = .ret ∧ AllSt n₀ P A g li Jx w W Ds C' W')
   (fun ch C' W' => AllSt n₀ P A g li (Jp ch) w W Ds C' W')
   ?hI ?hIx ?h0
   (fun ll pre x C' a' W' => ∃ B6, AllSt n₀ P A g li (J (outT (psV s) q (pgV g) j ++ pre)) w W Ds C' W' ∧ B6 ≠ ll ∧ w6.heap.size ≤ B6 ∧ ¬ C' B6 ∧ W'.heap[B6]? = some (.cells #[.int .i64 x.key.kind, .int .i64 x.key.subj, .int .i64 x.key.obj, .int .i64 x.val, .int .i64 x.fr, .int .i64 x.to, .int .i64 x.known, .int .i64 x.no] 54 (0, 0)) ∧ a' = { tmps := #[.func (.yield li) #[] #[], .pointer (some ⟨P, 0, none⟩), .pointer (some ⟨A, 0, none⟩), .pointer (some ⟨W.heap.size, 0, none⟩), .pointer (some ⟨W.heap.size + 1, 0, none⟩), .int .i64 j, .pointer (some ⟨B6, 0, none⟩), .pointer (some ⟨P, 0, none⟩), .slice s.pA s.pn s.pc, .int .i64 q, .pointer (some ⟨bp, op + q * 2, none⟩), .agg #[.slice g.fA g.fn g.fc, .slice g.kA g.kn g.kc], .pointer (some ⟨W.heap.size + 1, 0, none⟩), .slice g.fA g.fn g.fc, .int .i64 g.fn, .int .i64 ((g.fn : Int) + 1), .int .i64 j, .bool true, .int .i64 j, .pointer (some ⟨W.heap.size + 1, 1, none⟩), .slice g.kA g.kn g.kc, .int .i64 g.kn, .bool true, .agg #[.slice s.pA s.pn s.pc, .slice s.rA s.rn s.rc], .pointer (some ⟨W.heap.size + 1, 1, none⟩), .slice g.kA g.kn g.kc, .int .i64 j, .pointer (some ⟨bk, ok + j, none⟩), .int .i64 kn, .func (.func 85) #[] #[.pointer (some ⟨P2, 0, none⟩), .pointer (some ⟨A2, 0, none⟩)], .agg #[.int .i64 x.key.kind, .int .i64 x.key.subj, .int .i64 x.key.obj, .int .i64 x.val, .int .i64 x.fr, .int .i64 x.to, .int .i64 x.known, .int .i64 x.no], v31, v32, v33, v34, v35, v36, v37, v38, v39, v40, v41, v42, v43, v44, v45, v46, v47, v48, v49, v50], defers := [] })
   ?hIp ⟨?hAx, ?assign, ?body⟩ ?done ?stop ?panic)
  case S =>
   rintro b (hb | rfl | rfl)
   ·have := HS6.out.st.reads b (.inl hb)
    exact ⟨by have := HSz.out.1; omega, rfl, this.2.2⟩
   ·exact ⟨hl2, rfl, fun h => by have := HSt.out.st.lt _ h; omega⟩
   ·exact ⟨ha2, rfl, fun h => by have := HSt.out.st.lt _ h; omega⟩
  case CC => exact fun b hb => HS6.out.st.lt b hb
  case hI => exact fun pre C' W1 W2 h hk => HOwn.out _ (HJ.out _) C' W1 W2 h hk
  case hIx => exact fun c C' W1 W2 ⟨h1, h2⟩ hk => ⟨h1, HOwn.out _ HJx.out C' W1 W2 h2 hk⟩
  case h0 =>
   show AllSt _ _ _ _ _ _ _ _ _ _ _
   rw [List.append_nil]; exact HS6.out
  case hIp => exact fun ch C' W1 W2 h hk => HOwn.out _ (HJp.out ch) C' W1 W2 h hk
  case hAx =>
   rintro ll pre x C' a' W2 W3 hll hnl ⟨B6, h1, h2, h3, h4, h5, rfl⟩ _ hk
   exact ⟨B6, HOwn.out _ (HJ.out _) C' W2 W3 h1 (hk.mono fun b _ hb => by subst hb; exact ⟨hll, hnl⟩), h2, h3, h4, (hk.block _ (lt_of_heap h5) h2).trans h5, rfl⟩
  case assign =>
   rintro ll m pre x suf C' W1 K hll hlt hnl _ h hC' hK
   have H1 := hidp h
   have hs1 := Nat.le_trans hll (Nat.le_of_lt hlt)
   clear h
   simp only [fArgs]
   gi_wp2
   exact hK _ _ ((Kept.refl _ _).alloc _) ⟨W1.heap.size, H1.out.own (M := fun _ => False) ((Kept.refl _ _).alloc _) (fun b h => h.elim) (HJ.out _), by omega, by omega, fun hb => by have := hC' _ hb; omega, World.alloc_heap_new _ _, rfl⟩
  case body =>
   rintro ll m pre x suf C' a' W2 hll hnl hxs ⟨B6, h, hne, hB6, hnB, hg6, rfl⟩ _ hC'
   obtain ⟨sf, hsf⟩ := HSplit.out
   rw [HSub.out, hxs] at hsf
   have hsp : allT (psV s) q = (outT (psV s) q (pgV g) j ++ pre) ++ x :: (suf ++ (g.facts[j]?.toList ++ sf)) := by rw [hsf]; simp
   obtain ⟨fn', tm', asg, bd, hy, hR⟩ := HY.out (m - 1) _ _ _ C' W2 hsp h.j
   have HR : Hid (RoundIn (Fence.wide.inRound ll) (m - 1) Tryz.prog li fn' tm' asg bd W2 _) := hR
   have hy' : (Instr.yield li #[.agg #[.int .i64 x.key.kind, .int .i64 x.key.subj, .int .i64 x.key.obj, .int .i64 x.val, .int .i64 x.fr, .int .i64 x.to, .int .i64 x.known, .int .i64 x.no]]).run Tryz.prog W2 = .ok (.round li fn' tm' asg bd) W2 := hy
   have HS2 := hidp h
   obtain ⟨y0, g0, g1, ly, lg⟩ := h.cells
   have f0 := cell_of_heap (o := 0) hg6
   have f1 := cell_of_heap (o := 1) hg6
   have f2 := cell_of_heap (o := 2) hg6
   have f3 := cell_of_heap (o := 3) hg6
   have f4 := cell_of_heap (o := 4) hg6
   have f5 := cell_of_heap (o := 5) hg6
   have f6 := cell_of_heap (o := 6) hg6
   have f7 := cell_of_heap (o := 7) hg6
   have lf6 := lt_of_heap hg6
   simp only [List.getElem?_toArray, List.getElem?_cons_zero, List.getElem?_cons_succ] at f0 f1 f2 f3 f4 f5 f6 f7
   clear hsf hsp hR hy h hxs hg6
   refine wpK_block (wpK_seq (wpK_region_lit ?_))
   gi_wp2_with fail
   refine ⟨fun h => by simp [Fence.wide] at h, HR.out.mono ?_⟩
   rintro e W3 ⟨C3, hk3, hC3, (⟨rfl, hJ3⟩ | ⟨rfl, hJx3⟩ | ⟨ch, rfl, hJp3⟩)⟩
   ·have HS3 : Hid (AllSt n₀ P A g li (J (outT (psV s) q (pgV g) j ++ (pre ++ [x]))) w W Ds C3 W3) := by
     show AllSt _ _ _ _ _ _ _ _ _ _ _
     rw [← List.append_assoc]; exact HS2.out.round hk3 hC3 hJ3
    have HK3 := hidp hk3
    have HC3 := hidp hC3
    clear hk3 hC3 hJ3 hy' HR
    gi_wp2_with fail
    refine wpK_cond (t := false) rfl (wpK_quiet ?_)
    simp only [Bool.false_eq_true, if_false]
    exact wpIn_skip ⟨(fun ch he => by cases he), C3, HK3.out, HC3.out, HS3.out⟩
   ·have HS3 : Hid (AllSt n₀ P A g li Jx w W Ds C3 W3) := HS2.out.round hk3 hC3 hJx3
    have HK3 := hidp hk3
    have HC3 := hidp hC3
    clear hk3 hC3 hJx3 hy' HR
    gi_wp2_with fail
    refine wpK_cond (t := true) rfl (wpK_quiet ?_)
    simp only [if_true]
    exact wpIn_ret ⟨(fun ch he => by cases he), C3, HK3.out, HC3.out, rfl, HS3.out⟩
   ·exact ⟨rfl, C3, hk3, hC3, HS2.out.round hk3 hC3 hJp3⟩
  case stop =>
   rintro D c C7 w7 hD hlt hnD ⟨rfl, h⟩ hm
   have HS7 := hidp (h.mark (by omega) hm hnD fun hd => by have := HS6.out.marks.lt D hd; omega)
   exact wp_ret (leave_marks (.inl rfl) HS7.out.marks rfl fun W' hz hk => ⟨.tuple #[], results_none rfl _ _ _, .inl ⟨⟨_, rfl⟩, C7, .inr (HJx.out _ _ _ HS7.out.j (hk.mono fun b _ hb => ⟨by have := (HS7.out.marks.2 b hb).1; omega, HS7.out.nm b hb⟩))⟩⟩)
  case panic =>
   rintro D ch C7 w7 hD hlt hnD h hm
   have HS7 := hidp (h.mark (by omega) hm hnD fun hd => by have := HS6.out.marks.lt D hd; omega)
   exact panic_marks HS7.out.marks rfl fun W' hz hk => .inr ⟨ch, rfl, C7, HJp.out _ _ _ _ HS7.out.j (hk.mono fun b _ hb => ⟨by have := (HS7.out.marks.2 b hb).1; omega, HS7.out.nm b hb⟩)⟩
  case done =>
   rintro D C7 w7 hD hlt hnD h hm
   have HS9 : Hid (AllSt n₀ P A g li (J (outT (psV s) q (pgV g) j ++ subT (psV s) q (pgV g) j)) w W (D :: Ds) C7 w7) := by
    show AllSt _ _ _ _ _ _ _ _ _ _ _
    rw [HSub.out]; exact h.mark (by omega) hm hnD fun hd => by have := HS6.out.marks.lt D hd; omega
   obtain ⟨y0, g0, g1, ly, lg⟩ := HS9.out.cells
   clear h hm
   gi_wp2_with fail
   by_cases hjf : j < g.fn
   ·have hjf' : (j : Int) < g.fn := by omega
    obtain ⟨bf, of, f, hfA, _, hf, f0, f1, f2, f3, f4, f5, f6, f7⟩ := fSl.get ((HPs.out w7 fun b hb => (HS9.out.st.reads b (.inl hb)).2.1).each g (List.mem_of_getElem? HGg.out)).1 hjf
    have hixf := fun W => ix_FactsP (c := g.fc) hfA hjf W
    have lf0 := lt_of_cell f0
    have HF := hidp hf
    clear hf hfA
    refine wpIn_region_SW w7.heap.size 12 (fun _ => false) (Nat.le_refl _) (by kernel_rfl) (by kernel_rfl) (by kernel_rfl) ?_
    dsimp only [List.take, List.drop]
    apply relS_det (mask := []) (x := .int .i64 j)
    ·rfl
    ·kernel_rfl
    ·kernel_rfl
    ·dsimp only [oblS]
     rintro w9 h9
     go_simp
     exact ⟨Below.refl _ _, rfl⟩
    dsimp only [naL, caL]
    apply relS_det (mask := [false])
    ·rfl
    ·kernel_rfl
    ·kernel_rfl
    ·dsimp only [oblS]
     rintro w9 h9
     go_simp
     exact ⟨Below.refl _ _, rfl⟩
    dsimp only [naL, caL]
    apply relS_det (mask := [false, true]) (x := .slice g.fA g.fn g.fc)
    ·rfl
    ·kernel_rfl
    ·kernel_rfl
    ·dsimp only [oblS]
     rintro w9 h9
     have hc9 := (bcell h9).1
     go_simp
     exact ⟨Below.refl _ _, rfl⟩
    dsimp only [naL, caL]
    apply relS_det (mask := [false, false, true]) (x := .int .i64 g.fn)
    ·rfl
    ·kernel_rfl
    ·kernel_rfl
    ·dsimp only [oblS]
     rintro w9 h9
     go_simp
     exact ⟨Below.refl _ _, rfl⟩
    dsimp only [naL, caL]
    apply relS_det (mask := [true, false, false, true]) (x := .bool true)
    ·rfl
    ·kernel_rfl
    ·kernel_rfl
    ·dsimp only [oblS]
     rintro w9 h9
     go_simp
     exact ⟨Below.refl _ _, rfl⟩
    dsimp only [naL, caL]
    apply relS_det (mask := [false, false, false, false, true]) (x := .bool true)
    ·rfl
    ·kernel_rfl
    ·kernel_rfl
    ·dsimp only [oblS]
     rintro w9 h9
     go_simp
     exact ⟨Below.refl _ _, rfl⟩
    dsimp only [naL, caL]
    apply relS_detg (mask := [false, false, false, false, false, true]) (t := 40) (want := true) (x := .func (.yield li) #[] #[])
    ·rfl
    ·kernel_rfl
    ·kernel_rfl
    ·dsimp only [oblS]
     refine ⟨by rfl, ?_⟩
     rintro w9 h9
     have hc9 := (bcell h9).1
     go_simp
     exact ⟨Below.refl _ _, rfl⟩
    dsimp only [naL, caL]
    apply relS_detg (mask := [false, false, false, false, false, true, false]) (t := 40) (want := true)
    ·rfl
    ·kernel_rfl
    ·kernel_rfl
    ·dsimp only [oblS]
     refine ⟨by rfl, ?_⟩
     rintro w9 h9
     go_simp
     exact ⟨Below.refl _ _, rfl⟩
    dsimp only [naL, caL]
    apply relS_detg (mask := [false, false, false, false, false, true, false, true]) (t := 40) (want := true) (x := .slice g.fA g.fn g.fc)
    ·rfl
    ·kernel_rfl
    ·kernel_rfl
    ·dsimp only [oblS]
     refine ⟨by rfl, ?_⟩
     rintro w9 h9
     have hc9 := (bcell h9).1
     go_simp
     exact ⟨Below.refl _ _, rfl⟩
    dsimp only [naL, caL]
    apply relS_detg (mask := [false, false, false, false, false, true, false, false, false]) (t := 40) (want := true) (x := .int .i64 j)
    ·rfl
    ·kernel_rfl
    ·kernel_rfl
    ·dsimp only [oblS]
     refine ⟨by rfl, ?_⟩
     rintro w9 h9
     go_simp
     exact ⟨Below.refl _ _, rfl⟩
    dsimp only [naL, caL]
    apply relS_detg (mask := [false, false, false, false, false, true, false, false, true, true]) (t := 40) (want := true) (x := .pointer (some ⟨bf, of + j * 8, none⟩))
    ·rfl
    ·kernel_rfl
    ·kernel_rfl
    ·dsimp only [oblS]
     refine ⟨by rfl, ?_⟩
     rintro w9 h9
     go_simp
     exact ⟨Below.refl _ _, rfl⟩
    dsimp only [naL, caL]
    apply relS_detg (mask := [false, false, false, false, false, true, false, false, false, false, true]) (t := 40) (want := true) (x := .agg #[.int .i64 f.key.kind, .int .i64 f.key.subj, .int .i64 f.key.obj, .int .i64 f.val, .int .i64 f.fr, .int .i64 f.to, .int .i64 f.known, .int .i64 f.no])
    ·rfl
    ·kernel_rfl
    ·kernel_rfl
    ·dsimp only [oblS]
     refine ⟨by rfl, ?_⟩
     rintro w9 h9
     have hc9 := (bcell h9).1
     go_simp
     exact ⟨Below.refl _ _, rfl⟩
    dsimp only [naL, caL]
    with_reducible refine relS_endG ?_ ?_
    ·kernel_rfl
    intro CC hCC
    dsimp only [finS]
    rintro w8 hb8
    have HS8 := hidp (HS9.out.own (kept_of_below (M := fun _ => False) hb8 fun b h1 h2 => by omega) (fun b h => h.elim) (HJ.out _))
    clear f0 f1 f2 f3 f4 f5 f6 f7 lf0 hixf y0 g0 g1 ly lg hb8
    obtain ⟨suf, hsuf⟩ := HSplit.out
    rw [HF.out] at hsuf
    have hsuf' : allT (psV s) q = (outT (psV s) q (pgV g) j ++ subT (psV s) q (pgV g) j) ++ f :: suf := by rw [hsuf]; simp
    have HNext : Hid (outT (psV s) q (pgV g) (j + 1) = outT (psV s) q (pgV g) j ++ subT (psV s) q (pgV g) j ++ [f]) := by
     show _ = _
     rw [outT_succ, show (pgV g).facts[j]? = some f from HF.out]; simp
    obtain ⟨fn', tm', asg, bd, hy, hR⟩ := HY.out 0 _ _ _ _ _ hsuf' HS8.out.j
    have HR := hidp hR
    have hy' : (Instr.yield li #[.agg #[.int .i64 f.key.kind, .int .i64 f.key.subj, .int .i64 f.key.obj, .int .i64 f.val, .int .i64 f.fr, .int .i64 f.to, .int .i64 f.known, .int .i64 f.no]]).run Tryz.prog w8 = .ok (.round li fn' tm' asg bd) w8 := hy
    clear hsuf hsuf' hR hy
    apply hCC
    go_simp
    gi_wp2_with fail
    refine ⟨rfl, HR.out.mono ?_⟩
    rintro e W3 ⟨C3, hk3, hC3, (⟨rfl, hJ3⟩ | ⟨rfl, hJx3⟩ | ⟨ch, rfl, hJp3⟩)⟩
    ·have HS3 : Hid (AllSt n₀ P A g li (J (outT (psV s) q (pgV g) (j + 1))) w W (D :: Ds) C3 W3) := by
      show AllSt _ _ _ _ _ _ _ _ _ _ _
      rw [HNext.out]; exact HS8.out.round hk3 hC3 hJ3
     clear hk3 hC3 hJ3 hy' HR
     gi_wp2_with fail
     exact ⟨⟨j + 1, (D :: Ds), C3, _, _, _, _, _, _, _, _, _, _, _, _, _, _, _, _, _, _, _, _, _, _, _, _, _, _, _, _, _, _, _, _, _, _, _, _, by omega, HS3.out, rfl⟩, by simp [intOf]; omega⟩
    ·have HS3 : Hid (AllSt n₀ P A g li Jx w W (D :: Ds) C3 W3) := HS8.out.round hk3 hC3 hJx3
     clear hk3 hC3 hJx3 hy' HR
     gi_wp2_with fail
     exact leave_marks (.inl rfl) HS3.out.marks rfl fun W' hz hk => ⟨.tuple #[], results_none rfl _ _ _, .inl ⟨⟨_, rfl⟩, C3, .inr (HJx.out _ _ _ HS3.out.j (hk.mono fun b _ hb => ⟨by have := (HS3.out.marks.2 b hb).1; omega, HS3.out.nm b hb⟩))⟩⟩
    ·have HS3 : Hid (AllSt n₀ P A g li (Jp ch) w W (D :: Ds) C3 W3) := HS8.out.round hk3 hC3 hJp3
     clear hk3 hC3 hJp3 hy' HR
     exact panic_marks HS3.out.marks rfl fun W' hz hk => .inr ⟨ch, rfl, C3, HJp.out _ _ _ _ HS3.out.j (hk.mono fun b _ hb => ⟨by have := (HS3.out.marks.2 b hb).1; omega, HS3.out.nm b hb⟩)⟩
   have hjf' : ¬ ((j : Int) < g.fn) := by omega
   have HSe : Hid (AllSt n₀ P A g li (J (outT (psV s) q (pgV g) (j + 1))) w W (D :: Ds) C7 w7) := by
    show AllSt _ _ _ _ _ _ _ _ _ _ _
    rw [outT_succ, show (pgV g).facts[j]? = none from List.getElem?_eq_none (by show g.facts.length ≤ j; have := HFn.out; omega), Option.toList_none, List.append_nil]; exact HS9.out
   have hjd : decide (j < g.fn) = false := by simp; omega
   clear hjf hjf'
   gi_wp2_with fail
   refine wpIn_region_SW w7.heap.size 15 (fun _ => false) (Nat.le_refl _) (by kernel_rfl) (by kernel_rfl) (by kernel_rfl) ?_
   dsimp only [List.take, List.drop]
   apply relS_det (mask := []) (x := .int .i64 j)
   ·rfl
   ·kernel_rfl
   ·kernel_rfl
   ·dsimp only [oblS]
    rintro w9 h9
    go_simp
    exact ⟨Below.refl _ _, rfl⟩
   dsimp only [naL, caL]
   apply relS_det (mask := [false])
   ·rfl
   ·kernel_rfl
   ·kernel_rfl
   ·dsimp only [oblS]
    rintro w9 h9
    go_simp
    exact ⟨Below.refl _ _, rfl⟩
   dsimp only [naL, caL]
   apply relS_det (mask := [false, true]) (x := .slice g.fA g.fn g.fc)
   ·rfl
   ·kernel_rfl
   ·kernel_rfl
   ·dsimp only [oblS]
    rintro w9 h9
    have hc9 := (bcell h9).1
    go_simp
    exact ⟨Below.refl _ _, rfl⟩
   dsimp only [naL, caL]
   apply relS_det (mask := [false, false, true]) (x := .int .i64 g.fn)
   ·rfl
   ·kernel_rfl
   ·kernel_rfl
   ·dsimp only [oblS]
    rintro w9 h9
    go_simp
    exact ⟨Below.refl _ _, rfl⟩
   dsimp only [naL, caL]
   apply relS_det (mask := [true, false, false, true]) (x := .bool false)
   ·rfl
   ·kernel_rfl
   ·kernel_rfl
   ·dsimp only [oblS]
    rintro w9 h9
    go_simp
    exact ⟨Below.refl _ _, rfl⟩
   dsimp only [naL, caL]
   apply relS_det (mask := [false, false, false, false, true]) (x := .bool false)
   ·rfl
   ·kernel_rfl
   ·kernel_rfl
   ·dsimp only [oblS]
    rintro w9 h9
    go_simp
    exact ⟨Below.refl _ _, rfl⟩
   dsimp only [naL, caL]
   apply relS_not (mask := [false, false, false, false, false, true]) (t := 40) (want := true) (hf := by rfl) (hg := by kernel_rfl) (hm := by kernel_rfl)
   ·rfl
   dsimp only [naL, caL]
   apply relS_not (mask := [false, false, false, false, false, true, false]) (t := 40) (want := true) (hf := by rfl) (hg := by kernel_rfl) (hm := by kernel_rfl)
   ·rfl
   dsimp only [naL, caL]
   apply relS_not (mask := [false, false, false, false, false, true, false, true]) (t := 40) (want := true) (hf := by rfl) (hg := by kernel_rfl) (hm := by kernel_rfl)
   ·rfl
   dsimp only [naL, caL]
   apply relS_not (mask := [false, false, false, false, false, true, false, false, false]) (t := 40) (want := true) (hf := by rfl) (hg := by kernel_rfl) (hm := by kernel_rfl)
   ·rfl
   dsimp only [naL, caL]
   apply relS_not (mask := [false, false, false, false, false, true, false, false, true, true]) (t := 40) (want := true) (hf := by rfl) (hg := by kernel_rfl) (hm := by kernel_rfl)
   ·rfl
   dsimp only [naL, caL]
   apply relS_not (mask := [false, false, false, false, false, true, false, false, false, false, true]) (t := 40) (want := true) (hf := by rfl) (hg := by kernel_rfl) (hm := by kernel_rfl)
   ·rfl
   dsimp only [naL, caL]
   apply relS_not (mask := [false, false, false, false, false, true, true, false, false, false, false, true]) (t := 40) (want := true) (hf := by rfl) (hg := by kernel_rfl) (hm := by kernel_rfl)
   ·rfl
   dsimp only [naL, caL]
   apply relS_not (mask := [false, false, false, false, false, true, false, false, false, false, false, false, true]) (t := 40) (want := true) (hf := by rfl) (hg := by kernel_rfl) (hm := by kernel_rfl)
   ·rfl
   dsimp only [naL, caL]
   apply relS_det (mask := [false, false, false, false, false, true, false, false, false, false, false, false, false, true]) (x := .bool false)
   ·rfl
   ·kernel_rfl
   ·kernel_rfl
   ·dsimp only [oblS]
    rintro w9 h9
    go_simp
    exact ⟨Below.refl _ _, rfl⟩
   dsimp only [naL, caL]
   with_reducible refine relS_endG ?_ ?_
   ·kernel_rfl
   intro CC hCC
   dsimp only [finS]
   intro w8 hb8
   have HS8 := hidp (HSe.out.own (kept_of_below (M := fun _ => False) hb8 fun b h1 h2 => by omega) (fun b h => h.elim) (HJ.out _))
   clear y0 g0 g1 ly lg hb8
   apply hCC
   go_simp
   gi_wp2_with fail
   exact ⟨⟨j + 1, (D :: Ds), C7, _, _, _, _, _, _, _, _, _, _, _, _, _, _, _, _, _, _, _, _, _, _, _, _, _, _, _, _, _, _, _, _, _, _, _, _, by omega, HS8.out, rfl⟩, by simp [intOf]; omega⟩
end Go.Proofs.YtbegdcjofnfkiaaGreatDoor
