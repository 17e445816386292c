/- The reference's insert walked (printed by tools/gen156.py). -/
import Derived.Test.YtpnfpdkoeednhaaA47
namespace Go.Proofs.Ytpnfpdkoeednhaa
open Go.RowKit Go.Shelf

set_option maxRecDepth 100000 in
set_option maxHeartbeats 16000000 in
theorem r47insert_any (f : Fc) : ∀ (k q : Nat), q < k → ∀ (gs : List Pq) (rt : Bool) (d : Nat) (A : Option Addr) (n c : Nat) (w : World), pgSl w w.heap.size A n c gs → (∀ g ∈ gs, PgIn g w w.heap.size) → (∀ g ∈ gs, g.fn ≤ 1000000 ∧ g.kn ≤ 1000000) → Tr (gs.map pgV) rt q d → gs.length + 2 * (q + 1) ≤ 1000000 →
    Calls Try.prog 46 #[.slice A n c, .int .i64 q, .agg #[.int .i64 f.key.kind, .int .i64 f.key.subj, .int .i64 f.key.obj, .int .i64 f.val, .int .i64 f.fr, .int .i64 f.to, .int .i64 f.known, .int .i64 f.no]] w (InsRet gs f q w) := by
  obtain ⟨i0, hfi, hfz, hfs, hfb⟩ := info_parts fInfo
  obtain ⟨i1, hii, hiz, his, hib⟩ := info_parts iInfo
  obtain ⟨i2, hpi, hpz, hpss, hpb⟩ := info_parts pgInfoR
  intro k
  induction k with
  | zero => intro q hq; omega
  | succ k ih =>
  intro q hqk gs rt d A n c w hrows heach hslim hT hlim
  have HIH := hidp ih
  obtain ⟨n0, hn0⟩ : ∃ n, w.heap.size = n := ⟨_, rfl⟩
  have hlt := hT.lt
  rw [List.length_map] at hlt
  obtain ⟨g, hg⟩ : ∃ g, gs[q]? = some g := ⟨_, List.getElem?_eq_getElem hlt⟩
  have hgv : (gs.map pgV)[q]? = some (pgV g) := by rw [List.getElem?_map, hg]; rfl
  obtain ⟨g', hP⟩ := hT.pg
  obtain rfl : g' = pgV g := by have := hP.get; rw [hgv] at this; cases this; rfl
  obtain ⟨V, hV⟩ : ∃ V, w.alloc (.cells #[.int .i64 f.key.kind, .int .i64 f.key.subj, .int .i64 f.key.obj, .int .i64 f.val, .int .i64 f.fr, .int .i64 f.to, .int .i64 f.known, .int .i64 f.no] 31) = V := ⟨_, rfl⟩
  obtain ⟨W, hW⟩ : ∃ W, V.alloc (.cells #[.int .i64 0, .int .i64 0, .int .i64 0, .int .i64 0, .int .i64 0, .int .i64 0, .int .i64 0, .int .i64 0] 31) = W := ⟨_, rfl⟩
  have c0 : Below w.heap.size w V := hV ▸ (Below.refl _ w).alloc (Nat.le_refl _) _
  have c1 : Below V.heap.size V W := hW ▸ (Below.refl _ V).alloc (Nat.le_refl _) _
  have z0 : V.heap.size = n0 + 1 := by rw [← hV]; simp [hn0]
  have z1 : W.heap.size = n0 + 2 := by rw [← hW]; simp [z0]
  have g0 : W.heap[n0]? = some (.cells #[.int .i64 f.key.kind, .int .i64 f.key.subj, .int .i64 f.key.obj, .int .i64 f.val, .int .i64 f.fr, .int .i64 f.to, .int .i64 f.known, .int .i64 f.no] 31 (0, 0)) := (c1.block _ (by omega)).trans (by rw [← hV, ← hn0]; exact World.alloc_heap_new _ _)
  have g1 : W.heap[n0 + 1]? = some (.cells #[.int .i64 0, .int .i64 0, .int .i64 0, .int .i64 0, .int .i64 0, .int .i64 0, .int .i64 0, .int .i64 0] 31 (0, 0)) := by rw [← hW, ← z0]; exact World.alloc_heap_new _ _
  have cW := c0.trans (c1.mono c0.size)
  have HRows : Hid (∀ W', Below w.heap.size w W' → pgSl W' W'.heap.size A n c gs) := fun W' h => hrows.keep (Rep.flat_stable _) h.size h.block
  have HEach : Hid (∀ W', Below w.heap.size w W' → ∀ g ∈ gs, PgIn g W' W'.heap.size) := fun W' h g hg => (heach g hg).keep h.size h.block
  have HSl := hidp hslim
  have HLim := hidp hlim
  have HPg := hidp hP
  have HGg := hidp hg
  have HBW := hidp cW
  have HG0 := hidp g0
  have HG1 := hidp g1
  have HZ1 := hidp z1
  have HN0 := hidp hn0
  have hqn : q < n := by rw [hrows.1]; exact hlt
  have HNl := hidp hrows.1
  have hnc := hrows.2.1
  have hnc2 := hrows.2.2.1
  obtain ⟨pb, po, g', hpA, hpb', hg', e0, e1⟩ := pgSl.get (HRows.out W cW) hqn
  obtain rfl : g = g' := Option.some.inj (hg.symm.trans hg')
  have hixp : ∀ W, (Instr.indexAt 22 (.slice A n c) (.int .i64 q)).run Try.prog W = .ok (.pointer (some ⟨pb, po + q * 2, none⟩)) W := fun W => ix_Pages (c := c) hpA hqn W
  have lp := lt_of_cell e0
  have HPi : Hid (∀ W', Below w.heap.size w W' → PgIn g W' W'.heap.size) := fun W' h => HEach.out W' h g (List.mem_of_getElem? hg)
  have HFl := hidp (heach g (List.mem_of_getElem? hg)).1.1
  have HKl := hidp (heach g (List.mem_of_getElem? hg)).2.1
  have hf4 : g.fn ≤ 4 := by rw [HFl.out]; exact (pgOk_four hP.ok).1
  have hk5 : g.kn ≤ 5 := by
    rw [HKl.out]
    have h4 := (pgOk_four hP.ok).1
    rcases hP.kids with ⟨h, _⟩ | ⟨h, _⟩
    · rw [show g.kids = [] from h]; simp
    · have : (pgV g).kids.length = g.kids.length := rfl
      have : (pgV g).facts.length = g.facts.length := rfl
      omega
  clear ih hrows heach hslim hT hlim hgv hP c0 c1 cW g0 g1 hg hg' hpA hpb' hlt
  go_enter Try.func46, Try.ntmps46
  go_upto_region 1 with fail
  clear hV hW z0 z1
  refine wp_region_S W.heap.size 16 (fun _ => false) (Nat.le_refl _) (by kernel_rfl) (by kernel_rfl) (by kernel_rfl) ?_
  dsimp only [List.take, List.drop]
  apply relS_any (mask := []) (T := fun v W' => ∃ x, v = .slice (some ⟨x, 0, none⟩) 0 0 ∧ W'.ownsRow W.heap.size 31 8 v 0 []) (hT := fun v w w' hb ⟨x, e, h⟩ => ⟨x, e, own_keepB h fun g hg => hb.block g (h.lt g hg).2⟩)
  · rfl
  · kernel_rfl
  · kernel_rfl
  · dsimp only [oblS]
    rintro w9 h9 T' hT'
    go_simp
    exact ⟨(Below.refl _ w9).alloc (Nat.le_refl _) _, hT' _ _ ⟨_, rfl, own_emptyP w9 W.heap.size 8 31 h9.size⟩⟩
  dsimp only [List.nil_append, List.cons_append]
  apply relS_det (mask := [false])
  · rfl
  · kernel_rfl
  · kernel_rfl
  · dsimp only [oblS]
    rintro w9 h9
    go_simp
    exact ⟨Below.refl _ _, rfl⟩
  dsimp only [List.nil_append, List.cons_append]
  apply relS_det (mask := [false, false])
  · rfl
  · kernel_rfl
  · kernel_rfl
  · dsimp only [oblS]
    rintro w9 h9
    go_simp
    exact ⟨Below.refl _ _, rfl⟩
  dsimp only [List.nil_append, List.cons_append]
  apply relS_det (mask := [false, true, true])
  · rfl
  · kernel_rfl
  · kernel_rfl
  · dsimp only [oblS]
    rintro w9 h9
    go_simp
    exact ⟨Below.refl _ _, rfl⟩
  dsimp only [List.nil_append, List.cons_append]
  apply relS_det (mask := [false, false, false, true])
  · rfl
  · kernel_rfl
  · kernel_rfl
  · dsimp only [oblS]
    rintro w9 h9
    go_simp
    exact ⟨Below.refl _ _, rfl⟩
  dsimp only [List.nil_append, List.cons_append]
  apply relS_det (mask := [false, false, false, false, true]) (x := .slice g.fA g.fn g.fc)
  · rfl
  · kernel_rfl
  · kernel_rfl
  · dsimp only [oblS]
    rintro w9 h9
    have hc9 := (bcell h9).1
    go_simp
    exact ⟨Below.refl _ _, rfl⟩
  dsimp only [List.nil_append, List.cons_append]
  apply relS_any (mask := [true, false, false, false, false, true]) (T := fun v W' => W'.ownsRow W.heap.size 31 8 v g.fn (g.facts.flatMap fEnc)) (hT := fun v w w' hb h => own_keepB h fun g hg => hb.block g (h.lt g hg).2)
  · rfl
  · kernel_rfl
  · kernel_rfl
  · dsimp only [oblS]
    intro v26
    rintro w9 ⟨h9, t26⟩ T' hT'
    obtain ⟨x, ex, hx⟩ := t26
    subst ex
    obtain ⟨v', w', hrun, hown', hb'⟩ := run_append_fresh (P := Try.prog) (ty := 41) (enc := fEnc) (base := W.heap.size) Try.underlying41 hfi hfz hfs hfb rfl fEnc_len (by decide) fEnc_one hx ((HPi.out w9 (HBW.out.trans (h9.mono HBW.out.size))).1) (by omega) (by omega) h9.size
    exact relUpon_append (.tmp 26) (.tmp 31) 41 rfl rfl rfl hrun hb' (hT' _ _ hown')
  dsimp only [List.nil_append, List.cons_append]
  apply relS_any (mask := [false, false, false, false, false, false, false]) (T := fun v W' => ∃ x, v = .slice (some ⟨x, 0, none⟩) 0 0 ∧ W'.ownsRow W.heap.size 3 1 v 0 []) (hT := fun v w w' hb ⟨x, e, h⟩ => ⟨x, e, own_keepB h fun g hg => hb.block g (h.lt g hg).2⟩)
  · rfl
  · kernel_rfl
  · kernel_rfl
  · dsimp only [oblS]
    rintro w9 h9 T' hT'
    go_simp
    exact ⟨(Below.refl _ w9).alloc (Nat.le_refl _) _, hT' _ _ ⟨_, rfl, own_emptyP w9 W.heap.size 1 3 h9.size⟩⟩
  dsimp only [List.nil_append, List.cons_append]
  apply relS_det (mask := [false, false, false, false, false, false, false, false])
  · rfl
  · kernel_rfl
  · kernel_rfl
  · dsimp only [oblS]
    rintro w9 h9
    go_simp
    exact ⟨Below.refl _ _, rfl⟩
  dsimp only [List.nil_append, List.cons_append]
  apply relS_det (mask := [false, false, false, false, false, false, false, false, false])
  · rfl
  · kernel_rfl
  · kernel_rfl
  · dsimp only [oblS]
    rintro w9 h9
    go_simp
    exact ⟨Below.refl _ _, rfl⟩
  dsimp only [List.nil_append, List.cons_append]
  apply relS_det (mask := [false, false, false, false, false, false, false, false, true, true])
  · rfl
  · kernel_rfl
  · kernel_rfl
  · dsimp only [oblS]
    rintro w9 h9
    go_simp
    exact ⟨Below.refl _ _, rfl⟩
  dsimp only [List.nil_append, List.cons_append]
  apply relS_det (mask := [false, false, false, false, false, false, false, false, false, false, true])
  · rfl
  · kernel_rfl
  · kernel_rfl
  · dsimp only [oblS]
    rintro w9 h9
    go_simp
    exact ⟨Below.refl _ _, rfl⟩
  dsimp only [List.nil_append, List.cons_append]
  apply relS_det (mask := [false, false, false, false, false, false, false, false, false, false, false, true]) (x := .slice g.kA g.kn g.kc)
  · rfl
  · kernel_rfl
  · kernel_rfl
  · dsimp only [oblS]
    rintro w9 h9
    have hc9 := (bcell h9).1
    go_simp
    exact ⟨Below.refl _ _, rfl⟩
  dsimp only [List.nil_append, List.cons_append]
  apply relS_any (mask := [false, false, false, false, false, false, false, true, false, false, false, false, true]) (T := fun v W' => W'.ownsRow W.heap.size 3 1 v g.kn (g.kids.flatMap iEnc)) (hT := fun v w w' hb h => own_keepB h fun g hg => hb.block g (h.lt g hg).2)
  · rfl
  · kernel_rfl
  · kernel_rfl
  · dsimp only [oblS]
    intro v33
    rintro w9 ⟨h9, t33⟩ T' hT'
    obtain ⟨x, ex, hx⟩ := t33
    subst ex
    obtain ⟨v', w', hrun, hown', hb'⟩ := run_append_fresh (P := Try.prog) (ty := 23) (enc := iEnc) (base := W.heap.size) Try.underlying23 hii hiz his hib rfl iEnc_len (by decide) iEnc_one hx ((HPi.out w9 (HBW.out.trans (h9.mono HBW.out.size))).2) (by omega) (by omega) h9.size
    exact relUpon_append (.tmp 33) (.tmp 38) 23 rfl rfl rfl hrun hb' (hT' _ _ hown')
  dsimp only [List.nil_append, List.cons_append]
  apply relS_any (mask := [false, false, false, false, false, false, true, false, false, false, false, false, false, true]) (T := fun v W' => ∃ v1 v2, v = .agg #[v1, v2] ∧ W'.ownsRow W.heap.size 31 8 v1 g.fn (g.facts.flatMap fEnc) ∧ W'.ownsRow W.heap.size 3 1 v2 g.kn (g.kids.flatMap iEnc)) (hT := fun v w w' hb ⟨v1, v2, e, h1, h2⟩ => ⟨v1, v2, e, own_keepB h1 fun g hg => hb.block g (h1.lt g hg).2, own_keepB h2 fun g hg => hb.block g (h2.lt g hg).2⟩)
  · rfl
  · kernel_rfl
  · kernel_rfl
  · dsimp only [oblS]
    intro v32 v39
    rintro w9 ⟨⟨h9, t32⟩, t39⟩ T' hT'
    obtain ⟨A1, c1, e1, -⟩ := own_rows fEnc_len (by decide) t32
    obtain ⟨A2, c2, e2, -⟩ := own_rows iEnc_len (by decide) t39
    subst e1 e2
    go_simp
    exact ⟨Below.refl _ _, hT' _ _ ⟨_, _, rfl, t32, t39⟩⟩
  dsimp only [List.nil_append, List.cons_append]
  apply relS_any (mask := [false, false, false, false, false, false, false, false, false, false, false, false, false, false, false]) (T := fun v W' => ∃ X, v = .pointer (some ⟨X, 0, none⟩) ∧ W.heap.size ≤ X ∧ W'.heap[X]? = some (.cells #[.slice none 0 0, .slice none 0 0] 66 (0, 0))) (hT := fun v w w' hb ⟨X, e, h1, h2⟩ => ⟨X, e, h1, (hb.block _ (lt_of_heap h2)).trans h2⟩)
  · rfl
  · kernel_rfl
  · kernel_rfl
  · dsimp only [oblS]
    rintro w9 h9 T' hT'
    go_simp
    exact ⟨(Below.refl _ w9).alloc (Nat.le_refl _) _, hT' _ _ ⟨_, rfl, h9.size, World.alloc_heap_new w9 _⟩⟩
  dsimp only [List.nil_append, List.cons_append]
  refine relS_end (by rfl) ?_
  dsimp only [finS]
  rintro v26 v32 v33 v39 v40 v11 w8 ⟨⟨⟨⟨⟨⟨hb, t26⟩, t32⟩, t33⟩, t39⟩, t40⟩, t11⟩
  obtain ⟨v1, v2, e40, o1, o2⟩ := t40
  obtain ⟨X, e11, hX, hX8⟩ := t11
  obtain ⟨A1, c1, e1, hr1⟩ := own_rows fEnc_len (by decide) o1
  obtain ⟨A2, c2, e2, hr2⟩ := own_rows iEnc_len (by decide) o2
  subst e40 e11 e1 e2
  have u0 := lt_of_heap hX8
  have u3 := frozen_of_heap (o := 0) hX8
  have u4 := frozen_of_heap (o := 1) hX8
  have u1 := cell_of_heap (o := 0) hX8
  have u2 := cell_of_heap (o := 1) hX8
  simp only [List.getElem?_toArray, List.getElem?_cons_zero, List.getElem?_cons_succ] at u1 u2
  have hne1 : ∀ x, (Value.slice A1 g.fn c1).ownBlock = some x → x ≠ X := fun x e ex => by
    obtain ⟨cs, h⟩ := own_kindP o1 e
    rw [ex, hX8] at h
    injection h with h
    injection h with _ h
    exact absurd h (by decide)
  have hne2 : ∀ x, (Value.slice A2 g.kn c2).ownBlock = some x → x ≠ X := fun x e ex => by
    obtain ⟨cs, h⟩ := own_kindP o2 e
    rw [ex, hX8] at h
    injection h with h
    injection h with _ h
    exact absurd h (by decide)
  have HS1 : Hid (RiS f n0 X (.slice A1 g.fn c1) (.slice A2 g.kn c2) g.facts g.kids w ((w8.setCell ⟨X, 0, none⟩ (.slice A1 g.fn c1)).setCell ⟨X, 1, none⟩ (.slice A2 g.kn c2))) := by
    have hO : Only X w8 ((w8.setCell ⟨X, 0, none⟩ (.slice A1 g.fn c1)).setCell ⟨X, 1, none⟩ (.slice A2 g.kn c2)) := (Only.setCell _ _ _ _).trans (Only.setCell _ _ _ _)
    have hbx := heap_setN (heap_setN hX8 0 (.slice A1 g.fn c1)) 1 (.slice A2 g.kn c2)
    have hXn : n0 + 2 ≤ X := by have := HZ1.out; omega
    have hXw : w.heap.size ≤ X := by have := HN0.out; omega
    refine ⟨((HBW.out.trans (hb.mono HBW.out.size)).setCell (p := ⟨X, 0, none⟩) hXw _).setCell (p := ⟨X, 1, none⟩) hXw _, (hO.block _ (by omega)).trans ((hb.block _ (lt_of_heap HG0.out)).trans HG0.out), (hO.block _ (by omega)).trans ((hb.block _ (lt_of_heap HG1.out)).trans HG1.out), by simpa using hbx, ?_, ?_⟩
    · have h := own_keepB o1 fun x e => hO.block x (hne1 x e)
      rw [HZ1.out, HFl.out] at h
      rw [HFl.out]
      exact h
    · have h := own_keepB o2 fun x e => hO.block x (hne2 x e)
      rw [HZ1.out, HKl.out] at h
      rw [HKl.out]
      exact h
  have HXn : Hid (n0 + 2 ≤ X ∧ X < w8.heap.size) := ⟨by have := HZ1.out; omega, u0⟩
  clear t26 t32 t33 t39 o1 o2 hr1 hr2 hX hX8 hne1 hne2 hb e0 e1 lp hixp
  go_simp
  go_wp2_with fail
  clear u0 u1 u2 u3 u4
  go_loopw [12] (fun s12 wr => ∃ j : Nat, j ≤ g.fn ∧ s12 = .int .i64 j ∧ RiS f n0 X (.slice A1 g.fn c1) (.slice A2 g.kn c2) g.facts g.kids w wr ∧ ∀ (i : Nat) (x : Fc), i < j → g.facts[i]? = some x → ltP x f = true) (fun s12 _ => g.fn - (intOf s12).toNat)
  case atStart => exact ⟨0, by omega, rfl, HS1.out, fun i x h => by omega⟩
  case round =>
  obtain ⟨j, hj, rfl, hs, hall⟩ := hrel
  have HSr := hidp hs
  have HAll := hidp hall
  clear hs hall
  have hjlt : j < 9223372036854775807 := by omega
  obtain ⟨⟨x0, x1, x2⟩, f0, f1, f2, f3, f4, f5, f6, f7, f8⟩ := HSr.out.cells
  have hfo := HSr.out.fo
  rw [← HFl.out] at hfo
  obtain ⟨A1', c1', e1', hr1⟩ := own_rows fEnc_len (by decide) hfo
  cases e1'
  clear hfo
  go_upto_region 3 with fail
  go_cut [54] (fun s54 wx => ∃ b : Bool, s54 = .bool b ∧ Below wr.heap.size wr wx ∧ (b = true → j < g.fn ∧ ∀ x, g.facts[j]? = some x → ltP x f = true) ∧ (b = false → placeP g.facts f = j))
  case first =>
    by_cases hjn : j < g.fn
    · obtain ⟨yb, yo, y, hyA, _, hy, d0, d1, d2, d3, d4, d5, d6, d7⟩ := fSl.get hr1 hjn
      have hixy := fun W => ix_FactsP (c := c1) hyA hjn W
      have ly := lt_of_cell d0
      have hd : decide (j < g.fn) = true := decide_eq_true hjn
      have HY := hidp hy
      obtain ⟨lb, hlb⟩ : ∃ b, ltP y f = b := ⟨_, rfl⟩
      have HLb := hidp hlb
      have HJn := hidp hjn
      clear hy hyA hlb
      refine wp_region_S wr.heap.size 14 (fun _ => false) (Nat.le_refl _) (by kernel_rfl) (by kernel_rfl) (by kernel_rfl) ?_
      dsimp only [List.take, List.drop]
      apply relS_det (mask := [])
      · rfl
      · kernel_rfl
      · kernel_rfl
      · dsimp only [oblS]
        rintro w9 h9
        go_simp
        exact ⟨Below.refl _ _, rfl⟩
      dsimp only [List.nil_append, List.cons_append]
      apply relS_det (mask := [false])
      · rfl
      · kernel_rfl
      · kernel_rfl
      · dsimp only [oblS]
        rintro w9 h9
        go_simp
        exact ⟨Below.refl _ _, rfl⟩
      dsimp only [List.nil_append, List.cons_append]
      apply relS_det (mask := [false, true]) (x := .slice A1 g.fn c1)
      · rfl
      · kernel_rfl
      · kernel_rfl
      · dsimp only [oblS]
        rintro w9 h9
        have hc9 := (bcell h9).1
        go_simp
        exact ⟨Below.refl _ _, rfl⟩
      dsimp only [List.nil_append, List.cons_append]
      apply relS_det (mask := [false, false, true]) (x := .int .i64 (g.fn : Int))
      · rfl
      · kernel_rfl
      · kernel_rfl
      · dsimp only [oblS]
        rintro w9 h9
        go_simp
        exact ⟨Below.refl _ _, rfl⟩
      dsimp only [List.nil_append, List.cons_append]
      apply relS_det (mask := [true, false, false, true]) (x := .bool true)
      · rfl
      · kernel_rfl
      · kernel_rfl
      · dsimp only [oblS]
        rintro w9 h9
        go_simp
        exact ⟨Below.refl _ _, rfl⟩
      dsimp only [List.nil_append, List.cons_append]
      apply relS_det (mask := [false, false, false, false, true]) (x := .bool true)
      · rfl
      · kernel_rfl
      · kernel_rfl
      · dsimp only [oblS]
        rintro w9 h9
        go_simp
        exact ⟨Below.refl _ _, rfl⟩
      dsimp only [List.nil_append, List.cons_append]
      apply relS_detg (mask := [false, false, false, false, false, true]) (t := 46) (want := true)
      · rfl
      · kernel_rfl
      · kernel_rfl
      · dsimp only [oblS]
        refine ⟨by rfl, ?_⟩
        rintro w9 h9
        go_simp
        exact ⟨Below.refl _ _, rfl⟩
      dsimp only [List.nil_append, List.cons_append]
      apply relS_detg (mask := [false, false, false, false, false, true, true]) (t := 46) (want := true) (x := .slice A1 g.fn c1)
      · rfl
      · kernel_rfl
      · kernel_rfl
      · dsimp only [oblS]
        refine ⟨by rfl, ?_⟩
        rintro w9 h9
        have hc9 := (bcell h9).1
        go_simp
        exact ⟨Below.refl _ _, rfl⟩
      dsimp only [List.nil_append, List.cons_append]
      apply relS_detg (mask := [false, false, false, false, false, true, false, false]) (t := 46) (want := true)
      · rfl
      · kernel_rfl
      · kernel_rfl
      · dsimp only [oblS]
        refine ⟨by rfl, ?_⟩
        rintro w9 h9
        go_simp
        exact ⟨Below.refl _ _, rfl⟩
      dsimp only [List.nil_append, List.cons_append]
      apply relS_detg (mask := [false, false, false, false, false, true, false, true, true]) (t := 46) (want := true)
      · rfl
      · kernel_rfl
      · kernel_rfl
      · dsimp only [oblS]
        refine ⟨by rfl, ?_⟩
        rintro w9 h9
        go_simp
        exact ⟨Below.refl _ _, rfl⟩
      dsimp only [List.nil_append, List.cons_append]
      apply relS_detg (mask := [false, false, false, false, false, true, false, false, false, true]) (t := 46) (want := true) (x := .agg #[.int .i64 y.key.kind, .int .i64 y.key.subj, .int .i64 y.key.obj, .int .i64 y.val, .int .i64 y.fr, .int .i64 y.to, .int .i64 y.known, .int .i64 y.no])
      · rfl
      · kernel_rfl
      · kernel_rfl
      · dsimp only [oblS]
        refine ⟨by rfl, ?_⟩
        rintro w9 h9
        have hc9 := (bcell h9).1
        go_simp
        exact ⟨Below.refl _ _, rfl⟩
      dsimp only [List.nil_append, List.cons_append]
      apply relS_detg (mask := [false, false, false, false, false, true, false, false, false, false, false]) (t := 46) (want := true) (x := .agg #[.int .i64 f.key.kind, .int .i64 f.key.subj, .int .i64 f.key.obj, .int .i64 f.val, .int .i64 f.fr, .int .i64 f.to, .int .i64 f.known, .int .i64 f.no])
      · rfl
      · kernel_rfl
      · kernel_rfl
      · dsimp only [oblS]
        refine ⟨by rfl, ?_⟩
        rintro w9 h9
        have hc9 := (bcell h9).1
        go_simp
        exact ⟨Below.refl _ _, rfl⟩
      dsimp only [List.nil_append, List.cons_append]
      apply relS_detg (mask := [false, false, false, false, false, true, false, false, false, false, true, true]) (t := 46) (want := true) (x := .bool lb)
      · rfl
      · kernel_rfl
      · kernel_rfl
      · dsimp only [oblS]
        refine ⟨by rfl, ?_⟩
        rintro w9 h9
        have hc9 := (bcell h9).1
        go_simp
        refine (r47Before_any y f w9).mono ?_
        rintro e w1 ⟨rfl, hb⟩
        exact ⟨_, rfl, hb, by show _ = _; rw [HLb.out]⟩
      dsimp only [List.nil_append, List.cons_append]
      apply relS_det (mask := [false, false, false, false, false, true, false, false, false, false, false, false, true]) (x := .bool lb)
      · rfl
      · kernel_rfl
      · kernel_rfl
      · dsimp only [oblS]
        rintro w9 h9
        go_simp
        exact ⟨Below.refl _ _, rfl⟩
      dsimp only [List.nil_append, List.cons_append]
      refine relS_end (by rfl) ?_
      dsimp only [finS]
      rintro w7 hb7
      go_simp
      go_wp2_with fail
      go_meet
      refine ⟨lb, rfl, hb7, fun e => ⟨HJn.out, fun x hx => ?_⟩, fun e => ?_⟩
      · have := Option.some.inj (HY.out.symm.trans hx)
        rw [← this, HLb.out, e]
      · refine place_at HAll.out (fun x hx => ?_) (by have := HFl.out; have := HJn.out; omega)
        have := Option.some.inj (HY.out.symm.trans hx)
        rw [← this, HLb.out, e]
    · have hd : decide (j < g.fn) = false := decide_eq_false hjn
      have HJn := hidp hjn
      refine wp_region_S wr.heap.size 14 (fun _ => false) (Nat.le_refl _) (by kernel_rfl) (by kernel_rfl) (by kernel_rfl) ?_
      dsimp only [List.take, List.drop]
      apply relS_det (mask := [])
      · rfl
      · kernel_rfl
      · kernel_rfl
      · dsimp only [oblS]
        rintro w9 h9
        go_simp
        exact ⟨Below.refl _ _, rfl⟩
      dsimp only [List.nil_append, List.cons_append]
      apply relS_det (mask := [false])
      · rfl
      · kernel_rfl
      · kernel_rfl
      · dsimp only [oblS]
        rintro w9 h9
        go_simp
        exact ⟨Below.refl _ _, rfl⟩
      dsimp only [List.nil_append, List.cons_append]
      apply relS_det (mask := [false, true]) (x := .slice A1 g.fn c1)
      · rfl
      · kernel_rfl
      · kernel_rfl
      · dsimp only [oblS]
        rintro w9 h9
        have hc9 := (bcell h9).1
        go_simp
        exact ⟨Below.refl _ _, rfl⟩
      dsimp only [List.nil_append, List.cons_append]
      apply relS_det (mask := [false, false, true]) (x := .int .i64 (g.fn : Int))
      · rfl
      · kernel_rfl
      · kernel_rfl
      · dsimp only [oblS]
        rintro w9 h9
        go_simp
        exact ⟨Below.refl _ _, rfl⟩
      dsimp only [List.nil_append, List.cons_append]
      apply relS_det (mask := [true, false, false, true]) (x := .bool false)
      · rfl
      · kernel_rfl
      · kernel_rfl
      · dsimp only [oblS]
        rintro w9 h9
        go_simp
        exact ⟨Below.refl _ _, rfl⟩
      dsimp only [List.nil_append, List.cons_append]
      apply relS_det (mask := [false, false, false, false, true]) (x := .bool false)
      · rfl
      · kernel_rfl
      · kernel_rfl
      · dsimp only [oblS]
        rintro w9 h9
        go_simp
        exact ⟨Below.refl _ _, rfl⟩
      dsimp only [List.nil_append, List.cons_append]
      apply relS_not (mask := [false, false, false, false, false, true]) (t := 46) (want := true) (hf := by rfl) (hg := by kernel_rfl) (hm := by kernel_rfl)
      · rfl
      dsimp only [List.nil_append, List.cons_append]
      apply relS_not (mask := [false, false, false, false, false, true, true]) (t := 46) (want := true) (hf := by rfl) (hg := by kernel_rfl) (hm := by kernel_rfl)
      · rfl
      dsimp only [List.nil_append, List.cons_append]
      apply relS_not (mask := [false, false, false, false, false, true, false, false]) (t := 46) (want := true) (hf := by rfl) (hg := by kernel_rfl) (hm := by kernel_rfl)
      · rfl
      dsimp only [List.nil_append, List.cons_append]
      apply relS_not (mask := [false, false, false, false, false, true, false, true, true]) (t := 46) (want := true) (hf := by rfl) (hg := by kernel_rfl) (hm := by kernel_rfl)
      · rfl
      dsimp only [List.nil_append, List.cons_append]
      apply relS_not (mask := [false, false, false, false, false, true, false, false, false, true]) (t := 46) (want := true) (hf := by rfl) (hg := by kernel_rfl) (hm := by kernel_rfl)
      · rfl
      dsimp only [List.nil_append, List.cons_append]
      apply relS_not (mask := [false, false, false, false, false, true, false, false, false, false, false]) (t := 46) (want := true) (hf := by rfl) (hg := by kernel_rfl) (hm := by kernel_rfl)
      · rfl
      dsimp only [List.nil_append, List.cons_append]
      apply relS_not (mask := [false, false, false, false, false, true, false, false, false, false, true, true]) (t := 46) (want := true) (hf := by rfl) (hg := by kernel_rfl) (hm := by kernel_rfl)
      · rfl
      dsimp only [List.nil_append, List.cons_append]
      apply relS_det (mask := [false, false, false, false, false, true, false, false, false, false, false, false, true]) (x := .bool false)
      · rfl
      · kernel_rfl
      · kernel_rfl
      · dsimp only [oblS]
        rintro w9 h9
        go_simp
        exact ⟨Below.refl _ _, rfl⟩
      dsimp only [List.nil_append, List.cons_append]
      refine relS_end (by rfl) ?_
      dsimp only [finS]
      rintro w7 hb7
      go_simp
      go_wp2_with fail
      go_meet
      exact ⟨false, rfl, hb7, (fun e => by cases e), fun _ => place_at HAll.out (fun x hx => by rw [List.getElem?_eq_none (by have := HFl.out; have := HJn.out; omega)] at hx; cases hx) (by have := HFl.out; omega)⟩
  case rest =>
  obtain ⟨lb, rfl, hb7, hyes, hno⟩ := hcut
  rename World => w7
  have HS7 := hidp (HSr.out.later hb7)
  have HYes := hidp hyes
  have HNo := hidp hno
  clear hb7 hyes hno x0 x1 x2 f0 f1 f2 f3 f4 f5 f6 f7 f8 hr1
  have hwj : IntKind.i64.wrap ((j : Int) + 1) = (j : Int) + 1 := IntWalk.i64_in _ (by omega)
  cases lb
  case true =>
    go_wp2_with fail
    go_roundw
    case rel =>
      refine ⟨j + 1, by have := (HYes.out rfl).1; omega, by go_num, HS7.out, fun i x hi hx => ?_⟩
      by_cases hij : i < j
      · exact HAll.out i x hij hx
      · obtain rfl : i = j := by omega
        exact (HYes.out rfl).2 x hx
    case measure => have := (HYes.out rfl).1; simp [intOf]; omega
  have HPl : Hid (placeP g.facts f = j) := HNo.out rfl
  clear hwj
  obtain ⟨⟨x0, x1, x2⟩, f0, f1, f2, f3, f4, f5, f6, f7, f8⟩ := HS7.out.cells
  obtain ⟨M, hM⟩ : ∃ M, w7.heap.size = M := ⟨_, rfl⟩
  obtain ⟨W7, hW7⟩ : ∃ W, w7.alloc (.cells #[.int .i64 f.key.kind, .int .i64 f.key.subj, .int .i64 f.key.obj, .int .i64 f.val, .int .i64 f.fr, .int .i64 f.to, .int .i64 f.known, .int .i64 f.no] 31) = W := ⟨_, rfl⟩
  have c7 : Below w7.heap.size w7 W7 := hW7 ▸ (Below.refl _ w7).alloc (Nat.le_refl _) _
  have g7 : W7.heap[M]? = some (.cells #[.int .i64 f.key.kind, .int .i64 f.key.subj, .int .i64 f.key.obj, .int .i64 f.val, .int .i64 f.fr, .int .i64 f.to, .int .i64 f.known, .int .i64 f.no] 31 (0, 0)) := by rw [← hW7, ← hM]; exact World.alloc_heap_new _ _
  have HM0 : Hid (RiM f f n0 X M (.slice A1 g.fn c1) (.slice A2 g.kn c2) g.facts g.kids w W7) := ⟨HS7.out.later c7, g7, HXn.out.1, by have := lt_of_heap HS7.out.gb; omega, fun x e => by have := (HS7.out.fo.lt x e).2; omega, fun x e => by have := (HS7.out.ko.lt x e).2; omega⟩
  have HP0 : Hid (PgM gs n0 M A n c gs W7) := by
    have hb := HS7.out.below.trans (c7.mono HS7.out.below.size)
    refine ⟨HRows.out _ hb, HEach.out _ hb, HSl.out, fun g hg => .inl hg, fun g hg x hx => ?_, fun x off hn e => ?_⟩
    · have := PgBl.lt (HEach.out w (Below.refl _ _) g hg) hx
      have := HN0.out; omega
    · obtain ⟨b, off2, e2, hlt, _⟩ := (HRows.out w (Below.refl _ _)).2.2.2 hn
      rw [e] at e2; cases e2
      have := HN0.out; omega
  have HWM : Hid (w.heap.size ≤ M ∧ w.heap.size = n0 ∧ M < W7.heap.size) := ⟨by have := HS7.out.below.size; omega, HN0.out, lt_of_heap g7⟩
  clear c7 g7
  obtain ⟨⟨y0, y1, y2⟩, -⟩ := HM0.out.s.cells
  go_upto_if 61 with fail
  clear y0 y1 y2 x0 x1 x2 f0 f1 f2 f3 f4 f5 f6 f7 f8 hM hW7
  go_cut [0, 13, 15, 16, 17, 18, 19, 20] (fun s0 s13 s15 s16 s17 s18 s19 s20 wx => ∃ (A' : Option Addr) (n' c' : Nat) (gs' : List Pq) (K' : List Int) (gr : Bool) (mid : Fc) (sec : Nat) (u16 u17 u18 u19 u20 : Value), s0 = .slice A' n' c' ∧ s13 = .bool gr ∧ s15 = .int .i64 (sec : Nat) ∧ u16 = s16 ∧ u17 = s17 ∧ u18 = s18 ∧ u19 = s19 ∧ u20 = s20 ∧
    RiM f mid n0 X M (.slice A1 g.fn c1) (.slice A2 g.kn c2) g.facts K' w wx ∧ PgM gs n0 M A' n' c' gs' wx ∧ K'.length = g.kids.length ∧ n' ≤ gs.length + 2 * q ∧
    insW f (q + 1) (gs.map pgV) q = splitP (gs'.map pgV) ⟨if gr = true then insAt g.facts j mid else g.facts, if gr = true ∧ K' ≠ [] then insAt K' (j + 1) (sec : Int) else K'⟩)
  case first =>
    obtain ⟨⟨x0, x1, x2⟩, f0, f1, f2, f3, f4, f5, f6, f7, f8⟩ := HM0.out.s.cells
    by_cases hk0 : g.kn = 0
    · have hk0' : ¬ (0 < g.kn) := by omega
      have HK0 : Hid (g.kids = []) := List.eq_nil_of_length_eq_zero (by have := HKl.out; omega)
      clear hk0
      go_wp2_with fail
      go_meet
      refine ⟨A, n, c, gs, g.kids, true, f, 0, _, _, _, _, _, rfl, rfl, rfl, rfl, rfl, rfl, rfl, rfl, HM0.out, HP0.out, rfl, by have := HNl.out; omega, ?_⟩
      rw [insW_leaf HPg.out.get (by show g.kids.length = 0; rw [HK0.out]; rfl)]
      show splitP _ ⟨insAt g.facts (placeP g.facts f) f, []⟩ = _
      rw [HPl.out, HK0.out]
      simp
    have hk0' : 0 < g.kn := by omega
    have HKn : Hid (g.kids ≠ []) := fun e => hk0 (by rw [HKl.out, e]; rfl)
    clear hk0
    have hjl : j ≤ (pgV g).facts.length := by show j ≤ g.facts.length; have := HFl.out; omega
    obtain ⟨kid, hkid, hkz, hkq, ⟨d', -, hTk⟩, -⟩ := HPg.out.kid (show (pgV g).kids ≠ [] from HKn.out) hjl
    have hjk : j < g.kn := by rw [HKl.out]; exact (List.getElem?_eq_some_iff.1 hkid).1
    have hko := HM0.out.s.ko
    rw [← HKl.out] at hko
    obtain ⟨A2', c2', e2', hr2⟩ := own_rows iEnc_len (by decide) hko
    cases e2'
    obtain ⟨kb, ko, kid', hkA, _, hkid', d0⟩ := iSl.get hr2 hjk
    obtain rfl : kid' = kid := Option.some.inj (hkid'.symm.trans hkid)
    have hixk := fun W => ix_intsP (c := c2) hkA hjk W
    have ld := lt_of_cell d0
    obtain ⟨kq, hkqe⟩ : ∃ x : Nat, kid' = x := ⟨kid'.toNat, by omega⟩
    subst hkqe
    rw [Int.toNat_natCast] at hTk
    have HKid := hidp hkid'
    have HKq : Hid (kq < q) := by show _ < _; omega
    have HCall : Hid (∀ W', Below W7.heap.size W7 W' → Calls Try.prog 46 #[.slice A n c, .int .i64 kq, .agg #[.int .i64 f.key.kind, .int .i64 f.key.subj, .int .i64 f.key.obj, .int .i64 f.val, .int .i64 f.fr, .int .i64 f.to, .int .i64 f.known, .int .i64 f.no]] W' fun e w' => ∃ A n c gs' one two uf sec, e = .returned (.tuple #[.slice A n c, .int .i64 (one : Nat), .bool two, .agg #[.int .i64 uf.key.kind, .int .i64 uf.key.subj, .int .i64 uf.key.obj, .int .i64 uf.val, .int .i64 uf.fr, .int .i64 uf.to, .int .i64 uf.known, .int .i64 uf.no], .int .i64 (sec : Nat)]) ∧ InsRes gs f kq W7.heap.size A n c gs' one two uf sec w' ∧ Below W'.heap.size W' w' ∧ (∀ g ∈ gs', g ∈ gs ∨ ∀ x, PgBl g x → W'.heap.size ≤ x) ∧ ∀ x off, A = some ⟨x, off, none⟩ → W'.heap.size ≤ x) := fun W' h => by
      have hb := HM0.out.s.below.trans (h.mono HM0.out.s.below.size)
      exact (HIH.out kq (by omega) gs false d' A n c W' (HRows.out _ hb) (HEach.out _ hb) HSl.out hTk (by have := HLim.out; omega)).mono fun e w' ⟨h1, A, n, c, gs', one, two, uf, sec, h2, h3⟩ => ⟨A, n, c, gs', one, two, uf, sec, h2, h3.mono h.size, h1, h3.far, h3.rfar⟩
    have HBg : Hid (∀ g ∈ gs, ∀ x, PgBl g x → x < w.heap.size) := fun g hg x hx => PgBl.lt (HEach.out w (Below.refl _ _) g hg) hx
    clear hkid hkid' hkA hkz hkq hTk hjl hko hr2
    go_upto_region 9 with fail
    go_cut [16, 17, 18, 19, 20] (fun s16 s17 s18 s19 s20 wx => ∃ A' n' c' gs' one two uf sec Z, s16 = .slice A' n' c' ∧ s17 = .int .i64 (one : Nat) ∧ s18 = .bool two ∧ s19 = .pointer (some ⟨Z, 0, none⟩) ∧ s20 = .int .i64 (sec : Nat) ∧ InsRes gs f kq W7.heap.size A' n' c' gs' one two uf sec wx ∧ wx.heap[Z]? = some (.cells #[.int .i64 uf.key.kind, .int .i64 uf.key.subj, .int .i64 uf.key.obj, .int .i64 uf.val, .int .i64 uf.fr, .int .i64 uf.to, .int .i64 uf.known, .int .i64 uf.no] 31 (0, 0)) ∧ Below W7.heap.size W7 wx)
    case first =>
      go_region_held3 (fun w' => w'.cell? ⟨X, 1, none⟩ = some (.slice A2 g.kn c2) ∧ w'.cell? ⟨kb, ko + j, none⟩ = some (.int .i64 (kq : Nat)) ∧ w'.cell? ⟨n0, 0, none⟩ = some (.int .i64 f.key.kind) ∧ w'.cell? ⟨n0, 1, none⟩ = some (.int .i64 f.key.subj) ∧ w'.cell? ⟨n0, 2, none⟩ = some (.int .i64 f.key.obj) ∧ w'.cell? ⟨n0, 3, none⟩ = some (.int .i64 f.val) ∧ w'.cell? ⟨n0, 4, none⟩ = some (.int .i64 f.fr) ∧ w'.cell? ⟨n0, 5, none⟩ = some (.int .i64 f.to) ∧ w'.cell? ⟨n0, 6, none⟩ = some (.int .i64 f.known) ∧ w'.cell? ⟨n0, 7, none⟩ = some (.int .i64 f.no))
        (first | (refine ⟨cellB ?_ x1, cellB ?_ d0, cellB ?_ f0, cellB ?_ f1, cellB ?_ f2, cellB ?_ f3, cellB ?_ f4, cellB ?_ f5, cellB ?_ f6, cellB ?_ f7⟩ <;> (repeat (first | exact HB9.out | exact HB8.out | exact Below.refl _ _ | refine Below.drew ?_ | refine Below.alloc ?_ (by first | omega | (simp <;> omega) | simp) _ | refine Below.setCell ?_ (by first | omega | (simp <;> omega) | simp) _))))
        (first
          | (go_at_call 46; refine (HCall.out _ (by repeat (first | exact Below.refl _ _ | refine Below.drew ?_ | refine Below.alloc ?_ (by simp) _))).mono ?_; rintro e w8 ⟨A', n', c', gs', one, two, uf, sec, rfl, hres, hb8, hfar, hrfar⟩; have HFar := hidp hfar; have HRfar := hidp hrfar; clear hfar hrfar; have hB8 : Below W7.heap.size W7 w8 := Below.trans (by repeat (first | exact Below.refl _ _ | refine Below.drew ?_ | refine Below.alloc ?_ (by simp) _)) (hb8.mono (by simp)); have HB8 := hidp hB8; have HRes := hidp hres; have hz8 := hB8.size; (try (have g8 := (hb8.block W7.heap.size (by simp)).trans (World.alloc_heap_new W7 _); have HG8 := hidp g8; obtain ⟨y1, y2, y3, y4, y5, y6, y7, y8, h88⟩ := chain8 g8 uf; have e08 := h88.e0; have p08 := h88.p0; have r08 := h88.r0; have l08 := h88.l0; have e18 := h88.e1; have p18 := h88.p1; have r18 := h88.r1; have l18 := h88.l1; have e28 := h88.e2; have p28 := h88.p2; have r28 := h88.r2; have l28 := h88.l2; have e38 := h88.e3; have p38 := h88.p3; have r38 := h88.r3; have l38 := h88.l3; have e48 := h88.e4; have p48 := h88.p4; have r48 := h88.r4; have l48 := h88.l4; have e58 := h88.e5; have p58 := h88.p5; have r58 := h88.r5; have l58 := h88.l5; have e68 := h88.e6; have p68 := h88.p6; have r68 := h88.r6; have l68 := h88.l6; have e78 := h88.e7; have p78 := h88.p7; have r78 := h88.r7; have l78 := h88.l7; have hO8 := h88.only; have hy8 := h88.heap; clear h88; have HO8 := hidp hO8; have HY8 := hidp hy8; have HB9 := hidp (below_onlyAt hB8 hO8 (Nat.le_refl _)); clear hO8 hy8; clear g8)); clear hb8 hB8 hres))
      · go_wp2_with fail
        go_meet
        exact ⟨A', n', c', gs', one, two, uf, sec, _, rfl, rfl, rfl, rfl, rfl, HRes.out.later ((Below.refl _ _).alloc (Nat.le_refl _) _), World.alloc_heap_new _ _, HB8.out.alloc hz8 _⟩
      · go_wp2_with fail
        go_meet
        refine ⟨A', n', c', gs', one, two, uf, sec, W7.heap.size, rfl, rfl, rfl, rfl, rfl, HRes.out.only HO8.out (fun g hg x hx => ?_) (fun x off e => ?_), HY8.out, HB9.out⟩
        · rcases HFar.out g hg with h | h
          · have := HBg.out g h x hx
            have := HWM.out
            omega
          · have := h x hx
            simp at this
            omega
        · have := HRfar.out x off e
          simp at this
          omega
    case rest =>
    obtain ⟨A', n', c', gs', one, two, uf, sec, Z, rfl, rfl, rfl, rfl, rfl, hres, hz, hb9⟩ := hcut
    rename World => w9
    have HRes := hidp hres
    have HM9 := hidp (HM0.out.later hb9)
    have HZ := hidp hz
    have HP9 : Hid (PgM gs n0 M A' n' c' gs' w9) := ⟨hres.rows, hres.each, hres.slim, fun g hg => (hres.far g hg).imp id fun h x hx => by
      have := h x hx
      have := HWM.out
      omega, fun g hg x hx => by
      have := HBg.out g hg x hx
      have := HWM.out
      omega, fun x off _ e => by
      have := hres.rfar x off e
      have := HWM.out
      omega⟩
    have HLen' : Hid (n' ≤ gs.length + 2 * q) := by have h1 := hres.len; have h2 := HKq.out; show _ ≤ _; omega
    clear x0 x1 x2 f0 f1 f2 f3 f4 f5 f6 f7 f8 d0 ld hixk hres hz hb9
    obtain ⟨g2, rfl⟩ : ∃ g2, A2 = some ⟨g2, 0, none⟩ := by
      have hko := HM9.out.s.ko
      rcases hko.2 with ⟨h1, h2⟩ | ⟨g2, cap, cur, hv, _⟩
      · exfalso
        injection h1 with h3 h4 h5
        omega
      · injection hv with h3 h4 h5
        exact ⟨g2, h3⟩
    have hix2 := fun W => ix_intsP (c := c2) (A := some ⟨g2, 0, none⟩) (b := g2) (off := 0) rfl hjk W
    simp only [Nat.zero_add] at hix2
    have hko := HM9.out.s.ko
    rw [← HKl.out] at hko
    obtain ⟨A3, c3, e3, hr3⟩ := own_rows iEnc_len (by decide) hko
    cases e3
    obtain ⟨b3, o3, k3, hb3, _, hk3, d3⟩ := iSl.get hr3 hjk
    cases hb3
    simp only [Nat.zero_add] at d3
    have ld3 := lt_of_cell d3
    obtain ⟨cs3, hcs3⟩ := own_kindP hko (g := g2) rfl
    have fz3 := frozen_of_heap (o := j) hcs3
    obtain ⟨w10, hw10⟩ : ∃ W, w9.setCell ⟨g2, j, none⟩ (.int .i64 (one : Nat)) = W := ⟨_, rfl⟩
    have HM10 : Hid (RiM f f n0 X M (.slice A1 g.fn c1) (.slice (some ⟨g2, 0, none⟩) g.kn c2) g.facts (g.kids.set j (one : Int)) w w10) := hw10 ▸ HM9.out.kid HKl.out.symm HKid.out (by have := HN0.out; omega)
    have hg2M := HM9.out.ne2 g2 rfl
    have hg2n := (hko.lt g2 rfl).1
    have HP10 : Hid (PgM gs n0 M A' n' c' gs' w10) := hw10 ▸ HP9.out.only (Only.setCell _ _ _ _) (by omega) (by omega)
    have HZ10 : Hid (w10.heap[Z]? = some (.cells #[.int .i64 uf.key.kind, .int .i64 uf.key.subj, .int .i64 uf.key.obj, .int .i64 uf.val, .int .i64 uf.fr, .int .i64 uf.to, .int .i64 uf.known, .int .i64 uf.no] 31 (0, 0))) := by
      show _ = _
      rw [← hw10]
      refine (heap_set_ne HZ.out (fun e => ?_) _ _)
      have h1 := HZ.out
      rw [e, hcs3] at h1
      injection h1 with h1
      injection h1 with _ h1
      exact absurd h1 (by decide)
    obtain ⟨y1, y2, y3, y4, y5, y6, y7, y8, h88⟩ := chain8 HM10.out.mb uf
    have e1' := h88.e0; have e2' := h88.e1; have e3' := h88.e2; have e4' := h88.e3; have e5' := h88.e4; have e6' := h88.e5; have e7' := h88.e6; have e8' := h88.e7
    have p08 := h88.p0; have p18 := h88.p1; have p28 := h88.p2; have p38 := h88.p3; have p48 := h88.p4; have p58 := h88.p5; have p68 := h88.p6; have p78 := h88.p7
    have r08 := h88.r0; have r18 := h88.r1; have r28 := h88.r2; have r38 := h88.r3; have r48 := h88.r4; have r58 := h88.r5; have r68 := h88.r6; have r78 := h88.r7
    have l08 := h88.l0; have l18 := h88.l1; have l28 := h88.l2; have l38 := h88.l3; have l48 := h88.l4; have l58 := h88.l5; have l68 := h88.l6; have l78 := h88.l7
    have HMz : Hid (RiM f uf n0 X M (.slice A1 g.fn c1) (.slice (some ⟨g2, 0, none⟩) g.kn c2) g.facts (g.kids.set j (one : Int)) w y8) := HM10.out.mid h88.only h88.heap HWM.out.1
    have HPz : Hid (PgM gs n0 M A' n' c' gs' y8) := HP10.out.only h88.only (by have := HWM.out; omega) (Nat.le_refl _)
    have q0 := cell_of_heap (o := 0) HZ10.out; have q1 := cell_of_heap (o := 1) HZ10.out; have q2 := cell_of_heap (o := 2) HZ10.out; have q3 := cell_of_heap (o := 3) HZ10.out
    have q4 := cell_of_heap (o := 4) HZ10.out; have q5 := cell_of_heap (o := 5) HZ10.out; have q6 := cell_of_heap (o := 6) HZ10.out; have q7 := cell_of_heap (o := 7) HZ10.out
    have q8 := lt_of_heap HZ10.out
    simp only [List.getElem?_toArray, List.getElem?_cons_zero, List.getElem?_cons_succ] at q0 q1 q2 q3 q4 q5 q6 q7
    obtain ⟨⟨x0, x1, x2⟩, -⟩ := HM9.out.s.cells
    have HIns : Hid (insW f (q + 1) (gs.map pgV) q = splitP (gs'.map pgV) ⟨if two = true then insAt g.facts j uf else g.facts, if two = true ∧ g.kids.set j (one : Int) ≠ [] then insAt (g.kids.set j (one : Int)) (j + 1) (sec : Int) else g.kids.set j (one : Int)⟩) := by
      show _ = _
      have hkl : (pgV g).kids.length ≠ 0 := by show g.kids.length ≠ 0; have := HKl.out; omega
      have hkk : (pgV g).kids[placeP (pgV g).facts f]? = some ((kq : Nat) : Int) := by show g.kids[placeP g.facts f]? = _; rw [HPl.out]; exact HKid.out
      have hr := HRes.out
      cases two with
      | false =>
        have h1 := insW_none (f := f) HPg.out hkl hkk (ps' := gs'.map pgV) (a := one) (by
          rw [Int.toNat_natCast]
          exact Prod.ext hr.all.symm (Prod.ext hr.one.symm (hr.no rfl)))
        rw [h1]
        show splitP _ ⟨g.facts, g.kids.set (placeP g.facts f) (one : Int)⟩ = _
        rw [HPl.out]; simp
      | true =>
        have h1 := insW_some (f := f) HPg.out hkl hkk (ps' := gs'.map pgV) (a := one) (m := uf) (b := sec) (by
          rw [Int.toNat_natCast]
          exact Prod.ext hr.all.symm (Prod.ext hr.one.symm (hr.yes rfl)))
        rw [h1]
        show splitP _ ⟨insAt g.facts (placeP g.facts f) uf, insAt (g.kids.set (placeP g.facts f) (one : Int)) (placeP g.facts f + 1) (sec : Int)⟩ = _
        rw [HPl.out, if_pos rfl, if_pos ⟨rfl, fun e => hkl (by
          have := congrArg List.length e
          rw [List.length_set] at this
          exact this)⟩]
    clear hko hr3 hk3 hcs3 h88 hg2M hg2n
    go_wp2_with fail
    go_meet
    exact ⟨A', n', c', gs', g.kids.set j (one : Int), two, uf, sec, _, _, _, _, _, rfl, rfl, rfl, rfl, rfl, rfl, rfl, rfl, HMz.out, HPz.out, List.length_set .., HLen'.out, HIns.out⟩
  case rest =>
  obtain ⟨A', n', c', gs', K', gr, mid, sec, u16, u17, u18, u19, u20, rfl, rfl, rfl, rfl, rfl, rfl, rfl, rfl, hm, hp, hkl, hln, hin⟩ := hcut
  rename World => wa
  have HMa := hidp hm
  have HPa := hidp hp
  have HKl' : Hid (K'.length = g.kn) := hidp (hkl.trans HKl.out.symm)
  have HLn' := hidp hln
  have HIn := hidp hin
  clear hm hp hkl hln hin
  have hjg : j ≤ g.fn := hj
  go_upto_if 85 with fail
  go_cut [21, 22] (fun s21 s22 wx => ∃ (u21 u22 v1' v2' : Value) (F2 : List Fc) (K2 : List Int), u21 = s21 ∧ u22 = s22 ∧ RiS f n0 X v1' v2' F2 K2 w wx ∧ PgM gs n0 M A' n' c' gs' wx ∧
    F2 = (if gr = true then insAt g.facts j mid else g.facts) ∧ K2 = (if gr = true ∧ K' ≠ [] then insAt K' (j + 1) (sec : Int) else K'))
  case first =>
    cases gr
    case false =>
      go_wp2_with fail
      go_meet
      exact ⟨_, _, _, _, g.facts, K', rfl, rfl, HMa.out.s, HPa.out, by simp, by simp⟩
    obtain ⟨⟨x0, x1, x2⟩, -⟩ := HMa.out.s.cells
    have m0 := cell_of_heap (o := 0) HMa.out.mb; have m1 := cell_of_heap (o := 1) HMa.out.mb; have m2 := cell_of_heap (o := 2) HMa.out.mb; have m3 := cell_of_heap (o := 3) HMa.out.mb
    have m4 := cell_of_heap (o := 4) HMa.out.mb; have m5 := cell_of_heap (o := 5) HMa.out.mb; have m6 := cell_of_heap (o := 6) HMa.out.mb; have m7 := cell_of_heap (o := 7) HMa.out.mb
    have m8 := lt_of_heap HMa.out.mb
    simp only [List.getElem?_toArray, List.getElem?_cons_zero, List.getElem?_cons_succ] at m0 m1 m2 m3 m4 m5 m6 m7
    have hfo := HMa.out.s.fo
    rw [← HFl.out] at hfo
    obtain ⟨A1', c1', e1', hr1⟩ := own_rows fEnc_len (by decide) hfo
    cases e1'
    have HR1 : Hid (∀ W', Below wa.heap.size wa W' → fSl W' W'.heap.size A1 g.fn c1 g.facts) := fun W' h => hr1.keep fStable h.size h.block
    have hc1 := hr1.2.1
    have hc1' := hr1.2.2.1
    have hcutl := fun W => run_cut_low (P := Try.prog) W Try.underlying41 hfi A1 g.fn c1 j .i64 (j : Int) rfl hjg
    rw [hfs] at hcutl
    have hcutf := fun W => run_cut_full (P := Try.prog) W Try.underlying41 hfi A1 g.fn c1 j (by omega)
    clear hfo hr1
    go_upto_region 16 with fail
    refine wp_region_S wa.heap.size 8 (fun _ => false) (Nat.le_refl _) (by kernel_rfl) (by kernel_rfl) (by kernel_rfl) ?_
    dsimp only [List.take, List.drop]
    apply relS_det (mask := []) (x := .agg #[.int .i64 mid.key.kind, .int .i64 mid.key.subj, .int .i64 mid.key.obj, .int .i64 mid.val, .int .i64 mid.fr, .int .i64 mid.to, .int .i64 mid.known, .int .i64 mid.no])
    · rfl
    · kernel_rfl
    · kernel_rfl
    · dsimp only [oblS]
      rintro w9 h9
      have hc9 := (bcell h9).1
      go_simp
      exact ⟨Below.refl _ _, rfl⟩
    dsimp only [List.nil_append, List.cons_append]
    apply relS_any (mask := [true]) (T := fun v W => ∃ x, v = .slice (some ⟨x, 0, none⟩) 1 1 ∧ W.heap[x]? = some (.cells #[.int .i64 mid.key.kind, .int .i64 mid.key.subj, .int .i64 mid.key.obj, .int .i64 mid.val, .int .i64 mid.fr, .int .i64 mid.to, .int .i64 mid.known, .int .i64 mid.no] 31 (0, 0))) (hT := fun v w w' hb ⟨x, e, h⟩ => ⟨x, e, (hb.block _ (lt_of_heap h)).trans h⟩)
    · rfl
    · kernel_rfl
    · kernel_rfl
    · dsimp only [oblS]
      rintro w9 h9 T' hT'
      go_simp
      exact ⟨(Below.refl _ w9).alloc (Nat.le_refl _) _, hT' _ _ ⟨_, rfl, World.alloc_heap_new w9 _⟩⟩
    dsimp only [List.nil_append, List.cons_append]
    apply relS_det (mask := [false, false])
    · rfl
    · kernel_rfl
    · kernel_rfl
    · dsimp only [oblS]
      rintro w9 h9
      go_simp
      exact ⟨Below.refl _ _, rfl⟩
    dsimp only [List.nil_append, List.cons_append]
    apply relS_det (mask := [false, false, true]) (x := .slice A1 g.fn c1)
    · rfl
    · kernel_rfl
    · kernel_rfl
    · dsimp only [oblS]
      rintro w9 h9
      have hc9 := (bcell h9).1
      go_simp
      exact ⟨Below.refl _ _, rfl⟩
    dsimp only [List.nil_append, List.cons_append]
    apply relS_det (mask := [false, false, false, false])
    · rfl
    · kernel_rfl
    · kernel_rfl
    · dsimp only [oblS]
      rintro w9 h9
      go_simp
      exact ⟨Below.refl _ _, rfl⟩
    dsimp only [List.nil_append, List.cons_append]
    apply relS_det (mask := [false, false, false, true, true]) (x := .slice (cutA A1 c1 j 8) (g.fn - j) (c1 - j))
    · rfl
    · kernel_rfl
    · kernel_rfl
    · dsimp only [oblS]
      rintro w9 h9
      go_simp
      exact ⟨Below.refl _ _, rfl⟩
    dsimp only [List.nil_append, List.cons_append]
    apply relS_any (mask := [false, true, false, false, false, true]) (T := fun v W => ∃ A c, v = .slice A (1 + (g.fn - j)) c ∧ fSl W W.heap.size A (1 + (g.fn - j)) c ([mid] ++ g.facts.drop j)) (hT := fun v w w' hb ⟨A, c, e, h⟩ => ⟨A, c, e, h.keep fStable hb.size hb.block⟩)
    · rfl
    · kernel_rfl
    · kernel_rfl
    · dsimp only [oblS]
      intro v87
      rintro w9 ⟨h9, t87⟩ T' hT'
      obtain ⟨x, ex, hx⟩ := t87
      subst ex
      obtain ⟨A5, c5, w', hrun, hr5, hb5⟩ := run_append_clipR (P := Try.prog) (ty := 41) (w := w9) (A := some ⟨x, 0, none⟩) (n := 1) (l := [mid]) (n₀ := w9.heap.size) Try.underlying41 hfi hfz hfs hfb rfl fEnc_len (by decide) fEnc_one (rows_of_heap (l := [mid]) (c := 1) fEnc_len hx (by simp) (by omega) (by simp [fEnc])) (Nat.le_refl _) ((HR1.out w9 h9).cut (m := j) hjg) (by omega) (by omega)
      exact relUpon_append (.tmp 87) (.tmp 91) 41 rfl rfl rfl hrun hb5 (hT' _ _ ⟨_, _, rfl, hr5⟩)
    dsimp only [List.nil_append, List.cons_append]
    apply relS_any (mask := [false, false, false, false, false, false, true]) (T := fun v W => ∃ A c, v = .slice A (1 + (g.fn - j)) c ∧ fSl W W.heap.size A (1 + (g.fn - j)) c ([mid] ++ g.facts.drop j)) (hT := fun v w w' hb ⟨A, c, e, h⟩ => ⟨A, c, e, h.keep fStable hb.size hb.block⟩)
    · rfl
    · kernel_rfl
    · kernel_rfl
    · dsimp only [oblS]
      intro v92
      rintro w9 ⟨h9, t92⟩ T' hT'
      exact ⟨Below.refl _ _, hT' _ _ t92⟩
    dsimp only [List.nil_append, List.cons_append]
    refine relS_end (by rfl) ?_
    dsimp only [finS]
    rintro v87 v92 v21 w8 ⟨⟨⟨hb, t87⟩, t92⟩, t21⟩
    obtain ⟨RA, Rc, eR, hR⟩ := t21
    subst eR
    have HMb := hidp (HMa.out.later hb)
    have HPb := hidp (HPa.out.later hb)
    have HR := hidp hR
    have hrun1 := run_append_clip (P := Try.prog) (ty := 41) (w := w8) (A := A1) (n := j) (l := g.facts.take j) (s := [mid] ++ g.facts.drop j) (m := 1 + (g.fn - j)) (c' := Rc) (A' := RA) Try.underlying41 hfi hfz hfs hfb rfl fEnc_len (by decide) fEnc_one (n₀ := w8.heap.size) (by
      have h1 := (HR1.out w8 hb).take (m := j) hjg
      exact ⟨h1.1, Nat.le_refl _, by omega, h1.2.2.2⟩) hR (by omega) (by omega) (by omega)
    obtain ⟨v5, w5, hrun5, ho5, hb5⟩ := hrun1
    have hl5 : g.facts.take j ++ ([mid] ++ g.facts.drop j) = insAt g.facts j mid := by unfold insAt; simp
    rw [hl5] at ho5
    have hlen5 : j + (1 + (g.fn - j)) = (insAt g.facts j mid).length := by
      rw [← hl5, List.length_append, List.length_append, List.length_take, List.length_drop, List.length_singleton]
      have := HFl.out
      omega
    rw [hlen5] at ho5
    obtain ⟨F2, hF2⟩ : ∃ F, insAt g.facts j mid = F := ⟨_, rfl⟩
    rw [hF2] at ho5 hlen5
    have HF2 := hidp hF2
    obtain ⟨fn2, hfn2⟩ : ∃ n, F2.length = n := ⟨_, rfl⟩
    have HFn2 := hidp hfn2
    rw [hfn2] at ho5
    obtain ⟨A5, c5, rfl, -⟩ := own_rows fEnc_len (by decide) ho5
    have HR5 := hidp hrun5
    have HMc := hidp (HMb.out.later hb5)
    have HPc := hidp (HPb.out.later hb5)
    have HO5 : Hid (w5.ownsRow (n0 + 2) 31 8 (.slice A5 fn2 c5) F2.length (F2.flatMap fEnc)) := own_monoB (by rw [HFn2.out]; exact ho5) (by have := HMb.out.s.below.size; have := lt_of_heap HMb.out.s.ub; omega)
    obtain ⟨⟨z0, z1, z2⟩, -⟩ := HMb.out.s.cells
    have f5 := frozen_of_heap (o := 0) HMc.out.s.gb
    obtain ⟨⟨y0, y1, y2⟩, -⟩ := HMc.out.s.cells
    obtain ⟨w6, hw6⟩ : ∃ W, w5.setCell ⟨X, 0, none⟩ (.slice A5 fn2 c5) = W := ⟨_, rfl⟩
    have HS6 : Hid (RiS f n0 X (.slice A5 fn2 c5) (.slice A2 g.kn c2) F2 K' w w6) := hw6 ▸ HMc.out.s.facts HO5.out HMa.out.hX (by have := HN0.out; omega)
    have HP6 : Hid (PgM gs n0 M A' n' c' gs' w6) := hw6 ▸ HPc.out.only (Only.setCell _ _ _ _) (by have := HMa.out.hX; omega) (by have := HMa.out.hM; omega)
    clear x0 x1 x2 m0 m1 m2 m3 m4 m5 m6 m7 m8 t87 t92 hR hb hrun5 ho5 hb5 hl5 hlen5 hF2 hfn2
    go_simp
    obtain ⟨⟨q0, q1, q2⟩, -⟩ := HS6.out.cells
    go_upto_if 104 with (at_builtin; refine wpList_append_known rfl (.tmp 97) (.tmp 98) 41 rfl rfl rfl HR5.out ?_)
    clear y0 y1 y2 z0 z1 z2 f5 hw6
    by_cases hk0 : g.kn = 0
    · have hk0' : ¬ (0 < g.kn) := by omega
      have HK0 : Hid (K' = []) := List.eq_nil_of_length_eq_zero (by have := HKl'.out; omega)
      clear hk0
      go_wp2_with fail
      go_meet
      exact ⟨_, _, _, _, F2, K', rfl, rfl, HS6.out, HP6.out, by rw [← HF2.out]; simp, by rw [HK0.out]; simp⟩
    have hk0' : 0 < g.kn := by omega
    have hjk : j + 1 ≤ g.kn := by
      have h1 := HPg.out.kids
      rcases h1 with ⟨h2, _⟩ | ⟨h2, _⟩
      · exfalso
        have h3 : g.kids = [] := h2
        have := HKl.out
        rw [h3] at this
        simp at this
        omega
      · have h3 : g.kids.length = g.facts.length + 1 := h2
        have := HKl.out
        have := HFl.out
        omega
    clear hk0
    have hwj1 : IntKind.i64.wrap ((j : Int) + 1) = ((j + 1 : Nat) : Int) := by
      rw [show ((j + 1 : Nat) : Int) = (j : Int) + 1 by omega]
      exact IntWalk.i64_in _ (by omega)
    obtain ⟨j1, hj1⟩ : ∃ n, j + 1 = n := ⟨_, rfl⟩
    have HJ1 := hidp hj1
    rw [hj1] at hwj1 hjk
    have hko := HS6.out.ko
    rw [HKl'.out] at hko
    obtain ⟨A2', c2', e2', hr2⟩ := own_rows iEnc_len (by decide) hko
    cases e2'
    have hc2 := hr2.2.1
    have hc2' := hr2.2.2.1
    have hcl2 := fun W => run_cut_low (P := Try.prog) W Try.underlying23 hii A2 g.kn c2 j1 .i64 (j1 : Int) rfl hjk
    rw [his] at hcl2
    have hcf2 := fun W => run_cut_full (P := Try.prog) W Try.underlying23 hii A2 g.kn c2 j1 (by omega)
    obtain ⟨w7', hw7⟩ : ∃ W, w6.alloc (.cells #[.int .i64 (sec : Nat)] 3) = W := ⟨_, rfl⟩
    have hb7 : Below w6.heap.size w6 w7' := hw7 ▸ (Below.refl _ w6).alloc (Nat.le_refl _) _
    have hnew7 : w7'.heap[w6.heap.size]? = some (.cells #[.int .i64 (sec : Nat)] 3 (0, 0)) := by rw [← hw7]; exact World.alloc_heap_new _ _
    obtain ⟨A6, c6, w8', hrun6, hr6, hb8⟩ := run_append_clipR (P := Try.prog) (ty := 23) (w := w7') (A := some ⟨w6.heap.size, 0, none⟩) (n := 1) (l := [(sec : Int)]) (s := K'.drop j1) (m := g.kn - j1) (n₀ := w7'.heap.size) Try.underlying23 hii hiz his hib rfl iEnc_len (by decide) iEnc_one (rows_of_heap (l := [(sec : Int)]) (c := 1) iEnc_len hnew7 (by simp) (by omega) (by simp [iEnc])) (Nat.le_refl _) ((hr2.keep (Rep.flat_stable _) hb7.size hb7.block).cut (m := j1) hjk) (by omega) (by omega)
    have HS8 := hidp ((HS6.out.later hb7).later hb8)
    have HP8 := hidp ((HP6.out.later hb7).later hb8)
    have hr8 := (hr2.keep (Rep.flat_stable _) hb7.size hb7.block).keep (Rep.flat_stable _) hb8.size hb8.block
    obtain ⟨v9, w9', hrun9, ho9, hb9⟩ := run_append_clip (P := Try.prog) (ty := 23) (w := w8') (A := A2) (n := j1) (l := K'.take j1) (s := [(sec : Int)] ++ K'.drop j1) (m := 1 + (g.kn - j1)) (c' := c6) (A' := A6) (n₀ := w8'.heap.size) Try.underlying23 hii hiz his hib rfl iEnc_len (by decide) iEnc_one (by
      have h1 := hr8.take (m := j1) hjk
      exact ⟨h1.1, Nat.le_refl _, by omega, h1.2.2.2⟩) hr6 (by omega) (by omega) (by omega)
    have hl9 : K'.take j1 ++ ([(sec : Int)] ++ K'.drop j1) = insAt K' j1 (sec : Int) := by unfold insAt; simp
    rw [hl9] at ho9
    obtain ⟨K2, hK2⟩ : ∃ K, insAt K' j1 (sec : Int) = K := ⟨_, rfl⟩
    have HK2 := hidp hK2
    have hlen9 : j1 + (1 + (g.kn - j1)) = K2.length := by
      rw [← hK2, ← hl9, List.length_append, List.length_append, List.length_take, List.length_drop, List.length_singleton]
      have := HKl'.out
      omega
    rw [hK2] at ho9
    obtain ⟨kn2, hkn2⟩ : ∃ n, j1 + (1 + (g.kn - j1)) = n := ⟨_, rfl⟩
    rw [hkn2] at ho9 hlen9
    have HKn2 := hidp hlen9
    obtain ⟨A9, c9, rfl, -⟩ := own_rows iEnc_len (by decide) (hlen9 ▸ ho9)
    have HR6 := hidp hrun6
    have HR9 := hidp hrun9
    have HW7 := hidp hw7
    have HS9 := hidp (HS8.out.later hb9)
    have HP9 := hidp (HP8.out.later hb9)
    have HO9 : Hid (w9'.ownsRow (n0 + 2) 3 1 (.slice A9 K2.length c9) K2.length (K2.flatMap iEnc)) := own_monoB (hlen9 ▸ ho9) (by have := HS8.out.below.size; have := lt_of_heap HS8.out.ub; omega)
    obtain ⟨⟨z0, z1, z2⟩, -⟩ := HS8.out.cells
    obtain ⟨⟨y0, y1, y2⟩, -⟩ := HS9.out.cells
    have fz9 := frozen_of_heap (o := 1) HS9.out.gb
    have HSA : Hid (RiS f n0 X (.slice A5 fn2 c5) (.slice A9 K2.length c9) F2 K2 w (w9'.setCell ⟨X, 1, none⟩ (.slice A9 K2.length c9))) := HS9.out.kids HO9.out HMa.out.hX (by have := HN0.out; omega)
    have HPA : Hid (PgM gs n0 M A' n' c' gs' (w9'.setCell ⟨X, 1, none⟩ (.slice A9 K2.length c9))) := HP9.out.only (Only.setCell _ _ _ _) (by have := HMa.out.hX; omega) (by have := HMa.out.hM; omega)
    have HKe : Hid (K' ≠ []) := fun e => by
      have := HKl'.out
      rw [e] at this
      simp at this
      omega
    clear hko hr2 hw7 hb7 hnew7 hrun6 hr6 hb8 hr8 hrun9 ho9 hb9 hl9 hK2 hlen9 hkn2 hj1
    go_wp2_with (at_builtin; first
      | (rw [HW7.out]; refine wpList_append_known rfl (.tmp 106) (.tmp 111) 23 rfl rfl rfl HR6.out ?_)
      | (refine wpList_append_known rfl (.tmp 106) (.tmp 111) 23 rfl rfl rfl HR6.out ?_)
      | (refine wpList_append_known rfl (.tmp 119) (.tmp 120) 23 rfl rfl rfl HR9.out ?_))
    go_meet
    exact ⟨_, _, _, _, F2, K2, rfl, rfl, HSA.out, HPA.out, by rw [← HF2.out]; simp, by rw [← HK2.out, ← HJ1.out]; simp [HKe.out]⟩
  case rest =>
  obtain ⟨u21, u22, v1', v2', F2, K2, rfl, rfl, hs, hp, hF2, hK2⟩ := hcut
  rename World => wb
  have HIn2 := HIn.out
  rw [← hF2, ← hK2] at HIn2
  have HSp := hidp HIn2
  have HSb := hidp hs
  have HPb := hidp hp
  have hf5 : F2.length ≤ 5 := by
    rw [hF2]
    have := HFl.out
    split
    · unfold insAt
      rw [List.length_append, List.length_cons, List.length_take, List.length_drop]
      omega
    · omega
  have hkk : K2.length = 0 ∨ K2.length = F2.length + 1 := by
    have h2 := HKl.out
    have h3 := HKl'.out
    have hl : ∀ {α : Type} (l : List α) (k : Nat) (a : α), (insAt l k a).length = l.length + 1 := fun l k a => by
      unfold insAt
      rw [List.length_append, List.length_cons, List.length_take, List.length_drop]
      omega
    have hk' : g.kids.length = 0 ∨ g.kids.length = g.facts.length + 1 := by
      rcases HPg.out.kids with ⟨h, _⟩ | ⟨h, _⟩
      · exact .inl (by rw [show g.kids = [] from h]; rfl)
      · exact .inr h
    by_cases hK : K' = []
    · left
      rw [hK2, hK]
      simp
    · have h0 : K'.length ≠ 0 := fun e => hK (List.eq_nil_of_length_eq_zero e)
      right
      rw [hF2, hK2]
      by_cases hg : gr = true
      · rw [if_pos hg, if_pos ⟨hg, hK⟩, hl, hl]; omega
      · rw [if_neg hg, if_neg (fun h => hg h.1)]; omega
  clear hs hp hF2 hK2 HIn2
  obtain ⟨⟨x0, x1, x2⟩, -⟩ := HSb.out.cells
  obtain ⟨fn2, hfn2⟩ : ∃ n, F2.length = n := ⟨_, rfl⟩
  have HFn2 := hidp hfn2
  have hfo := HSb.out.fo
  rw [hfn2] at hfo hf5 hkk
  obtain ⟨A5, c5, rfl, hr5⟩ := own_rows fEnc_len (by decide) hfo
  have HNl' := hidp HPb.out.rows.1
  clear hfo hfn2
  obtain ⟨kn2, hkn2⟩ : ∃ n, K2.length = n := ⟨_, rfl⟩
  have HKn2 := hidp hkn2
  have hko := HSb.out.ko
  rw [hkn2] at hko hkk
  obtain ⟨A9, c9, rfl, hr9⟩ := own_rows iEnc_len (by decide) hko
  have HR9 : Hid (∀ W', Below wb.heap.size wb W' → iSl W' W'.heap.size A9 kn2 c9 K2) := fun W' h => hr9.keep (Rep.flat_stable _) h.size h.block
  clear hko hkn2
  have HN6 : Hid (n' ≤ 1000000 ∧ n' = gs'.length) := ⟨by have := HLn'.out; have := HLim.out; omega, HPb.out.rows.1⟩
  by_cases h4 : fn2 ≤ 4
  · have HR5 : Hid (∀ W', Below wb.heap.size wb W' → fSl W' W'.heap.size A5 fn2 c5 F2) := fun W' h => hr5.keep fStable h.size h.block
    have HPr : Hid (∀ W', Below wb.heap.size wb W' → pgSl W' W'.heap.size A' n' c' gs') := fun W' h => HPb.out.rows.keep (Rep.flat_stable _) h.size h.block
    obtain ⟨gN, hgN⟩ : ∃ g : Pq, ⟨A5, fn2, c5, F2, A9, kn2, c9, K2⟩ = g := ⟨_, rfl⟩
    have HGN := hidp hgN
    have henc : pgEnc gN = [.slice A5 fn2 c5, .slice A9 kn2 c9] := by rw [← hgN]; rfl
    have HEn := hidp henc
    clear hgN henc
    go_upto_region 23 with fail
    refine wp_region_YS (fun a b => Below wb.heap.size a b) 11 (fun k => k == 5) (fun k => k == 0 || k == 2 || k == 4 || k == 5 || k == 8) (fun k => k == 0 || k == 1 || k == 2 || k == 3 || k == 4) (fun _ _ _ h k => h.trans k) (fun w1 w2 h hb => hb.mono (by rcases h with rfl | h; exact Nat.le_refl _; exact h.size)) (by kernel_rfl) (by kernel_rfl) (by kernel_rfl) (by kernel_rfl) (by kernel_rfl) (by kernel_rfl) ?_
    dsimp only [List.take, List.drop]
    apply zs_any (mask := []) (S := (Below wb.heap.size wb)) (m := (fun w => Below w.heap.size w)) (T := fun v W' => ∃ x, v = .slice (some ⟨x, 0, none⟩) 0 0 ∧ W'.ownsRow wb.heap.size 66 2 v 0 []) (hT := fun v w w' hb ⟨x, e, h⟩ => ⟨x, e, own_keepB h fun g hg => hb.block g (h.lt g hg).2⟩) (hf := by kernel_rfl) (hS := by rfl) (hm := by rfl) (hg := by kernel_rfl) (hk := by kernel_rfl)
    · dsimp only [oblS]
      rintro w9 h9 T' hT'
      go_simp
      exact ⟨(Below.refl _ w9).alloc (Nat.le_refl _) _, hT' _ _ ⟨_, rfl, own_emptyP w9 wb.heap.size 2 66 h9.size⟩⟩
    dsimp only [List.nil_append, List.cons_append]
    apply zs_det (mask := [false]) (S := (Below wb.heap.size wb)) (m := (fun w => Below w.heap.size w)) (x := .slice A' n' c') (hS := by rfl) (hm := by rfl) (hg := by kernel_rfl) (hk := by kernel_rfl)
    · dsimp only [oblS]
      rintro w9 h9
      go_simp
      exact ⟨Below.refl _ _, rfl⟩
    dsimp only [List.nil_append, List.cons_append]
    apply zs_any (mask := [true, true]) (S := (Below wb.heap.size wb)) (m := (fun w => Below w.heap.size w)) (T := fun v W' => W'.ownsRow wb.heap.size 66 2 v n' (gs'.flatMap pgEnc)) (hT := fun v w w' hb h => own_keepB h fun g hg => hb.block g (h.lt g hg).2) (hf := by kernel_rfl) (hS := by rfl) (hm := by rfl) (hg := by kernel_rfl) (hk := by kernel_rfl)
    · dsimp only [oblS]
      intro v129
      rintro w9 ⟨h9, t129⟩ T' hT'
      obtain ⟨x, ex, hx⟩ := t129
      subst ex
      obtain ⟨v', w', hrun, hown', hb'⟩ := run_append_fresh (P := Try.prog) (ty := 22) (w := w9) (enc := pgEnc) (base := wb.heap.size) Try.underlying22 hpi hpz hpss hpb rfl pgEnc_len (by decide) pgEnc_one hx (HPr.out w9 h9) (by have := HN6.out; omega) (by have := HN6.out; omega) h9.size
      exact relUponZ_append (.tmp 129) (.tmp 130) 22 rfl rfl rfl hrun hb' (hT' _ _ hown')
    dsimp only [List.nil_append, List.cons_append]
    apply zs_det (mask := [false, false, false]) (S := (Below wb.heap.size wb)) (m := (fun w => Below w.heap.size w)) (x := .agg #[.slice A5 fn2 c5, .slice A9 kn2 c9]) (hS := by rfl) (hm := by rfl) (hg := by kernel_rfl) (hk := by kernel_rfl)
    · dsimp only [oblS]
      rintro w9 h9
      have hc9 := (bcell h9).1
      go_simp
      exact ⟨Below.refl _ _, rfl⟩
    dsimp only [List.nil_append, List.cons_append]
    apply zs_any (mask := [false, false, false, true]) (S := (Below wb.heap.size wb)) (m := (fun w => Below w.heap.size w)) (T := fun v W => ∃ x, v = .slice (some ⟨x, 0, none⟩) 1 1 ∧ W.heap[x]? = some (.cells #[.slice A5 fn2 c5, .slice A9 kn2 c9] 66 (0, 0))) (hT := fun v w w' hb ⟨x, e, h⟩ => ⟨x, e, (hb.block _ (lt_of_heap h)).trans h⟩) (hf := by kernel_rfl) (hS := by rfl) (hm := by rfl) (hg := by kernel_rfl) (hk := by kernel_rfl)
    · dsimp only [oblS]
      rintro w9 h9 T' hT'
      go_simp
      exact ⟨(Below.refl _ w9).alloc (Nat.le_refl _) _, hT' _ _ ⟨_, rfl, World.alloc_heap_new w9 _⟩⟩
    dsimp only [List.nil_append, List.cons_append]
    apply zs_any (mask := [false, false, true, false, true]) (S := ((fun a b => Below wb.heap.size a b) wb)) (m := (fun a b => Below wb.heap.size a b)) (T := fun v W' => W'.ownsRow wb.heap.size 66 2 v (n' + 1) ((gs' ++ [gN]).flatMap pgEnc)) (hT := fun v w w' hb h => own_keepB h fun g hg => hb.block g (h.lt g hg).2) (hf := by kernel_rfl) (hS := by rfl) (hm := by rfl) (hg := by kernel_rfl) (hk := by kernel_rfl)
    · dsimp only [oblS]
      intro v131 v133
      rintro w9 ⟨⟨h9, t131⟩, t133⟩ T' hT'
      obtain ⟨x, ex, hx⟩ := t133
      subst ex
      obtain ⟨v', w', hrun, hown', hg', hat⟩ := run_append_rows (P := Try.prog) (ty := 22) (enc := pgEnc) (s := [gN]) Try.underlying22 hpi hpz hpss hpb rfl pgEnc_len (by decide) pgEnc_one t131 (rows_of_heap (l := [gN]) (c := 1) pgEnc_len hx (by simp) (by omega) (by simp [HEn.out])) (by have := HN6.out; simp only [List.length_cons, List.length_nil]; omega) (by have := HN6.out; simp only [List.length_cons, List.length_nil]; omega) h9.size
      exact relUponZ_append (.tmp 131) (.tmp 133) 22 rfl rfl rfl hrun ((Below.refl wb.heap.size w9).grown hg' h9.size fun g e => (t131.lt g e).1) (hT' _ _ hown')
    dsimp only [List.nil_append, List.cons_append]
    apply zs_det (mask := [false, false, false, false, false, false]) (S := ((fun a b => Below wb.heap.size a b) wb)) (m := (fun w => Below w.heap.size w)) (hS := by rfl) (hm := by rfl) (hg := by kernel_rfl) (hk := by kernel_rfl)
    · dsimp only [oblS]
      rintro w9 h9
      go_simp
      exact ⟨Below.refl _ _, rfl⟩
    dsimp only [List.nil_append, List.cons_append]
    apply zs_det (mask := [false, false, false, false, false, false, false]) (S := ((fun a b => Below wb.heap.size a b) wb)) (m := (fun w => Below w.heap.size w)) (hS := by rfl) (hm := by rfl) (hg := by kernel_rfl) (hk := by kernel_rfl)
    · dsimp only [oblS]
      rintro w9 h9
      go_simp
      exact ⟨Below.refl _ _, rfl⟩
    dsimp only [List.nil_append, List.cons_append]
    apply zs_any (mask := [false, false, false, false, false, true, false, false]) (S := ((fun a b => Below wb.heap.size a b) wb)) (m := (fun w => Below w.heap.size w)) (T := fun v W' => W'.ownsRow wb.heap.size 66 2 v (n' + 1) ((gs' ++ [gN]).flatMap pgEnc)) (hT := fun v w w' hb h => own_keepB h fun g hg => hb.block g (h.lt g hg).2) (hf := by kernel_rfl) (hS := by rfl) (hm := by rfl) (hg := by kernel_rfl) (hk := by kernel_rfl)
    · dsimp only [oblS]
      intro v134
      rintro w9 ⟨h9, t134⟩ T' hT'
      exact ⟨Below.refl _ _, hT' _ _ t134⟩
    dsimp only [List.nil_append, List.cons_append]
    apply zs_det (mask := [false, false, false, false, false, false, true, false, false]) (S := ((fun a b => Below wb.heap.size a b) wb)) (m := (fun w => Below w.heap.size w)) (hS := by rfl) (hm := by rfl) (hg := by kernel_rfl) (hk := by kernel_rfl)
    · dsimp only [oblS]
      rintro w9 h9
      go_simp
      exact ⟨Below.refl _ _, rfl⟩
    dsimp only [List.nil_append, List.cons_append]
    apply zs_det (mask := [false, false, false, false, false, false, false, false, false, false]) (S := ((fun a b => Below wb.heap.size a b) wb)) (m := (fun w => Below w.heap.size w)) (hS := by rfl) (hm := by rfl) (hg := by kernel_rfl) (hk := by kernel_rfl)
    · dsimp only [oblS]
      rintro w9 h9
      go_simp
      exact ⟨Below.refl _ _, rfl⟩
    dsimp only [List.nil_append, List.cons_append]
    refine zs_end [true, false, true, false, true, false, false, false, false, false, false] (by kernel_rfl) (by kernel_rfl) ?_
    dsimp only [finQ]
    rintro v129 v131 v133 v134 v6 w8 ⟨⟨hb, t134⟩, t6⟩
    obtain ⟨AR, cR, eR, -⟩ := own_rows pgEnc_len (by decide) t6
    subst eR
    have hub : w8.heap[n0 + 1]? = some (.cells #[.int .i64 0, .int .i64 0, .int .i64 0, .int .i64 0, .int .i64 0, .int .i64 0, .int .i64 0, .int .i64 0] 31 (0, 0)) := (hb.block _ (lt_of_heap HSb.out.ub)).trans HSb.out.ub
    have HB8 := hidp hb
    have HT6 := hidp t6
    clear hb t6 t134
    go_simp
    clear x0 x1 x2
    refine wpList_store_at (vs := fEnc ⟨⟨0, 0, 0⟩, 0, 0, 0, 0, 0⟩) 31 (.tmp 9) (.tmp 136) rfl rfl rfl rfl hub (by kernel_rfl) (by simp [fEnc]) (fEnc_one _) ?_
    generalize hwf : w8.setRow (n0 + 1) _ = wf
    have hO : Only (n0 + 1) w8 wf := hwf ▸ Only.setRow _ _ _
    have hu : wf.heap[n0 + 1]? = some (.cells #[.int .i64 0, .int .i64 0, .int .i64 0, .int .i64 0, .int .i64 0, .int .i64 0, .int .i64 0, .int .i64 0] 31 (0, 0)) := hwf ▸ setRow_heap w8 (n0 + 1) _ _ _ _ hub
    have HOf := hidp hO
    have HU := hidp hu
    have m0 := cell_of_heap (o := 0) hu; have m1 := cell_of_heap (o := 1) hu; have m2 := cell_of_heap (o := 2) hu; have m3 := cell_of_heap (o := 3) hu
    have m4 := cell_of_heap (o := 4) hu; have m5 := cell_of_heap (o := 5) hu; have m6 := cell_of_heap (o := 6) hu; have m7 := cell_of_heap (o := 7) hu
    have m8 := lt_of_heap hu
    simp only [List.getElem?_toArray, List.getElem?_cons_zero, List.getElem?_cons_succ] at m0 m1 m2 m3 m4 m5 m6 m7
    clear hwf hO hu hub
    go_simp
    go_wp2_with fail
    (try simp only [Exit.inBlock, Exit.then])
    refine bodyPost_ret (v := .tuple #[.slice AR (n' + 1) cR, .int .i64 (n' : Nat), .bool false, .agg #[.int .i64 0, .int .i64 0, .int .i64 0, .int .i64 0, .int .i64 0, .int .i64 0, .int .i64 0, .int .i64 0], .int .i64 0]) (by simp [results, Try.results46, go_sem, m0, m1, m2, m3, m4, m5, m6, m7]; try rfl) rfl ?_
    have hB := HSb.out.below.trans (HB8.out.mono HSb.out.below.size)
    refine ⟨⟨HOf.out.os.trans hB.os, HOf.out.tape.trans hB.tape, HOf.out.output.trans hB.output, by rw [HOf.out.size]; exact hB.size, fun x hx => (HOf.out.block x (by have := HN0.out; omega)).trans (hB.block x hx)⟩, AR, n' + 1, cR, gs' ++ [gN], n', false, ⟨⟨0, 0, 0⟩, 0, 0, 0, 0, 0⟩, 0, rfl, ?_⟩
    rw [HN0.out, ← HGN.out]
    exact insRes_one HSb.out HPb.out HMa.out.hX HMa.out.hM HFn2.out h4 (by rcases hkk with h | h <;> omega) HB8.out (by rw [HGN.out]; exact HT6.out) HOf.out HSp.out HLn'.out
  · obtain rfl : fn2 = 5 := by omega
    clear h4 hf5
    have HR5 : Hid (∀ W', Below wb.heap.size wb W' → fSl W' W'.heap.size A5 5 c5 F2) := fun W' h => hr5.keep fStable h.size h.block
    have hc5 := hr5.2.1
    have hc5' := hr5.2.2.1
    have hcl : (2 : Int) ≤ (c5 : Int) := by omega
    go_upto_region 24 with fail
    refine wp_region_SF wb.heap.size 7 (fun _ => false) (Nat.le_refl _) (by kernel_rfl) (by kernel_rfl) (by kernel_rfl) ?_
    dsimp only [List.take, List.drop]
    apply relS_any (mask := []) (T := fun v W' => ∃ x, v = .slice (some ⟨x, 0, none⟩) 0 0 ∧ W'.ownsRow wb.heap.size 31 8 v 0 []) (hT := fun v w w' hb ⟨x, e, h⟩ => ⟨x, e, own_keepB h fun g hg => hb.block g (h.lt g hg).2⟩)
    · rfl
    · kernel_rfl
    · kernel_rfl
    · dsimp only [oblS]
      rintro w9 h9 T' hT'
      go_simp
      exact ⟨(Below.refl _ w9).alloc (Nat.le_refl _) _, hT' _ _ ⟨_, rfl, own_emptyP w9 wb.heap.size 8 31 h9.size⟩⟩
    dsimp only [List.nil_append, List.cons_append]
    apply relS_det (mask := [false])
    · rfl
    · kernel_rfl
    · kernel_rfl
    · dsimp only [oblS]
      rintro w9 h9
      go_simp
      exact ⟨Below.refl _ _, rfl⟩
    dsimp only [List.nil_append, List.cons_append]
    apply relS_det (mask := [false, true]) (x := .slice A5 5 c5)
    · rfl
    · kernel_rfl
    · kernel_rfl
    · dsimp only [oblS]
      rintro w9 h9
      have hc9 := (bcell h9).1
      go_simp
      exact ⟨Below.refl _ _, rfl⟩
    dsimp only [List.nil_append, List.cons_append]
    apply relS_det (mask := [false, false, true]) (x := .slice A5 2 c5)
    · rfl
    · kernel_rfl
    · kernel_rfl
    · dsimp only [oblS]
      rintro w9 h9
      go_simp
      exact ⟨Below.refl _ _, rfl⟩
    dsimp only [List.nil_append, List.cons_append]
    apply relS_any (mask := [true, false, false, true]) (T := fun v W' => W'.ownsRow wb.heap.size 31 8 v 2 ((F2.take 2).flatMap fEnc)) (hT := fun v w w' hb h => own_keepB h fun g hg => hb.block g (h.lt g hg).2)
    · rfl
    · kernel_rfl
    · kernel_rfl
    · dsimp only [oblS]
      intro v137
      rintro w9 ⟨h9, t137⟩ T' hT'
      obtain ⟨x, ex, hx⟩ := t137
      subst ex
      obtain ⟨v', w', hrun, hown', hb'⟩ := run_append_fresh (P := Try.prog) (ty := 41) (enc := fEnc) (base := wb.heap.size) Try.underlying41 hfi hfz hfs hfb rfl fEnc_len (by decide) fEnc_one hx ((HR5.out w9 h9).take (m := 2) (by decide)) (by decide) (by decide) h9.size
      exact relUpon_append (.tmp 137) (.tmp 140) 41 rfl rfl rfl hrun hb' (hT' _ _ hown')
    dsimp only [List.nil_append, List.cons_append]
    apply relS_any (mask := [false, false, false, false, true]) (T := fun v W' => ∃ v1, v = .agg #[v1, .slice none 0 0] ∧ W'.ownsRow wb.heap.size 31 8 v1 2 ((F2.take 2).flatMap fEnc)) (hT := fun v w w' hb ⟨v1, e, h1⟩ => ⟨v1, e, own_keepB h1 fun g hg => hb.block g (h1.lt g hg).2⟩)
    · rfl
    · kernel_rfl
    · kernel_rfl
    · dsimp only [oblS]
      intro v141
      rintro w9 ⟨h9, t141⟩ T' hT'
      obtain ⟨A1, c1, e1, -⟩ := own_rows fEnc_len (by decide) t141
      subst e1
      go_simp
      exact ⟨Below.refl _ _, hT' _ _ ⟨_, rfl, t141⟩⟩
    dsimp only [List.nil_append, List.cons_append]
    apply relS_any (mask := [false, false, false, false, false, false]) (T := fun v W' => ∃ X, v = .pointer (some ⟨X, 0, none⟩) ∧ wb.heap.size ≤ X ∧ W'.heap[X]? = some (.cells #[.slice none 0 0, .slice none 0 0] 66 (0, 0))) (hT := fun v w w' hb ⟨X, e, h1, h2⟩ => ⟨X, e, h1, (hb.block _ (lt_of_heap h2)).trans h2⟩)
    · rfl
    · kernel_rfl
    · kernel_rfl
    · dsimp only [oblS]
      rintro w9 h9 T' hT'
      go_simp
      exact ⟨(Below.refl _ w9).alloc (Nat.le_refl _) _, hT' _ _ ⟨_, rfl, h9.size, World.alloc_heap_new w9 _⟩⟩
    dsimp only [List.nil_append, List.cons_append]
    refine relS_end (by rfl) ?_
    dsimp only [finS]
    rintro v137 v141 v142 v24 w8 ⟨⟨⟨⟨hb, t137⟩, t141⟩, t142⟩, t24⟩
    obtain ⟨v1, e1, o1⟩ := t142
    obtain ⟨X7, e7, hX7, hb7⟩ := t24
    obtain ⟨A7, c7, e2, hr7⟩ := own_rows fEnc_len (by decide) o1
    subst e1 e7 e2
    have hne : ∀ x, (Value.slice A7 2 c7).ownBlock = some x → x ≠ X7 := fun x e ex => by
      obtain ⟨cs, h⟩ := own_kindP o1 e
      rw [ex, hb7] at h
      injection h with h
      injection h with _ h
      exact absurd h (by decide)
    have HN1 := hidp (nwP hX7 hb7 o1 hne)
    have u0 := lt_of_heap hb7
    have u3 := frozen_of_heap (o := 0) hb7
    have u4 := frozen_of_heap (o := 1) hb7
    have u1 := cell_of_heap (o := 0) hb7
    have u2 := cell_of_heap (o := 1) hb7
    simp only [List.getElem?_toArray, List.getElem?_cons_zero, List.getElem?_cons_succ] at u1 u2
    obtain ⟨wc, hwc⟩ : ∃ W, ((w8.setCell ⟨X7, 0, none⟩ (.slice A7 2 c7)).setCell ⟨X7, 1, none⟩ (.slice none 0 0)) = W := ⟨_, rfl⟩
    have HN2 := HN1.out
    rw [hwc] at HN2
    have HBc := hidp (hb.trans HN2.1)
    have HNc := hidp HN2.2
    have HSc := hidp (HSb.out.later HBc.out)
    have HPc := hidp (HPb.out.later HBc.out)
    clear HN1 HN2 t137 t141 o1 hr7 hne hX7 hb7
    go_simp
    clear x0 x1 x2
    obtain ⟨⟨x0, x1, x2⟩, -⟩ := HSc.out.cells
    have hcf := fun W => run_cut_low (P := Try.prog) W Try.underlying41 hfi A5 5 c5 3 .i64 (3 : Int) rfl (by decide)
    rw [hfs] at hcf
    go_upto_region 25 with fail
    clear u0 u1 u2 u3 u4 hwc
    refine wp_region_SF wc.heap.size 7 (fun _ => false) (Nat.le_refl _) (by kernel_rfl) (by kernel_rfl) (by kernel_rfl) ?_
    dsimp only [List.take, List.drop]
    apply relS_any (mask := []) (T := fun v W' => ∃ x, v = .slice (some ⟨x, 0, none⟩) 0 0 ∧ W'.ownsRow wc.heap.size 31 8 v 0 []) (hT := fun v w w' hb ⟨x, e, h⟩ => ⟨x, e, own_keepB h fun g hg => hb.block g (h.lt g hg).2⟩)
    · rfl
    · kernel_rfl
    · kernel_rfl
    · dsimp only [oblS]
      rintro w9 h9 T' hT'
      go_simp
      exact ⟨(Below.refl _ w9).alloc (Nat.le_refl _) _, hT' _ _ ⟨_, rfl, own_emptyP w9 wc.heap.size 8 31 h9.size⟩⟩
    dsimp only [List.nil_append, List.cons_append]
    apply relS_det (mask := [false])
    · rfl
    · kernel_rfl
    · kernel_rfl
    · dsimp only [oblS]
      rintro w9 h9
      go_simp
      exact ⟨Below.refl _ _, rfl⟩
    dsimp only [List.nil_append, List.cons_append]
    apply relS_det (mask := [false, true]) (x := .slice A5 5 c5)
    · rfl
    · kernel_rfl
    · kernel_rfl
    · dsimp only [oblS]
      rintro w9 h9
      have hc9 := (bcell h9).1
      go_simp
      exact ⟨Below.refl _ _, rfl⟩
    dsimp only [List.nil_append, List.cons_append]
    apply relS_det (mask := [false, false, true]) (x := .slice (cutA A5 c5 3 8) 2 (c5 - 3))
    · rfl
    · kernel_rfl
    · kernel_rfl
    · dsimp only [oblS]
      rintro w9 h9
      go_simp
      exact ⟨Below.refl _ _, rfl⟩
    dsimp only [List.nil_append, List.cons_append]
    apply relS_any (mask := [true, false, false, true]) (T := fun v W' => W'.ownsRow wc.heap.size 31 8 v 2 ((F2.drop 3).flatMap fEnc)) (hT := fun v w w' hb h => own_keepB h fun g hg => hb.block g (h.lt g hg).2)
    · rfl
    · kernel_rfl
    · kernel_rfl
    · dsimp only [oblS]
      intro v143
      rintro w9 ⟨h9, t143⟩ T' hT'
      obtain ⟨x, ex, hx⟩ := t143
      subst ex
      obtain ⟨v', w', hrun, hown', hb'⟩ := run_append_fresh (P := Try.prog) (ty := 41) (enc := fEnc) (base := wc.heap.size) Try.underlying41 hfi hfz hfs hfb rfl fEnc_len (by decide) fEnc_one hx ((HR5.out w9 (HBc.out.trans (h9.mono HBc.out.size))).cut (m := 3) (by decide)) (by decide) (by decide) h9.size
      exact relUpon_append (.tmp 143) (.tmp 146) 41 rfl rfl rfl hrun hb' (hT' _ _ hown')
    dsimp only [List.nil_append, List.cons_append]
    apply relS_any (mask := [false, false, false, false, true]) (T := fun v W' => ∃ v1, v = .agg #[v1, .slice none 0 0] ∧ W'.ownsRow wc.heap.size 31 8 v1 2 ((F2.drop 3).flatMap fEnc)) (hT := fun v w w' hb ⟨v1, e, h1⟩ => ⟨v1, e, own_keepB h1 fun g hg => hb.block g (h1.lt g hg).2⟩)
    · rfl
    · kernel_rfl
    · kernel_rfl
    · dsimp only [oblS]
      intro v147
      rintro w9 ⟨h9, t147⟩ T' hT'
      obtain ⟨A1, c1, e1, -⟩ := own_rows fEnc_len (by decide) t147
      subst e1
      go_simp
      exact ⟨Below.refl _ _, hT' _ _ ⟨_, rfl, t147⟩⟩
    dsimp only [List.nil_append, List.cons_append]
    apply relS_any (mask := [false, false, false, false, false, false]) (T := fun v W' => ∃ X, v = .pointer (some ⟨X, 0, none⟩) ∧ wc.heap.size ≤ X ∧ W'.heap[X]? = some (.cells #[.slice none 0 0, .slice none 0 0] 66 (0, 0))) (hT := fun v w w' hb ⟨X, e, h1, h2⟩ => ⟨X, e, h1, (hb.block _ (lt_of_heap h2)).trans h2⟩)
    · rfl
    · kernel_rfl
    · kernel_rfl
    · dsimp only [oblS]
      rintro w9 h9 T' hT'
      go_simp
      exact ⟨(Below.refl _ w9).alloc (Nat.le_refl _) _, hT' _ _ ⟨_, rfl, h9.size, World.alloc_heap_new w9 _⟩⟩
    dsimp only [List.nil_append, List.cons_append]
    refine relS_end (by rfl) ?_
    dsimp only [finS]
    rintro v143 v147 v148 v25 w8 ⟨⟨⟨⟨hb, t143⟩, t147⟩, t148⟩, t25⟩
    obtain ⟨v1, e1, o1⟩ := t148
    obtain ⟨X8, e8, hX8, hb8⟩ := t25
    obtain ⟨A8, c8, e2, hr8⟩ := own_rows fEnc_len (by decide) o1
    subst e1 e8 e2
    have hne : ∀ x, (Value.slice A8 2 c8).ownBlock = some x → x ≠ X8 := fun x e ex => by
      obtain ⟨cs, h⟩ := own_kindP o1 e
      rw [ex, hb8] at h
      injection h with h
      injection h with _ h
      exact absurd h (by decide)
    have HN1 := hidp (nwP hX8 hb8 o1 hne)
    have u0 := lt_of_heap hb8
    have u3 := frozen_of_heap (o := 0) hb8
    have u4 := frozen_of_heap (o := 1) hb8
    have u1 := cell_of_heap (o := 0) hb8
    have u2 := cell_of_heap (o := 1) hb8
    simp only [List.getElem?_toArray, List.getElem?_cons_zero, List.getElem?_cons_succ] at u1 u2
    obtain ⟨wd, hwd⟩ : ∃ W, ((w8.setCell ⟨X8, 0, none⟩ (.slice A8 2 c8)).setCell ⟨X8, 1, none⟩ (.slice none 0 0)) = W := ⟨_, rfl⟩
    have HN2 := HN1.out
    rw [hwd] at HN2
    have HBd := hidp (hb.trans HN2.1)
    have HNd := hidp HN2.2
    have HNe := hidp (HNc.out.later HBd.out)
    have HSd := hidp (HSc.out.later HBd.out)
    have HPd := hidp (HPc.out.later HBd.out)
    have HX7 : Hid (X7 < X8) := by have := HNd.out.at_; have := lt_of_heap HNc.out.gb; exact (by omega : X7 < X8)
    clear HN1 HN2 t143 t147 o1 hr8 hne hX8 hb8
    go_simp
    clear x0 x1 x2
    obtain ⟨⟨x0, x1, x2⟩, -⟩ := HSd.out.cells
    go_upto_if 152 with fail
    clear u0 u1 u2 u3 u4 hwd
    go_cut [24] (fun s24 wx => ∃ v7 v8 : Value, s24 = .pointer (some ⟨X7, 0, none⟩) ∧ RiS f n0 X (.slice A5 5 c5) (.slice A9 kn2 c9) F2 K2 w wx ∧ PgM gs n0 M A' n' c' gs' wx ∧ Below wb.heap.size wb wx ∧ NwP wb.heap.size X7 (.slice A7 2 c7) v7 (F2.take 2) (K2.take 3) wx ∧ NwP wc.heap.size X8 (.slice A8 2 c8) v8 (F2.drop 3) (K2.drop 3) wx)
    case first =>
      by_cases hk0 : kn2 = 0
      · have hk0' : ¬ (0 < kn2) := by omega
        have HK0 : Hid (K2 = []) := List.eq_nil_of_length_eq_zero (by have := HKn2.out; omega)
        clear hk0
        go_wp2_with fail
        go_meet
        exact ⟨_, _, rfl, HSd.out, HPd.out, HBc.out.trans (HBd.out.mono HBc.out.size), by rw [HK0.out]; exact HNe.out, by rw [HK0.out]; exact HNd.out⟩
      have hk0' : 0 < kn2 := by omega
      obtain rfl : kn2 = 6 := by omega
      clear hk0
      have hc9k := hr9.2.1
      have hc9' := hr9.2.2.1
      have hcl9 : (3 : Int) ≤ (c9 : Int) := by omega
      have hb7 := HNe.out.gb
      have u0 := lt_of_heap hb7
      have u3 := frozen_of_heap (o := 1) hb7
      have HBD : Hid (Below wb.heap.size wb wd) := hidp (HBc.out.trans (HBd.out.mono HBc.out.size))
      go_upto_region 27 with fail
      refine wp_region_SF wd.heap.size 6 (fun _ => false) (Nat.le_refl _) (by kernel_rfl) (by kernel_rfl) (by kernel_rfl) ?_
      dsimp only [List.take, List.drop]
      apply relS_any (mask := []) (T := fun v W' => ∃ x, v = .slice (some ⟨x, 0, none⟩) 0 0 ∧ W'.ownsRow wd.heap.size 3 1 v 0 []) (hT := fun v w w' hb ⟨x, e, h⟩ => ⟨x, e, own_keepB h fun g hg => hb.block g (h.lt g hg).2⟩)
      · rfl
      · kernel_rfl
      · kernel_rfl
      · dsimp only [oblS]
        rintro w9 h9 T' hT'
        go_simp
        exact ⟨(Below.refl _ w9).alloc (Nat.le_refl _) _, hT' _ _ ⟨_, rfl, own_emptyP w9 wd.heap.size 1 3 h9.size⟩⟩
      dsimp only [List.nil_append, List.cons_append]
      apply relS_det (mask := [false])
      · rfl
      · kernel_rfl
      · kernel_rfl
      · dsimp only [oblS]
        rintro w9 h9
        go_simp
        exact ⟨Below.refl _ _, rfl⟩
      dsimp only [List.nil_append, List.cons_append]
      apply relS_det (mask := [false, true]) (x := .slice A9 6 c9)
      · rfl
      · kernel_rfl
      · kernel_rfl
      · dsimp only [oblS]
        rintro w9 h9
        have hc9 := (bcell h9).1
        go_simp
        exact ⟨Below.refl _ _, rfl⟩
      dsimp only [List.nil_append, List.cons_append]
      apply relS_det (mask := [false, false, true]) (x := .slice A9 3 c9)
      · rfl
      · kernel_rfl
      · kernel_rfl
      · dsimp only [oblS]
        rintro w9 h9
        go_simp
        exact ⟨Below.refl _ _, rfl⟩
      dsimp only [List.nil_append, List.cons_append]
      apply relS_any (mask := [true, false, false, true]) (T := fun v W' => W'.ownsRow wd.heap.size 3 1 v 3 ((K2.take 3).flatMap iEnc)) (hT := fun v w w' hb h => own_keepB h fun g hg => hb.block g (h.lt g hg).2)
      · rfl
      · kernel_rfl
      · kernel_rfl
      · dsimp only [oblS]
        intro v153
        rintro w9 ⟨h9, t153⟩ T' hT'
        obtain ⟨x, ex, hx⟩ := t153
        subst ex
        obtain ⟨v', w', hrun, hown', hb'⟩ := run_append_fresh (P := Try.prog) (ty := 23) (w := w9) (enc := iEnc) (base := wd.heap.size) Try.underlying23 hii hiz his hib rfl iEnc_len (by decide) iEnc_one hx ((HR9.out w9 (HBD.out.trans (h9.mono HBD.out.size))).take (m := 3) (by decide)) (by decide) (by decide) h9.size
        exact relUpon_append (.tmp 153) (.tmp 156) 23 rfl rfl rfl hrun hb' (hT' _ _ hown')
      dsimp only [List.nil_append, List.cons_append]
      apply relS_det (mask := [false, false, false, false, false])
      · rfl
      · kernel_rfl
      · kernel_rfl
      · dsimp only [oblS]
        rintro w9 h9
        go_simp
        exact ⟨Below.refl _ _, rfl⟩
      dsimp only [List.nil_append, List.cons_append]
      refine relS_end (by rfl) ?_
      dsimp only [finS]
      rintro v153 v157 w8 ⟨⟨hb, t153⟩, t157⟩
      obtain ⟨E7, d7, e27, -⟩ := own_rows iEnc_len (by decide) t157
      subst e27
      have hk7 := nwK (HNe.out.later hb) HBD.out.size (lt_of_heap HNe.out.gb) t157
      have hg7 := (HNe.out.later hb).gb
      have u0 := lt_of_heap hg7
      have u3 := frozen_of_heap (o := 1) hg7
      have u1 := cell_of_heap (o := 1) hg7
      simp only [List.getElem?_toArray, List.getElem?_cons_zero, List.getElem?_cons_succ] at u1
      have hn8 := (HNd.out.later hb).only (Only.setCell w8 X7 1 (.slice E7 3 d7)) hg7 (by have := HX7.out; omega)
      have hbk := (HBD.out.trans (hb.mono HBD.out.size)).trans hk7.1
      obtain ⟨wk, hwk⟩ : ∃ W, w8.setCell ⟨X7, 1, none⟩ (.slice E7 3 d7) = W := ⟨_, rfl⟩
      rw [hwk] at hk7 hn8 hbk
      have HBk := hidp hbk
      have HN7k := hidp hk7.2
      have HN8k := hidp hn8
      clear hk7 hn8 hbk hg7 hb t153 t157
      go_simp
      have HSk := hidp (HSb.out.later HBk.out)
      have HPk := hidp (HPb.out.later HBk.out)
      clear x0 x1 x2
      obtain ⟨⟨x0, x1, x2⟩, -⟩ := HSk.out.cells
      have hcf9 := fun W => run_cut_low (P := Try.prog) W Try.underlying23 hii A9 6 c9 3 .i64 (3 : Int) rfl (by decide)
      rw [his] at hcf9
      go_upto_region 28 with fail
      clear u0 u1 u3 hwk
      refine wp_region_SF wk.heap.size 6 (fun _ => false) (Nat.le_refl _) (by kernel_rfl) (by kernel_rfl) (by kernel_rfl) ?_
      dsimp only [List.take, List.drop]
      apply relS_any (mask := []) (T := fun v W' => ∃ x, v = .slice (some ⟨x, 0, none⟩) 0 0 ∧ W'.ownsRow wk.heap.size 3 1 v 0 []) (hT := fun v w w' hb ⟨x, e, h⟩ => ⟨x, e, own_keepB h fun g hg => hb.block g (h.lt g hg).2⟩)
      · rfl
      · kernel_rfl
      · kernel_rfl
      · dsimp only [oblS]
        rintro w9 h9 T' hT'
        go_simp
        exact ⟨(Below.refl _ w9).alloc (Nat.le_refl _) _, hT' _ _ ⟨_, rfl, own_emptyP w9 wk.heap.size 1 3 h9.size⟩⟩
      dsimp only [List.nil_append, List.cons_append]
      apply relS_det (mask := [false])
      · rfl
      · kernel_rfl
      · kernel_rfl
      · dsimp only [oblS]
        rintro w9 h9
        go_simp
        exact ⟨Below.refl _ _, rfl⟩
      dsimp only [List.nil_append, List.cons_append]
      apply relS_det (mask := [false, true]) (x := .slice A9 6 c9)
      · rfl
      · kernel_rfl
      · kernel_rfl
      · dsimp only [oblS]
        rintro w9 h9
        have hc9 := (bcell h9).1
        go_simp
        exact ⟨Below.refl _ _, rfl⟩
      dsimp only [List.nil_append, List.cons_append]
      apply relS_det (mask := [false, false, true]) (x := .slice (cutA A9 c9 3 1) 3 (c9 - 3))
      · rfl
      · kernel_rfl
      · kernel_rfl
      · dsimp only [oblS]
        rintro w9 h9
        go_simp
        exact ⟨Below.refl _ _, rfl⟩
      dsimp only [List.nil_append, List.cons_append]
      apply relS_any (mask := [true, false, false, true]) (T := fun v W' => W'.ownsRow wk.heap.size 3 1 v 3 ((K2.drop 3).flatMap iEnc)) (hT := fun v w w' hb h => own_keepB h fun g hg => hb.block g (h.lt g hg).2)
      · rfl
      · kernel_rfl
      · kernel_rfl
      · dsimp only [oblS]
        intro v159
        rintro w9 ⟨h9, t159⟩ T' hT'
        obtain ⟨x, ex, hx⟩ := t159
        subst ex
        obtain ⟨v', w', hrun, hown', hb'⟩ := run_append_fresh (P := Try.prog) (ty := 23) (w := w9) (enc := iEnc) (base := wk.heap.size) Try.underlying23 hii hiz his hib rfl iEnc_len (by decide) iEnc_one hx ((HR9.out w9 (HBk.out.trans (h9.mono HBk.out.size))).cut (m := 3) (by decide)) (by decide) (by decide) h9.size
        exact relUpon_append (.tmp 159) (.tmp 162) 23 rfl rfl rfl hrun hb' (hT' _ _ hown')
      dsimp only [List.nil_append, List.cons_append]
      apply relS_det (mask := [false, false, false, false, false])
      · rfl
      · kernel_rfl
      · kernel_rfl
      · dsimp only [oblS]
        rintro w9 h9
        go_simp
        exact ⟨Below.refl _ _, rfl⟩
      dsimp only [List.nil_append, List.cons_append]
      refine relS_end (by rfl) ?_
      dsimp only [finS]
      rintro v159 v163 w8 ⟨⟨hb, t159⟩, t163⟩
      obtain ⟨E8, d8, e28, -⟩ := own_rows iEnc_len (by decide) t163
      subst e28
      have hk8 := nwK (HN8k.out.later hb) (by have := lt_of_heap HN8k.out.gb; have := HN8k.out.at_; omega) (lt_of_heap HN8k.out.gb) t163
      have hg8 := (HN8k.out.later hb).gb
      have u0 := lt_of_heap hg8
      have u3 := frozen_of_heap (o := 1) hg8
      have u1 := cell_of_heap (o := 1) hg8
      simp only [List.getElem?_toArray, List.getElem?_cons_zero, List.getElem?_cons_succ] at u1
      have hn7 := (HN7k.out.later hb).only (Only.setCell w8 X8 1 (.slice E8 3 d8)) hg8 (by have := HX7.out; omega)
      have hbm := (HBk.out.trans (hb.mono HBk.out.size)).trans (hk8.1.mono HBc.out.size)
      obtain ⟨wm, hwm⟩ : ∃ W, w8.setCell ⟨X8, 1, none⟩ (.slice E8 3 d8) = W := ⟨_, rfl⟩
      rw [hwm] at hk8 hn7 hbm
      have HBm := hidp hbm
      have HN8m := hidp hk8.2
      have HN7m := hidp hn7
      clear hk8 hn7 hbm hg8 hb t159 t163
      go_simp
      go_wp2_with fail
      go_meet
      exact ⟨_, _, rfl, HSb.out.later HBm.out, HPb.out.later HBm.out, HBm.out, HN7m.out, HN8m.out⟩
    case rest =>
    obtain ⟨v7, v8, rfl, hs, hp, hbe, hn7, hn8⟩ := hcut
    rename World => we
    have HSe := hidp hs
    have HPe := hidp hp
    have HBe := hidp hbe
    have HN7 := hidp hn7
    have HN8 := hidp hn8
    clear hs hp hbe hn7 hn8
    clear x0 x1 x2
    obtain ⟨⟨x0, x1, x2⟩, -⟩ := HSe.out.cells
    obtain ⟨E7, d7, e7, -⟩ := own_rows iEnc_len (by decide) HN7.out.ko
    obtain ⟨E8, d8, e8, -⟩ := own_rows iEnc_len (by decide) HN8.out.ko
    subst e7 e8
    obtain ⟨k7, hk7⟩ : ∃ n, (K2.take 3).length = n := ⟨_, rfl⟩
    obtain ⟨k8, hk8⟩ : ∃ n, (K2.drop 3).length = n := ⟨_, rfl⟩
    have HM7 := HN7.out
    have HM8 := HN8.out
    rw [hk7] at HM7
    rw [hk8] at HM8
    replace HN7 := hidp HM7
    replace HN8 := hidp HM8
    clear HM7 HM8 hk7 hk8
    have z0 := cell_of_heap (o := 0) HN7.out.gb
    have z1 := cell_of_heap (o := 1) HN7.out.gb
    have z2 := cell_of_heap (o := 0) HN8.out.gb
    have z3 := cell_of_heap (o := 1) HN8.out.gb
    simp only [List.getElem?_toArray, List.getElem?_cons_zero, List.getElem?_cons_succ] at z0 z1 z2 z3
    obtain ⟨yb, yo, y, hyA, _, hy, d0, d1, d2, d3, d4, d5, d6, dd7⟩ := fSl.get (HR5.out we HBe.out) (show 2 < 5 by decide)
    have hix2 : ∀ W, (Instr.indexAt 41 (.slice A5 5 c5) (.int .i64 2)).run Try.prog W = .ok (.pointer (some ⟨yb, yo + 2 * 8, none⟩)) W := fun W => ix_FactsP (k := 2) hyA (by decide) W
    obtain ⟨yp, hyp⟩ : ∃ p, yo + 2 * 8 = p := ⟨_, rfl⟩
    rw [hyp] at hix2 d0 d1 d2 d3 d4 d5 d6 dd7
    have HYb : Hid (n0 + 2 ≤ yb) := own_ne HSe.out.fo hyA
    have HYv : Hid (F2.getD 2 default = y) := by show _ = _; rw [List.getD_eq_getElem?_getD, hy]; rfl
    obtain ⟨g7, hg7⟩ : ∃ g : Pq, ⟨A7, 2, c7, F2.take 2, E7, k7, d7, K2.take 3⟩ = g := ⟨_, rfl⟩
    obtain ⟨g8, hg8⟩ : ∃ g : Pq, ⟨A8, 2, c8, F2.drop 3, E8, k8, d8, K2.drop 3⟩ = g := ⟨_, rfl⟩
    have HG7 := hidp hg7
    have HG8 := hidp hg8
    have HPr : Hid (∀ W', Below we.heap.size we W' → pgSl W' W'.heap.size A' n' c' gs') := fun W' h => HPe.out.rows.keep (Rep.flat_stable _) h.size h.block
    have HA1 : Hid (∀ W' x, Below we.heap.size we W' → we.heap.size ≤ x → W'.heap[x]? = some (.cells #[] 66 (0, 0)) → ∃ v' w', (Builtin.append_ #[22, 22] 22 #[.slice (some ⟨x, 0, none⟩) 0 0, .slice A' n' c']).run Try.prog W' = .ok v' w' ∧ (∃ A c, v' = .slice A n' c ∧ w'.ownsRow we.heap.size 66 2 (.slice A n' c) n' (gs'.flatMap pgEnc) ∧ Below W'.heap.size W' w')) := fun W' x hb hx hh => by
      have hown : W'.ownsRow we.heap.size 66 2 (.slice (some ⟨x, 0, none⟩) 0 0) 0 (([] : List Pq).flatMap pgEnc) := ⟨by simp, .inr ⟨x, 0, #[], rfl, hx, hh, Nat.le_refl _, by unfold maxLen; omega, by simp, by simp⟩⟩
      obtain ⟨v', w', hrun, hown', hb'⟩ := run_append_fresh (P := Try.prog) (ty := 22) (w := W') (enc := pgEnc) (base := we.heap.size) Try.underlying22 hpi hpz hpss hpb rfl pgEnc_len (by decide) pgEnc_one hown (HPr.out W' hb) (by have := HN6.out; omega) (by have := HN6.out; omega) hb.size
      obtain ⟨A1, c1, rfl, -⟩ := own_rows pgEnc_len (by decide) hown'
      exact ⟨_, w', hrun, A1, c1, rfl, hown', hb'⟩
    have HA2 : Hid (∀ W' A c x, Below we.heap.size we W' → W'.ownsRow we.heap.size 66 2 (.slice A n' c) n' (gs'.flatMap pgEnc) → W'.heap[x]? = some (.cells #[.slice A7 2 c7, .slice E7 k7 d7, .slice A8 2 c8, .slice E8 k8 d8] 66 (0, 0)) → ∃ v' w', (Builtin.append_ #[22, 22] 22 #[.slice A n' c, .slice (some ⟨x, 0, none⟩) 2 2]).run Try.prog W' = .ok v' w' ∧ (∃ A1 c1, v' = .slice A1 (n' + 2) c1 ∧ w'.ownsRow we.heap.size 66 2 (.slice A1 (n' + 2) c1) (n' + 2) ((gs' ++ [g7, g8]).flatMap pgEnc) ∧ Below we.heap.size we w')) := fun W' A c x hb ho hh => by
      obtain ⟨v', w', hrun, hown', hg', hat⟩ := run_append_rows (P := Try.prog) (ty := 22) (enc := pgEnc) (s := [g7, g8]) Try.underlying22 hpi hpz hpss hpb rfl pgEnc_len (by decide) pgEnc_one ho (rows_of_heap (l := [g7, g8]) (c := 2) pgEnc_len hh (by simp) (by omega) (by rw [← HG7.out, ← HG8.out]; simp [pgEnc])) (by have := HN6.out; simp only [List.length_cons, List.length_nil]; omega) (by have := HN6.out; simp only [List.length_cons, List.length_nil]; omega) hb.size
      obtain ⟨A1, c1, rfl, -⟩ := own_rows pgEnc_len (by decide) hown'
      exact ⟨_, w', hrun, A1, c1, rfl, hown', hb.trans ((Below.refl we.heap.size W').grown hg' hb.size fun g e => (ho.lt g e).1)⟩
    have HUb := hidp HSe.out.ub
    have HXn : Hid (n0 + 2 ≤ X ∧ X < M ∧ n0 + 2 ≤ X7 ∧ n0 + 2 ≤ X8) := ⟨HMa.out.hX, HMa.out.hM, by have := HN7.out.at_; have := lt_of_heap HSb.out.ub; omega, by have := HN8.out.at_; have := HBc.out.size; have := lt_of_heap HSb.out.ub; omega⟩
    clear hyA hy hyp hg7 hg8
    have hwn : IntKind.i64.wrap ((n' : Int) + 1) = ((n' + 1 : Nat) : Int) := by
      rw [show ((n' + 1 : Nat) : Int) = (n' : Int) + 1 by omega]
      exact IntWalk.i64_in _ (by have := HN6.out; omega)
    have HOne : Hid (∀ w' y8, Below we.heap.size we w' → Only (n0 + 1) w' y8 → (fun w' => w'.cell? ⟨X, 0, none⟩ = some (.slice A5 5 c5) ∧ w'.cell? ⟨X7, 0, none⟩ = some (.slice A7 2 c7) ∧ w'.cell? ⟨X7, 1, none⟩ = some (.slice E7 k7 d7) ∧ w'.cell? ⟨X8, 0, none⟩ = some (.slice A8 2 c8) ∧ w'.cell? ⟨X8, 1, none⟩ = some (.slice E8 k8 d8) ∧ w'.cell? ⟨yb, yp, none⟩ = some (.int .i64 y.key.kind) ∧ w'.cell? ⟨yb, yp + 1, none⟩ = some (.int .i64 y.key.subj) ∧ w'.cell? ⟨yb, yp + 2, none⟩ = some (.int .i64 y.key.obj) ∧ w'.cell? ⟨yb, yp + 3, none⟩ = some (.int .i64 y.val) ∧ w'.cell? ⟨yb, yp + 4, none⟩ = some (.int .i64 y.fr) ∧ w'.cell? ⟨yb, yp + 5, none⟩ = some (.int .i64 y.to) ∧ w'.cell? ⟨yb, yp + 6, none⟩ = some (.int .i64 y.known) ∧ w'.cell? ⟨yb, yp + 7, none⟩ = some (.int .i64 y.no)) y8) := fun w' y8 hb hO => by
      have hc : ∀ {x o : Nat} {v : Value}, x ≠ n0 + 1 → we.cell? ⟨x, o, none⟩ = some v → y8.cell? ⟨x, o, none⟩ = some v := fun {x o v} hx h => by
        rw [World.cell?, hO.block x hx]
        exact cellB hb h
      have := HXn.out
      have := HYb.out
      exact ⟨hc (by omega) x0, hc (by omega) z0, hc (by omega) z1, hc (by omega) z2, hc (by omega) z3, hc (by omega) d0, hc (by omega) d1, hc (by omega) d2, hc (by omega) d3, hc (by omega) d4, hc (by omega) d5, hc (by omega) d6, hc (by omega) dd7⟩
    have HKeep : Hid (∀ w', Below we.heap.size we w' → (fun w' => w'.cell? ⟨X, 0, none⟩ = some (.slice A5 5 c5) ∧ w'.cell? ⟨X7, 0, none⟩ = some (.slice A7 2 c7) ∧ w'.cell? ⟨X7, 1, none⟩ = some (.slice E7 k7 d7) ∧ w'.cell? ⟨X8, 0, none⟩ = some (.slice A8 2 c8) ∧ w'.cell? ⟨X8, 1, none⟩ = some (.slice E8 k8 d8) ∧ w'.cell? ⟨yb, yp, none⟩ = some (.int .i64 y.key.kind) ∧ w'.cell? ⟨yb, yp + 1, none⟩ = some (.int .i64 y.key.subj) ∧ w'.cell? ⟨yb, yp + 2, none⟩ = some (.int .i64 y.key.obj) ∧ w'.cell? ⟨yb, yp + 3, none⟩ = some (.int .i64 y.val) ∧ w'.cell? ⟨yb, yp + 4, none⟩ = some (.int .i64 y.fr) ∧ w'.cell? ⟨yb, yp + 5, none⟩ = some (.int .i64 y.to) ∧ w'.cell? ⟨yb, yp + 6, none⟩ = some (.int .i64 y.known) ∧ w'.cell? ⟨yb, yp + 7, none⟩ = some (.int .i64 y.no)) w') := fun w' hb => ⟨cellB hb x0, cellB hb z0, cellB hb z1, cellB hb z2, cellB hb z3, cellB hb d0, cellB hb d1, cellB hb d2, cellB hb d3, cellB hb d4, cellB hb d5, cellB hb d6, cellB hb dd7⟩
    go_upto_region 29 with fail
    go_region_held3 (fun w' => w'.cell? ⟨X, 0, none⟩ = some (.slice A5 5 c5) ∧ w'.cell? ⟨X7, 0, none⟩ = some (.slice A7 2 c7) ∧ w'.cell? ⟨X7, 1, none⟩ = some (.slice E7 k7 d7) ∧ w'.cell? ⟨X8, 0, none⟩ = some (.slice A8 2 c8) ∧ w'.cell? ⟨X8, 1, none⟩ = some (.slice E8 k8 d8) ∧ w'.cell? ⟨yb, yp, none⟩ = some (.int .i64 y.key.kind) ∧ w'.cell? ⟨yb, yp + 1, none⟩ = some (.int .i64 y.key.subj) ∧ w'.cell? ⟨yb, yp + 2, none⟩ = some (.int .i64 y.key.obj) ∧ w'.cell? ⟨yb, yp + 3, none⟩ = some (.int .i64 y.val) ∧ w'.cell? ⟨yb, yp + 4, none⟩ = some (.int .i64 y.fr) ∧ w'.cell? ⟨yb, yp + 5, none⟩ = some (.int .i64 y.to) ∧ w'.cell? ⟨yb, yp + 6, none⟩ = some (.int .i64 y.known) ∧ w'.cell? ⟨yb, yp + 7, none⟩ = some (.int .i64 y.no))
      (first | exact HS9.out | (refine HKeep.out _ ?_; repeat (first | exact HB9.out | exact HB8.out | exact Below.refl _ _ | refine Below.drew ?_ | refine Below.alloc ?_ (by first | exact HB8.out.size | exact Nat.le_refl _ | simp) _)))
      (first
        | (refine step_append_cps rfl (.tmp 165) (.tmp 166) 22 rfl rfl rfl (HA1.out _ _ (by repeat (first | exact Below.refl _ _ | refine Below.drew ?_ | refine Below.alloc ?_ (by simp) _)) (by simp) (by first | exact World.alloc_heap_new _ _ | exact alloc2_new _ _ _ | exact alloc2_old _ _ _)) ?_
           rintro v' w' ⟨A0, c0, rfl, ho8, hb8⟩
           have hB8 : Below we.heap.size we w' := Below.trans (by repeat (first | exact Below.refl _ _ | refine Below.drew ?_ | refine Below.alloc ?_ (by simp) _)) (hb8.mono (by first | (simp; done) | (simp; omega)))
           have HB8 := hidp hB8
           have HO8 := hidp ho8
           (try have HH8 := hidp ((hb8.block _ (by first | (simp; done) | (simp; omega))).trans (alloc2_new _ _ _)))
           (try have HH9 := hidp ((hb8.block _ (by first | (simp; done) | (simp; omega))).trans (alloc2_old _ _ _)))
           clear hb8 hB8 ho8)
        | (refine step_append_cps rfl (.tmp 167) (.tmp 170) 22 rfl rfl rfl (HA2.out _ _ _ _ (by repeat (first | exact HB8.out | refine Below.alloc ?_ HB8.out.size _)) (by first | exact HO8.out | exact HO8.out.alloc _) (by first | exact World.alloc_heap_new _ _ | exact HH8.out | exact HH9.out)) ?_
           rintro v' w' ⟨A0, c0, rfl, ho9, hb9⟩
           have HB9 := hidp hb9
           have HO9 := hidp ho9
           have g9 := (hb9.block _ (lt_of_heap HUb.out)).trans HUb.out
           obtain ⟨y1, y2, y3, y4, y5, y6, y7, y8, h88⟩ := chain8 g9 y
           have e08 := h88.e0; have p08 := h88.p0; have r08 := h88.r0; have l08 := h88.l0; have e18 := h88.e1; have p18 := h88.p1; have r18 := h88.r1; have l18 := h88.l1; have e28 := h88.e2; have p28 := h88.p2; have r28 := h88.r2; have l28 := h88.l2; have e38 := h88.e3; have p38 := h88.p3; have r38 := h88.r3; have l38 := h88.l3; have e48 := h88.e4; have p48 := h88.p4; have r48 := h88.r4; have l48 := h88.l4; have e58 := h88.e5; have p58 := h88.p5; have r58 := h88.r5; have l58 := h88.l5; have e68 := h88.e6; have p68 := h88.p6; have r68 := h88.r6; have l68 := h88.l6; have e78 := h88.e7; have p78 := h88.p7; have r78 := h88.r7; have l78 := h88.l7; 
           have HOn := hidp h88.only
           have HY8 := hidp h88.heap
           have HS9 := hidp (HOne.out _ _ hb9 h88.only)
           clear h88 hb9 ho9 g9))
    all_goals
      have hu := HY8.out
      have m0 := cell_of_heap (o := 0) hu; have m1 := cell_of_heap (o := 1) hu; have m2 := cell_of_heap (o := 2) hu; have m3 := cell_of_heap (o := 3) hu
      have m4 := cell_of_heap (o := 4) hu; have m5 := cell_of_heap (o := 5) hu; have m6 := cell_of_heap (o := 6) hu; have m7 := cell_of_heap (o := 7) hu
      simp only [List.getElem?_toArray, List.getElem?_cons_zero, List.getElem?_cons_succ] at m0 m1 m2 m3 m4 m5 m6 m7
      clear hu
      go_wp2_with fail
      (try simp only [Exit.inBlock, Exit.then])
      refine bodyPost_ret (v := .tuple #[.slice A0 (n' + 2) c0, .int .i64 (n' : Nat), .bool true, .agg #[.int .i64 y.key.kind, .int .i64 y.key.subj, .int .i64 y.key.obj, .int .i64 y.val, .int .i64 y.fr, .int .i64 y.to, .int .i64 y.known, .int .i64 y.no], .int .i64 ((n' + 1 : Nat) : Int)]) (by simp [results, Try.results46, go_sem, m0, m1, m2, m3, m4, m5, m6, m7]; try rfl) rfl ?_
      have hB := HSb.out.below.trans ((HBe.out.trans (HB9.out.mono HBe.out.size)).mono HSb.out.below.size)
      have hO := HOn.out
      refine ⟨⟨hO.os.trans hB.os, hO.tape.trans hB.tape, hO.output.trans hB.output, by rw [hO.size]; exact hB.size, fun x hx => (hO.block x (by have := HN0.out; omega)).trans (hB.block x hx)⟩, A0, n' + 2, c0, gs' ++ [g7, g8], n', true, y, n' + 1, rfl, ?_⟩
      rw [HN0.out, ← HG7.out, ← HG8.out, ← HYv.out]
      have hw1 := lt_of_heap HSb.out.ub
      have hw2 := HBc.out.size
      have hw3 := HBe.out.size
      exact insRes_two HPe.out HXn.out.1 HXn.out.2.1 HFn2.out (show n0 + 2 ≤ wb.heap.size by omega) (show n0 + 2 ≤ wc.heap.size by omega) (show n0 + 2 ≤ we.heap.size by omega) (Nat.le_refl _) HN7.out HN8.out (by have := HKn2.out; rcases hkk with h | h <;> omega) HB9.out (by rw [HG7.out, HG8.out]; exact HO9.out) hO HSp.out HLn'.out
end Go.Proofs.Ytpnfpdkoeednhaa

