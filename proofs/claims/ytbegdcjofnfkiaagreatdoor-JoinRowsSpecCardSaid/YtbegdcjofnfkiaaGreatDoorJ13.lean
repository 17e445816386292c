/- join.fulfilling as an iterator (printed by tools/gen107.py). -/
import Derived.Test.YtbegdcjofnfkiaaGreatDoorJ7
import Derived.Test.YtbegdcjofnfkiaaGreatDoorJ12
namespace Go.Proofs.YtbegdcjofnfkiaaGreatDoor
open Go.RowKit Go.Shelf Go.Sort

theorem run_store_fn {P : Program} {w : World} {a : Addr} {f : Fn} {fr cs : Array Value} {m : Mode} : (store a (.func f fr cs) m).run P w = stored P w a (.func f fr cs) m := run_store P w a _ m rfl
attribute [local go_sem] run_store_fn
theorem tvals_mono (n : Nat) (x : List Int) (V : Array Value) (C C' : Nat → Prop) (W : World) (h : TVals n x V C W) (hc : ∀ b, C' b → C b) : TVals n x V C' W := by
  obtain ⟨v, h1, h2, h3⟩ := h
  exact ⟨v, h1, h2, fun g hg hb => h3 g hg (hc g hb)⟩
theorem LvSt.keepT {FA : Option Addr} {fn fc N base G cap lo : Nat} {sl : Nat → Value} {dn : Nat → List Cnd} {xs : Nat → List Clo} {W W' : World} (h : LvSt FA fn fc N base G cap sl dn xs W) (hx : ∀ i, ∀ x ∈ xs i, Clo.low lo x) (hlo : lo ≤ base) (hb : ∀ (b : Nat) (cs : Array Value) (t : TypeId), lo ≤ b → W.heap[b]? = some (.cells cs t (0, 0)) → t ≠ 23 → t ≠ 136 → W'.heap[b]? = W.heap[b]?) : LvSt FA fn fc N base G cap sl dn xs W' := by
  obtain ⟨cs, h1, h2⟩ := h.row
  refine ⟨h.big, h.low, ⟨cs, (hb _ _ _ (Nat.le_trans hlo h.low) h1 (by decide) (by decide)).trans h1, h2⟩, fun i hi => own_keepB (h.own i hi) fun g hg => ?_, fun i hi => ⟨(h.clo i hi).1, fun j x c hxj hc => ?_⟩, h.apart, h.slices⟩
  · have hlt := (h.own i hi).lt g hg
    rcases (h.own i hi).2 with ⟨e, _⟩ | ⟨g', cap', cs', hv, hg', hh, _⟩
    · rw [e] at hg; cases hg
    · rw [hv] at hg
      injection hg with hg
      subst hg
      exact hb _ _ _ (Nat.le_trans hlo hlt.1) hh (by decide) (by decide)
  · have h3 := (h.clo i hi).2 j x c hxj hc
    have h4 := hx i x (List.mem_of_getElem? hxj)
    cases c <;> cases x <;> simp only [CloFor, Clo.low] at h3 h4 ⊢
    · exact ⟨(hb _ _ _ h4.1 h3.1 (by decide) (by decide)).trans h3.1, (hb _ _ _ h4.2 h3.2 (by decide) (by decide)).trans h3.2⟩
    · exact (hb _ _ _ h4 h3 (by decide) (by decide)).trans h3
theorem Clo.low_mono {lo lo' : Nat} {x : Clo} (h : lo' ≤ lo) (hx : Clo.low lo x) : Clo.low lo' x := by
  cases x <;> simp only [Clo.low] at hx ⊢ <;> omega
set_option maxRecDepth 100000 in
set_option maxHeartbeats 4000000 in
theorem ful_seq (q : Qu) (FA : Option Addr) (fn fc : Nat) (l : List Fc) (n₀ Bf Bq : Nat) (w : World) (hq : QuIn q w n₀) (hl : fSl w n₀ FA fn fc l) (hfn : fn ≤ 100000) (hvo : VarsOk q) (hsz : q.names.length ≤ 8 ∧ q.atoms.length ≤ 16 ∧ q.tests.length ≤ 16)
    (hbf : FBox FA fn fc Bf w) (hbq : QBox q Bq w) :
    SeqT Tryz.prog 76 #[.pointer (some ⟨Bf, 0, none⟩), .pointer (some ⟨Bq, 0, none⟩)] TVals 1 (fun ys => ys = fulJ q l) (fun b => b < n₀ ∨ b = Bf ∨ b = Bq) w := by
  intro li J Jx C W hS hC hJ hJx hY h0
  have hkp : ∀ b, b < n₀ → W.heap[b]? = w.heap[b]? := fun b hb => (hS b (.inl hb)).2.1
  have hn0 : n₀ ≤ W.heap.size := by
    rcases Nat.lt_or_ge W.heap.size n₀ with h | h
    · have := (hS W.heap.size (.inl h)).1; omega
    · exact h
  have gbf : FBox FA fn fc Bf W := ⟨(hS Bf (.inr (.inl rfl))).2.1.trans hbf.box⟩
  have gbq : QBox q Bq W := ⟨(hS Bq (.inr (.inr rfl))).2.1.trans hbq.box⟩
  have HQ : Hid (∀ W', Below W.heap.size W W' → QuIn q W' W'.heap.size) := fun W' hb => hq.keep (Nat.le_trans hn0 hb.size) fun b h => (hb.block b (by omega)).trans (hkp b h)
  have HF : Hid (∀ W', Below W.heap.size W W' → fSl W' W'.heap.size FA fn fc l) := fun W' hb => hl.keep (Rep.flat_stable _) (Nat.le_trans hn0 hb.size) fun b h => (hb.block b (by omega)).trans (hkp b h)
  have HS := hidp hS
  have HC := hidp hC
  have HJ := hidp hJ
  have HJx := hidp hJx
  have HY := hidp hY
  have H0 := hidp h0
  have HVo := hidp hvo
  have HSz := hidp hsz
  have HGf := hidp gbf
  have HGq := hidp gbq
  have HLen : Hid (q.nn = q.names.length) := hq.1.1
  have HQ0 := hidp hq
  have HL0 := hidp hl
  have HKp := hidp hkp
  have x0 := gbq.cells.1
  have x1 := gbq.cells.2.1
  have x2 := gbq.cells.2.2.1
  have x3 := gbq.cells.2.2.2.1
  have lq := gbq.cells.2.2.2.2
  have xf := cell_of_heap (o := 0) gbf.box
  simp only [List.getElem?_toArray, List.getElem?_cons_zero] at xf
  have lf := lt_of_cell xf
  obtain ⟨W0, hW0⟩ : ∃ W0, W.alloc (.cells #[.func (.yield li) #[] #[]] 135) = W0 := ⟨_, rfl⟩
  have hb0 : Below W.heap.size W W0 := hW0 ▸ (Below.refl _ _).alloc (Nat.le_refl _) _
  have hy0 : W0.heap[W.heap.size]? = some (.cells #[.func (.yield li) #[] #[]] 135 (0, 0)) := by rw [← hW0]; exact World.alloc_heap_new _ _
  have HW0 := hidp hW0
  have HB0 := hidp hb0
  have HY0 := hidp hy0
  clear hS hC hJ hJx hY h0 hq hl hvo hsz hbf hbq hkp gbf gbq hW0 hb0 hy0
  show Calls Tryz.prog 76 #[.func (.yield li) #[] #[], .pointer (some ⟨Bf, 0, none⟩), .pointer (some ⟨Bq, 0, none⟩)] W _
  go_enter Tryz.func76, Tryz.ntmps76
  go_wp2_with fail
  rw [HW0.out]

  have xf0 := (bcell HB0.out).1 _ 0 lf |>.trans xf
  have y0 := (bcell HB0.out).1 _ 0 lq |>.trans x0
  have y1 := (bcell HB0.out).1 _ 1 lq |>.trans x1
  have y2 := (bcell HB0.out).1 _ 2 lq |>.trans x2
  have y3 := (bcell HB0.out).1 _ 3 lq |>.trans x3
  have lf0 := lt_of_cell xf0
  have lq0 := lt_of_cell y0
  refine wp_region_S W0.heap.size 7 (fun _ => false) (Nat.le_refl _) (by kernel_rfl) (by kernel_rfl) (by kernel_rfl) ?_
  dsimp only [List.take, List.drop]
  apply relS_det (mask := []) (x := .slice FA fn fc)
  · rfl
  · kernel_rfl
  · kernel_rfl
  · dsimp only [oblS]
    rintro w9 h9
    have hc9 := (bcell h9).1
    go_simp
    exact ⟨Below.refl _ _, rfl⟩
  dsimp only [List.nil_append, List.cons_append]
  apply relS_any (mask := [true]) (T := fun v w => ∃ A c, v = .slice A (domR l).length c ∧ w.ownsRow W0.heap.size 3 1 (.slice A (domR l).length c) (domR l).length ((domR l).flatMap iEnc)) (hT := fun v w w' hb ⟨A, c, hv, ho⟩ => ⟨A, c, hv, own_keepB ho fun g hg => hb.block g (ho.lt g hg).2⟩)
  · rfl
  · kernel_rfl
  · kernel_rfl
  · dsimp only [oblS]
    rintro w9 h9 T' hT'
    go_simp
    refine (domain_any FA fn fc l w9 (HF.out _ (HB0.out.trans (h9.mono HB0.out.size))) hfn).mono ?_
    rintro e w7 ⟨A, c, rfl, ho, hb7⟩
    exact ⟨_, rfl, hb7, hT' _ _ ⟨A, c, rfl, own_monoB ho h9.size⟩⟩
  dsimp only [List.nil_append, List.cons_append]
  apply relS_det (mask := [false, false]) (x := .agg #[.slice q.nA q.nn q.nc, .slice q.sA q.sn q.sc, .slice q.aA q.an q.ac, .slice q.tA q.tn q.tc])
  · rfl
  · kernel_rfl
  · kernel_rfl
  · dsimp only [oblS]
    rintro w9 h9
    have hc9 := (bcell h9).1
    go_simp
    exact ⟨Below.refl _ _, rfl⟩
  dsimp only [List.nil_append, List.cons_append]
  apply relS_det (mask := [false, false, false]) (x := .slice FA fn fc)
  · rfl
  · kernel_rfl
  · kernel_rfl
  · dsimp only [oblS]
    rintro w9 h9
    have hc9 := (bcell h9).1
    go_simp
    exact ⟨Below.refl _ _, rfl⟩
  dsimp only [List.nil_append, List.cons_append]
  apply relS_any (mask := [false, false, true, true]) (T := fun v w => ∃ base G cap sl xs, v = .slice (some ⟨G, 0, none⟩) (q.nn + 1) cap ∧ W0.heap.size ≤ base ∧ LvSt FA fn fc q.nn base G cap sl (cndsJ q) xs w ∧ ∀ i, ∀ x ∈ xs i, Clo.low W0.heap.size x) (hT := fun v w w' hb ⟨base, G, cap, sl, xs, hv, h1, h2, h3⟩ => ⟨base, G, cap, sl, xs, hv, h1, h2.later hb, h3⟩)
  · rfl
  · kernel_rfl
  · kernel_rfl
  · dsimp only [oblS]
    rintro w9 h9 T' hT'
    go_simp
    refine (levels_any q FA fn fc w9 (HQ.out _ (HB0.out.trans (h9.mono HB0.out.size))) HVo.out HSz.out).mono ?_
    rintro e w7 ⟨G, cap, sl, xs, rfl, h1, h2, hb7⟩
    exact ⟨_, rfl, hb7, hT' _ _ ⟨_, G, cap, sl, xs, rfl, by have := h9.size; omega, h1, fun i x hx => Clo.low_mono h9.size (h2 i x hx)⟩⟩
  dsimp only [List.nil_append, List.cons_append]
  apply relS_any (mask := [false, false, false, false, false]) (T := fun v w => ∃ b, v = .pointer (some ⟨b, 0, none⟩) ∧ W0.heap.size ≤ b ∧ w.heap[b]? = some (.cells #[.slice none 0 0] 23 (0, 0))) (hT := fun v w w' hb ⟨b, hv, hl, hh⟩ => ⟨b, hv, hl, (hb.block b (lt_of_heap hh)).trans hh⟩)
  · rfl
  · kernel_rfl
  · kernel_rfl
  · dsimp only [oblS]
    rintro w9 h9 T' hT'
    go_simp
    exact ⟨(Below.refl _ _).alloc (Nat.le_refl _) _, hT' _ _ ⟨_, rfl, h9.size, World.alloc_heap_new _ _⟩⟩
  dsimp only [List.nil_append, List.cons_append]
  apply relS_any (mask := [false, false, false, false, false, false]) (T := fun v w => ∃ b, v = .pointer (some ⟨b, 0, none⟩) ∧ W0.heap.size ≤ b ∧ w.heap[b]? = some (.cells #[.slice none 0 0] 136 (0, 0))) (hT := fun v w w' hb ⟨b, hv, hl, hh⟩ => ⟨b, hv, hl, (hb.block b (lt_of_heap hh)).trans hh⟩)
  · rfl
  · kernel_rfl
  · kernel_rfl
  · dsimp only [oblS]
    rintro w9 h9 T' hT'
    go_simp
    exact ⟨(Below.refl _ _).alloc (Nat.le_refl _) _, hT' _ _ ⟨_, rfl, h9.size, World.alloc_heap_new _ _⟩⟩
  dsimp only [List.nil_append, List.cons_append]
  refine relS_end (by rfl) ?_
  dsimp only [finS]
  -- rintro v9 v12 v4 v5 w8 ⟨⟨⟨⟨hb, t9⟩, t12⟩, t4⟩, t5⟩
  rintro v9 v12 v4 v5 w8 ⟨⟨⟨⟨hb8, ⟨DA, dc, rfl, hown⟩⟩, ⟨base, G, cap, sl, xs, rfl, hba, hlv, hlow⟩⟩, ⟨Bd, rfl, hBd, hgd⟩⟩, ⟨Bl, rfl, hBl, hgl⟩⟩
  have hne : Bd ≠ Bl := fun e => by rw [e, hgl] at hgd; injection hgd with h; injection h with _ h; exact absurd h (by decide)
  have hB8 := HB0.out.trans (hb8.mono HB0.out.size)
  have xd8 := cell_of_heap (o := 0) hgd
  have xl8 := cell_of_heap (o := 0) hgl
  have fd8 := frozen_of_heap (o := 0) hgd
  have fl8 := frozen_of_heap (o := 0) hgl
  simp only [List.getElem?_toArray, List.getElem?_cons_zero] at xd8 xl8
  have ld8 := lt_of_cell xd8
  have ll8 := lt_of_cell xl8
  obtain ⟨W9, hW9⟩ : ∃ W9, (w8.setCell ⟨Bd, 0, none⟩ (.slice DA (domR l).length dc)).setCell ⟨Bl, 0, none⟩ (.slice (some ⟨G, 0, none⟩) (q.nn + 1) cap) = W9 := ⟨_, rfl⟩
  have hz9 : W9.heap.size = w8.heap.size := by rw [← hW9]; simp [World.setCell]
  have hgd9 : W9.heap[Bd]? = some (.cells #[.slice DA (domR l).length dc] 23 (0, 0)) := by rw [← hW9]; exact heap_set_ne (heap_set1 hgd _) hne _ _
  have hgl9 : W9.heap[Bl]? = some (.cells #[.slice (some ⟨G, 0, none⟩) (q.nn + 1) cap] 136 (0, 0)) := by rw [← hW9]; exact heap_set1 (heap_set_ne hgl (Ne.symm hne) _ _) _
  have hk9 : ∀ b, b ≠ Bd → b ≠ Bl → W9.heap[b]? = w8.heap[b]? := fun b h1 h2 => by rw [← hW9]; exact (heap_set_ne (heap_set_ne rfl h1 _ _) h2 _ _)
  have hb9 : Below W0.heap.size W0 W9 := by rw [← hW9]; exact (hb8.setCell (p := ⟨Bd, 0, none⟩) hBd _).setCell (p := ⟨Bl, 0, none⟩) hBl _
  have hB9 := HB0.out.trans (hb9.mono HB0.out.size)
  obtain ⟨i0, hi, hz, hs, hbb⟩ := info_parts iInfo
  obtain ⟨W10, hrun, hown10, hgr⟩ := run_make_own (P := Tryz.prog) W9 W.heap.size 23 3 i0 (.int .i64 0) 1 Tryz.underlying23 hi hz hs .i64 .i64 q.nn (by rw [hbb]; have := HSz.out.1; have := HLen.out; omega) (by have := HSz.out.1; have := HLen.out; unfold maxLen; omega) (by have := hB9.size; omega)
  have hB10 : Below W9.heap.size W9 W10 := (Below.refl _ _).grown hgr (Nat.le_refl _) (fun r hr => by cases hr)
  have z0 := (bcell hB9).1 _ 0 lq |>.trans x0
  have HRun := hidp hrun
  obtain ⟨W11, hW11⟩ : ∃ W11, W10.alloc (.cells #[.slice (some ⟨W9.heap.size, 0, none⟩) 0 q.nn] 23) = W11 := ⟨_, rfl⟩
  have hz11 : W11.heap.size = W10.heap.size + 1 := by rw [← hW11]; simp
  have hgv11 : W11.heap[W10.heap.size]? = some (.cells #[.slice (some ⟨W9.heap.size, 0, none⟩) 0 q.nn] 23 (0, 0)) := by rw [← hW11]; exact World.alloc_heap_new _ _
  obtain ⟨ws, hws⟩ : ∃ ws, W11.alloc (.cells #[.func (.func 78) #[] #[.pointer (some ⟨Bl, 0, none⟩), .pointer (some ⟨W10.heap.size, 0, none⟩), .pointer (some ⟨Bq, 0, none⟩), .pointer (some ⟨W.heap.size, 0, none⟩), .pointer (some ⟨Bd, 0, none⟩), .pointer (some ⟨W10.heap.size + 1, 0, none⟩)]] 29) = ws := ⟨_, rfl⟩
  have hgt : ws.heap[W10.heap.size + 1]? = some (.cells #[.func (.func 78) #[] (capsT Bl W10.heap.size Bq W.heap.size Bd (W10.heap.size + 1))] 29 (0, 0)) := by rw [← hws, ← hz11]; exact World.alloc_heap_new _ _
  have hgv : ws.heap[W10.heap.size]? = some (.cells #[.slice (some ⟨W9.heap.size, 0, none⟩) 0 q.nn] 23 (0, 0)) := by rw [← hws, Below.heap_alloc _ _ _ (by omega)]; exact hgv11
  have hbs : Below W10.heap.size W10 ws := by rw [← hws, ← hW11]; exact ((Below.refl _ _).alloc (Nat.le_refl _) _).alloc (by simp) _
  have hzs : ws.heap.size = W10.heap.size + 2 := by rw [← hws]; simp; omega
  have HWs := hidp hws
  rw [← hW11, hz9] at hws
  have HWs := hidp hws
  rw [← hW9] at z0 hrun
  have lq9 := lt_of_cell z0
  have HW9 := hidp hW9
  have HZ9 := hidp hz9
  have HGd9 := hidp hgd9
  have HGl9 := hidp hgl9
  have HK9 := hidp hk9
  have HB9 := hidp hb9
  have HB9' := hidp hB9
  have HOwn10 := hidp hown10
  have HB10 := hidp hB10
  have HOwn := hidp hown
  have HLv := hidp hlv
  have HLow := hidp hlow
  have HBa := hidp hba
  have HGt := hidp hgt
  have HGv := hidp hgv
  have HBs := hidp hbs
  have HZs := hidp hzs
  have HNe := hidp hne
  have HB8 := hidp hb8
  have HGd := hidp hgd
  have HGl := hidp hgl
  clear hW9 hgd hgl hz9 hgd9 hgl9 hk9 hb9 hB9 hown10 hgr hB10 HRun hown hlv hlow hgt hgv hbs hzs hws hW11 hz11 hgv11
  go_simp
  go_wp2_with fail
  rw [HWs.out]
  have z9 := HZ9.out
  have zs := HZs.out
  have b10 := HB10.out.size
  have b9 := HB9.out.size
  have b0 := HB0.out.size
  have hgvlt := (HOwn10.out.lt W9.heap.size rfl).2
  have hgvge := (HOwn10.out.lt W9.heap.size rfl).1
  have hy0lt := lt_of_heap HY0.out
  have hn0' : n₀ ≤ W.heap.size := hn0
  have hBWs : Below W.heap.size W ws := HB9'.out.trans ((HB10.out.mono HB9'.out.size).trans (HBs.out.mono (by have := HB9'.out.size; omega)))
  have hB9s : Below W9.heap.size W9 ws := HB10.out.trans (HBs.out.mono b10)
  have hB0s : Below W0.heap.size W0 ws := HB9.out.trans (hB9s.mono b9)
  obtain ⟨St, hSt⟩ : ∃ St : Nat → Prop, (fun b => b < n₀ ∨ b = Bf ∨ b = Bq ∨ (W.heap.size ≤ b ∧ b < ws.heap.size ∧ b ≠ W10.heap.size ∧ b ≠ W9.heap.size)) = St := ⟨_, rfl⟩
  have hnew : ∀ b, W.heap.size ≤ b → b < w8.heap.size → St b := fun b h1 h2 => by rw [← hSt]; exact .inr (.inr (.inr ⟨h1, by omega, by omega, by omega⟩))
  have hws8 : ∀ b, b < w8.heap.size → b ≠ Bd → b ≠ Bl → ws.heap[b]? = w8.heap[b]? := fun b h1 h2 h3 => (hB9s.block b (by omega)).trans (HK9.out b h2 h3)
  have hne8 : ∀ b (cs : Array Value) t, w8.heap[b]? = some (.cells cs t (0, 0)) → t ≠ 23 → t ≠ 136 → b ≠ Bd ∧ b ≠ Bl := fun b cs t hh h1 h2 =>
    ⟨fun e => by rw [e, HGd.out] at hh; injection hh with hh; injection hh with _ hh; exact h1 hh.symm, fun e => by rw [e, HGl.out] at hh; injection hh with hh; injection hh with _ hh; exact h2 hh.symm⟩
  refine (try_any q FA fn fc l G cap base Bl W10.heap.size Bq W.heap.size Bd (W10.heap.size + 1) li W.heap.size DA (domR l).length dc (domR l) ws St sl xs J Jx (fulJ q l) HVo.out ⟨HLen.out, by have := HSz.out.1; have := HLen.out; omega⟩
    (hnew _ (by omega) ll8) ((hB9s.block _ (by omega)).trans HGl9.out) (by rw [← hSt]; exact .inr (.inr (.inl rfl))) ⟨(hBWs.block _ lq).trans HGq.out.box⟩ (hnew _ (Nat.le_refl _) (by omega)) ((hB0s.block _ hy0lt).trans HY0.out) (hnew _ (by omega) ld8) ((hB9s.block _ (by omega)).trans HGd9.out)
    (by rw [← hSt]; exact .inr (.inr (.inr ⟨by omega, by omega, by omega, by omega⟩))) HGt.out ?_ ?_ ?_ ?_ HJ.out HJx.out (fun m pre x suf C1 W1 V h => HY.out m pre x suf C1 W1 V h.symm) q.nn [] [] [] C ws (by simp) ?_ (HJ.out _ _ _ _ H0.out (kept_of_below hBWs fun b h1 h2 => by omega)) ?_ ?_).mono ?_
  · intro wr hs hz
    refine HLv.out.keepT HLow.out HBa.out fun b cs t h1 h2 h3 h4 => ?_
    obtain ⟨n1, n2⟩ := hne8 b cs t h2 h3 h4
    exact (hs b (hnew b (by omega) (lt_of_heap h2))).trans (hws8 b (lt_of_heap h2) n1 n2)
  · intro wr hs hz
    exact HL0.out.keep (Rep.flat_stable _) (by omega) fun b h => (hs b (by rw [← hSt]; exact .inl h)).trans ((hBWs.block b (by omega)).trans (HKp.out b h))
  · intro wr hs hz
    have ho : wr.ownsRow W0.heap.size 3 1 (.slice DA (domR l).length dc) (domR l).length ((domR l).flatMap iEnc) := own_keepB HOwn.out fun g hg => by
      have h1 := HOwn.out.lt g hg
      obtain ⟨n1, n2⟩ : g ≠ Bd ∧ g ≠ Bl := by
        rcases HOwn.out.2 with ⟨e, _⟩ | ⟨g', cap', cs', hv, hg', hh, _⟩
        · rw [e] at hg; cases hg
        · rw [hv] at hg
          injection hg with hg
          subst hg
          exact hne8 _ _ _ hh (by decide) (by decide)
      exact (hs g (hnew g (by omega) h1.2)).trans (hws8 g h1.2 n1 n2)
    obtain ⟨A', c', he, hr⟩ := own_rows iEnc_len1 (by decide) ho
    injection he with e1 e2 e3
    subst e1 e3
    exact hr
  · refine ⟨by omega, fun h => ?_⟩
    rw [← hSt] at h
    rcases h with h | h | h | h
    · omega
    · omega
    · omega
    · exact h.2.2.1 rfl
  · unfold fulJ; rw [← HLen.out]; simp
  · refine SeqSt.start (fun b hb => ?_) (fun b hb => by have := HC.out b hb; omega)
    rw [← hSt] at hb
    rcases hb with h | h | h | h
    · exact ⟨by omega, rfl, (HS.out b (.inl h)).2.2⟩
    · exact ⟨by omega, rfl, (HS.out b (.inr (.inl h))).2.2⟩
    · exact ⟨by omega, rfl, (HS.out b (.inr (.inr h))).2.2⟩
    · exact ⟨h.2.1, rfl, fun hc => by have := HC.out b hc; omega⟩
  · refine ⟨⟨_, HGv.out, own_keepB HOwn10.out fun g hg => HBs.out.block g (HOwn10.out.lt g hg).2, fun g hg => ?_⟩, fun hc => by have := HC.out _ hc; omega⟩
    have hg2 : W9.heap.size = g := by injection hg
    subst hg2
    refine ⟨fun hc => by have := HC.out _ hc; omega, fun h => ?_, fun h => by omega⟩
    rw [← hSt] at h
    rcases h with h | h | h | h
    · omega
    · omega
    · omega
    · exact h.2.2.2 rfl
  rintro e W20 ⟨C5, hs5, hf5, hcase⟩
  have HFn : Hid (∃ C', (∃ ys, ys = fulJ q l ∧ J ys C' W20) ∨ Jx C' W20) := ⟨C5, hcase.imp (fun h => ⟨_, rfl, by have := h.2; unfold fulJ; rw [← HLen.out]; simpa using this⟩) (·.2)⟩
  have he : ∃ b : Bool, e = Ending.returned (.bool b) := by
    rcases hcase with ⟨h, _⟩ | ⟨h, _⟩
    · exact ⟨_, h⟩
    · exact ⟨_, h⟩
  obtain ⟨b, rfl⟩ := he
  clear hcase hs5 hf5 hSt hnew hws8 hne8
  go_wp2_with fail
  go_end0
  exact ⟨⟨_, rfl⟩, HFn.out⟩
end Go.Proofs.YtbegdcjofnfkiaaGreatDoor
