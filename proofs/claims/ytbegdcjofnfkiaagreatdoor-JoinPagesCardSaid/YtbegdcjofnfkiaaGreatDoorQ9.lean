/- Several texts in one: J5 Marks. -/
import Derived.Test.YtbegdcjofnfkiaaGreatDoorQ8
import Derived.Test.YtbegdcjofnfkiaaGreatDoorQ1
namespace Go.Proofs.YtbegdcjofnfkiaaGreatDoor
section
open Go.RowKit Go.Shelf
attribute [local go_sem] Oper.semAt_some
abbrev PIn := Addr × Int
def pnEnc (x : PIn) : List Value := [.pointer (some x.1)]
theorem pnEnc_len (x : PIn) : (pnEnc x).length = 1 := rfl
theorem pnEnc_one (x : PIn) : ∀ u ∈ pnEnc x, u.oneCell' = true := by
 intro u hu; simp [pnEnc] at hu; subst hu; rfl
instance : Inhabited PIn := ⟨(⟨0, 0, none⟩, default)⟩
def showsP (b o : Nat) : List Int → Nat → List PIn
 | [], _ => []
 | n :: l, i => (⟨b, o + i, none⟩, n) :: showsP b o l (i + 1)
theorem showsP_append (b o : Nat) (m : List Int) : ∀ (l : List Int) (i : Nat), showsP b o (l ++ m) i = showsP b o l i ++ showsP b o m (i + l.length)
  | [], i => by simp [showsP]
  | a :: l, i => by
    simp only [List.cons_append, showsP, showsP_append b o m l (i + 1), List.length_cons]
    rw [show i + 1 + l.length = i + (l.length + 1) by omega]
theorem showsP_len (b o : Nat) : ∀ (l : List Int) (i : Nat), (showsP b o l i).length = l.length
 | [], _ => rfl
 | a :: l, i => by simp [showsP, showsP_len b o l]
theorem showsP_step {b o k : Nat} {l : List Int} {x : Int} (h : l[k]? = some x) : showsP b o (l.take (k + 1)) 0 = showsP b o (l.take k) 0 ++ [(⟨b, o + k, none⟩, x)] := by
 rw [take_snoc h, showsP_append]
 have : (l.take k).length = k := by rw [List.length_take]; have := (List.getElem?_eq_some_iff.1 h).1; omega
 simp [showsP, this]
def argVar (x : PAr) : List PIn := if x.2.var = true then [(⟨x.1.block, x.1.off + 1, none⟩, x.2.n)] else []
def varP (q : Qu) : List PIn := showsP (blkOf q.sA) (offOf q.sA) q.shows 0 ++ (argP q).flatMap argVar
theorem atomsP_map (b o : Nat) : ∀ (l : List Am) (i : Nat), (atomsP b o l i).map (·.2) = argsA l
 | [], _ => rfl
 | a :: l, i => by simp [atomsP, atomP, argsA, atomsP_map b o l]
theorem testsP_map (b o : Nat) : ∀ (l : List Te) (i : Nat), (testsP b o l i).map (·.2) = argsT l
 | [], _ => rfl
 | a :: l, i => by simp [testsP, testP, argsT, testsP_map b o l]
theorem argP_map (q : Qu) : (argP q).map (·.2) = argsJ q := by simp [argP, atomsP_map, testsP_map, argsJ]
theorem showsP_map (b o : Nat) : ∀ (l : List Int) (i : Nat), (showsP b o l i).map (·.2) = l
 | [], _ => rfl
 | a :: l, i => by simp [showsP, showsP_map b o l]
theorem argVar_map : ∀ l : List PAr, (l.flatMap argVar).map (·.2) = varsA (l.map (·.2))
  | [] => rfl
  | a :: l => by
    simp only [List.flatMap_cons, List.map_append, argVar_map l, List.map_cons, varsA]
    unfold argVar
    cases h : a.2.var <;> simp [h]
theorem varP_map (q : Qu) : (varP q).map (·.2) = varsJ q := by simp [varP, showsP_map, argVar_map, argP_map, varsJ]
theorem argVar_len (l : List PAr) : (l.flatMap argVar).length ≤ l.length := by
  induction l with
  | nil => simp
  | cons a l ih =>
    have : (argVar a).length ≤ 1 := by unfold argVar; split <;> simp
    simp only [List.flatMap_cons, List.length_append, List.length_cons]; omega
theorem mem_atomsP (b o : Nat) : ∀ (l : List Am) (i : Nat) (x : PAr), x ∈ atomsP b o l i → ∃ j a, l[j]? = some a ∧ x ∈ atomP b o (i + j) a
  | [], _, _, h => by cases h
  | a :: l, i, x, h => by
    rcases List.mem_append.1 h with h | h
    · exact ⟨0, a, rfl, h⟩
    · obtain ⟨j, y, h1, h2⟩ := mem_atomsP b o l (i + 1) x h
      exact ⟨j + 1, y, by simpa using h1, by rwa [show i + (j + 1) = i + 1 + j by omega]⟩
theorem mem_testsP (b o : Nat) : ∀ (l : List Te) (i : Nat) (x : PAr), x ∈ testsP b o l i → ∃ j a, l[j]? = some a ∧ x ∈ testP b o (i + j) a
  | [], _, _, h => by cases h
  | a :: l, i, x, h => by
    rcases List.mem_append.1 h with h | h
    · exact ⟨0, a, rfl, h⟩
    · obtain ⟨j, y, h1, h2⟩ := mem_testsP b o l (i + 1) x h
      exact ⟨j + 1, y, by simpa using h1, by rwa [show i + (j + 1) = i + 1 + j by omega]⟩
theorem mem_showsP (b o : Nat) : ∀ (l : List Int) (i : Nat) (x : PIn), x ∈ showsP b o l i → ∃ j n, l[j]? = some n ∧ x = (⟨b, o + (i + j), none⟩, n)
  | [], _, _, h => by cases h
  | a :: l, i, x, h => by
    rcases List.mem_cons.1 h with h | h
    · exact ⟨0, a, rfl, h⟩
    · obtain ⟨j, y, h1, h2⟩ := mem_showsP b o l (i + 1) x h
      exact ⟨j + 1, y, by simpa using h1, by rw [h2, show i + (j + 1) = i + 1 + j by omega]⟩
theorem argP_cells {q : Qu} {W : World} {n₀ : Nat} (ha : amSl W n₀ q.aA q.an q.ac q.atoms) (ht : teSl W n₀ q.tA q.tn q.tc q.tests) {x : PAr} (hx : x ∈ argP q) :
  ∃ b o, x.1 = ⟨b, o, none⟩ ∧ b < n₀ ∧ W.cell? ⟨b, o, none⟩ = some (.bool x.2.var) ∧ W.cell? ⟨b, o + 1, none⟩ = some (.int .i64 x.2.n) := by
 rcases List.mem_append.1 hx with hx | hx
 ·obtain ⟨j, a, h1, h2⟩ := mem_atomsP _ _ _ _ _ hx
  have hj : j < q.an := by rw [ha.1]; exact (List.getElem?_eq_some_iff.1 h1).1
  obtain ⟨b, off, y, cs, hA, hb, hy, hr, hc⟩ := Rows.get ha hj
  rw [h1] at hy
  obtain rfl := Option.some.inj hy
  obtain rfl := hr
  rw [hA, Nat.zero_add] at h2
  simp only [blkOf, offOf, Option.map_some, Option.getD_some, atomP, List.mem_cons, List.not_mem_nil, or_false] at h2
  rcases h2 with rfl | rfl | rfl
  ·exact ⟨b, off + j * 9 + 1, rfl, hb, hc 1 _ rfl, hc 2 _ rfl⟩
  ·exact ⟨b, off + j * 9 + 3, rfl, hb, hc 3 _ rfl, hc 4 _ rfl⟩
  ·exact ⟨b, off + j * 9 + 5, rfl, hb, hc 5 _ rfl, hc 6 _ rfl⟩
 ·obtain ⟨j, a, h1, h2⟩ := mem_testsP _ _ _ _ _ hx
  have hj : j < q.tn := by rw [ht.1]; exact (List.getElem?_eq_some_iff.1 h1).1
  obtain ⟨b, off, y, cs, hA, hb, hy, hr, hc⟩ := Rows.get ht hj
  rw [h1] at hy
  obtain rfl := Option.some.inj hy
  obtain rfl := hr
  rw [hA, Nat.zero_add] at h2
  simp only [blkOf, offOf, Option.map_some, Option.getD_some, testP, List.mem_cons, List.not_mem_nil, or_false] at h2
  rcases h2 with rfl | rfl
  ·exact ⟨b, off + j * 5 + 1, rfl, hb, hc 1 _ rfl, hc 2 _ rfl⟩
  ·exact ⟨b, off + j * 5 + 3, rfl, hb, hc 3 _ rfl, hc 4 _ rfl⟩
theorem varP_cells {q : Qu} {W : World} {n₀ : Nat} (hs : iSl W n₀ q.sA q.sn q.sc q.shows) (ha : amSl W n₀ q.aA q.an q.ac q.atoms) (ht : teSl W n₀ q.tA q.tn q.tc q.tests) {x : PIn} (hx : x ∈ varP q) :
  ∃ b o, x.1 = ⟨b, o, none⟩ ∧ b < n₀ ∧ W.cell? ⟨b, o, none⟩ = some (.int .i64 x.2) := by
 rcases List.mem_append.1 hx with hx | hx
 ·obtain ⟨j, n, h1, rfl⟩ := mem_showsP _ _ _ _ _ hx
  have hj : j < q.sn := by rw [hs.1]; exact (List.getElem?_eq_some_iff.1 h1).1
  obtain ⟨b, off, y, hA, hb, hy, hc⟩ := iSl.get hs hj
  rw [h1] at hy
  obtain rfl := Option.some.inj hy
  refine ⟨b, off + j, ?_, hb, hc⟩
  rw [hA, Nat.zero_add]; rfl
 ·obtain ⟨y, hy, hxy⟩ := List.mem_flatMap.1 hx
  obtain ⟨b, off, h1, h2, h3, h4⟩ := argP_cells ha ht hy
  unfold argVar at hxy
  split at hxy
  ·obtain rfl := List.mem_singleton.1 hxy
   exact ⟨b, off + 1, by rw [h1], h2, h4⟩
  ·cases hxy
theorem intPtr_info : (Tryz.prog.info? 124).map (fun i => (i.zero, i.size, i.bytes)) = some (some (.pointer none), 1, 8) := by kernel_rfl
structure VarSt (W : World) (l : List PIn) (v : Value) (wr : World) : Prop where
 box : wr.heap[W.heap.size]? = some (.cells #[v] 160 (0, 0))
 own : wr.ownsRow (W.heap.size + 1) 124 1 v l.length (l.flatMap pnEnc)
 below : Below W.heap.size W wr
theorem VarSt.push {W : World} {l : List PIn} {v : Value} {wr w8 : World} (h : VarSt W l v wr) (hb : Below wr.heap.size wr w8) (x : PIn) (hl : l.length ≤ 100000) {A : Option Addr} {c : Nat} (hx : Rows 1 (Rep.flat pnEnc) w8 w8.heap.size A 1 c [x]) :
  ∃ A' c' w', (Builtin.append_ #[160, 160] 160 #[v, .slice A 1 c]).run Tryz.prog w8 = .ok (.slice A' (l.length + 1) c') w' ∧ w'.heap[W.heap.size]? = some (.cells #[v] 160 (0, 0)) ∧ w'.cell? ⟨W.heap.size, 0, none⟩ = some v ∧ w'.frozen? ⟨W.heap.size, 0, none⟩ = false ∧ W.heap.size < w'.heap.size ∧
   VarSt W (l ++ [x]) (.slice A' (l.length + 1) c') (w'.setCell ⟨W.heap.size, 0, none⟩ (.slice A' (l.length + 1) c')) ∧ Kept (fun b => b = W.heap.size ∨ v.ownBlock = some b) wr (w'.setCell ⟨W.heap.size, 0, none⟩ (.slice A' (l.length + 1) c')) ∧
   (∀ b, (b = W.heap.size ∨ (Value.slice A' (l.length + 1) c').ownBlock = some b) → b < (w'.setCell ⟨W.heap.size, 0, none⟩ (.slice A' (l.length + 1) c')).heap.size ∧ ((b = W.heap.size ∨ v.ownBlock = some b) ∨ wr.heap.size ≤ b)) := by
 obtain ⟨i0, hi, hz, hs, hbb⟩ := info_parts intPtr_info
 have lB := lt_of_heap h.box
 have hown8 := own_keepB h.own fun g hg => hb.block g (h.own.lt g hg).2
 have hbox8 := (hb.block _ lB).trans h.box
 obtain ⟨v', w', hrun, hown', hg, hat⟩ := run_append_rows (P := Tryz.prog) (ty := 160) (enc := pnEnc) Tryz.underlying160 hi hz hs hbb rfl pnEnc_len (by decide) pnEnc_one hown8 hx (by omega) (by omega) (by have := hb.size; omega)
 have e5 : w'.heap[W.heap.size]? = some (.cells #[v] 160 (0, 0)) := (hg.block _ (lt_of_heap hbox8) (fun e => by have := (h.own.lt _ e.symm).1; omega)).trans hbox8
 obtain ⟨A', c', rfl, _⟩ := own_rows pnEnc_len (by decide) hown'
 refine ⟨A', c', w', hrun, e5, by rw [cell_of_heap e5]; rfl, frozen_of_heap e5, lt_of_heap e5, ⟨heap_set1 e5 _, ?_, ?_⟩, ?_, ?_⟩
 ·have h9 := own_keepB hown' fun g hg => heap_set_ne (w := w') (b := g) (b' := W.heap.size) rfl (by have := (hown'.lt g hg).1; omega) 0 (.slice A' (l.length + 1) c')
  simpa using h9
 ·exact ((h.below.trans (hb.mono h.below.size)).grown hg (by have := hb.size; have := h.below.size; omega) (fun g e => by have := (h.own.lt g e).1; omega)).setCell (Nat.le_refl _) _
 ·exact (((kept_of_below hb (fun b h1 h2 => by omega)).grown hg (fun g e => .inl (.inr e))).setCell (.inl (.inl rfl)) _)
 ·rintro b (h1 | h1)
  ·subst h1
   exact ⟨by simpa [World.setCell] using lt_of_heap e5, .inl (.inl rfl)⟩
  ·refine ⟨by simpa [World.setCell] using (hown'.lt b h1).2, ?_⟩
   rcases hat with h2 | h2
   ·exact .inl (.inr (by rw [← h2, h1]))
   ·rw [h2] at h1
    injection h1 with h1
    have := hb.size
    exact .inr (by omega)
theorem VarSt.kept {W : World} {l : List PIn} {v : Value} {W1 W2 : World} {N : Nat} (h : VarSt W l v W1) (hk : Kept (fun b => N ≤ b ∧ ¬ (b = W.heap.size ∨ v.ownBlock = some b)) W1 W2) (hN : W.heap.size ≤ N) : VarSt W l v W2 :=
 ⟨(hk.block _ (lt_of_heap h.box) (fun e => e.2 (.inl rfl))).trans h.box, own_keepB h.own fun g hg => hk.block g (h.own.lt g hg).2 (fun e => e.2 (.inr hg)), h.below.trans (hk.toBelow h.below.size (fun b hb h => by omega))⟩
theorem VarSt.alloc {W : World} {l : List PIn} {v : Value} {wr : World} (h : VarSt W l v wr) (ob : Obj) : VarSt W l v (wr.alloc ob) :=
 ⟨(Below.heap_alloc _ _ _ (lt_of_heap h.box)).trans h.box, own_keepB h.own fun g hg => Below.heap_alloc _ _ _ (h.own.lt g hg).2, h.below.alloc h.below.size _⟩
set_option maxRecDepth 100000 in
set_option maxHeartbeats 4000000 in
theorem vars1_seq (Bq Q n₀ : Nat) (q : Qu) (w : World)
  (hBq : w.cell? ⟨Bq, 0, none⟩ = some (.pointer (some ⟨Q, 0, none⟩))) (hQ : w.heap[Q]? = some (.cells #[.slice q.nA q.nn q.nc, .slice q.sA q.sn q.sc, .slice q.aA q.an q.ac, .slice q.tA q.tn q.tc] 27 (0, 0)))
  (hs : iSl w n₀ q.sA q.sn q.sc q.shows) (ha : amSl w n₀ q.aA q.an q.ac q.atoms) (ht : teSl w n₀ q.tA q.tn q.tc q.tests) (hl : q.sn ≤ 1000 ∧ q.an ≤ 1000 ∧ q.tn ≤ 1000) :
  SeqC Tryz.prog 96 #[.pointer (some ⟨Bq, 0, none⟩)] (fun x : PIn => #[.pointer (some x.1)]) (varP q) (fun b => b < n₀ ∨ b = Bq ∨ b = Q) w := by
 intro li J Jx C W hS hC hJ hJx hY h0
 refine calls_of_wp_marks Tryz.func96 rfl ?_
 simp only [Tryz.ntmps96, List.size_toArray, List.length_cons, List.length_nil, Nat.reduceAdd, Nat.reduceSub, Array.replicate_succ, Array.replicate_zero, List.push_toArray, List.append_toArray, List.nil_append, List.cons_append]
 refine (wpIn_wide (n := 0)).1 ?_
 have HY := hidp hY
 have HJ := hidp hJ
 have HJx := hidp hJx
 have HJ0 : Hid (∀ wr, Below W.heap.size W wr → J [] C wr ∧ SeqSt (fun b => b < n₀ ∨ b = Bq ∨ b = Q) w W C wr) := fun wr hb => by
  have hk : Kept (fun b => W.heap.size ≤ b ∧ ¬ C b) W wr := kept_of_below hb (fun b h1 h2 => by omega)
  exact ⟨hJ _ _ _ _ h0 hk, (SeqSt.start hS hC).own hk fun b h => h.1⟩
 have HA := hidp ha
 have HT := hidp ht
 have HSh := hidp hs
 have HL := hidp hl
 have HQ := hidp hQ
 have HBQ := hidp hBq
 have haq := hs.2.1
 have hac := hs.2.2.1
 have HSS := hidp hS
 have HCells : Hid (∀ wr, Below W.heap.size W wr → wr.cell? ⟨Bq, 0, none⟩ = some (.pointer (some ⟨Q, 0, none⟩)) ∧ wr.cell? ⟨Q, 1, none⟩ = some (.slice q.sA q.sn q.sc) ∧ wr.heap[Q]? = some (.cells #[.slice q.nA q.nn q.nc, .slice q.sA q.sn q.sc, .slice q.aA q.an q.ac, .slice q.tA q.tn q.tc] 27 (0, 0)) ∧ Bq < wr.heap.size ∧ Q < wr.heap.size ∧ ∀ b, b < n₀ → wr.heap[b]? = w.heap[b]?) := fun wr hb => by
  have hst := ((HJ0.out wr hb).2)
  have h1 := (hst.cell (b := Bq) (o := 0) (.inr (.inl rfl))).trans HBQ.out
  have h2 := (hst.cell (b := Q) (o := 1) (.inr (.inr rfl))).trans (cell_of_heap HQ.out)
  exact ⟨h1, h2, (hst.reads Q (.inr (.inr rfl))).2.1.trans HQ.out, lt_of_cell h1, lt_of_cell h2, fun b hb => (hst.reads b (.inl hb)).2.1⟩
 clear hY hJ hJx ha ht hs hl hQ hBq h0 hS
 obtain ⟨W0, hW0⟩ : ∃ W0, W.alloc (.cells #[.slice none 0 0] 160) = W0 := ⟨_, rfl⟩
 have hv0 : VarSt W [] (.slice none 0 0) W0 := by
  rw [← hW0]
  exact ⟨World.alloc_heap_new _ _, World.ownsRow_nil _ _ _ _, (Below.refl _ W).alloc (Nat.le_refl _) _⟩
 have HV0 := hidp hv0
 have HW0 := hidp hW0
 obtain ⟨e1, e2, e3, e4, e5, _⟩ := HCells.out W (Below.refl _ _)
 clear hW0 hv0
 gi_wp2
 rw [HW0.out]
 gi_loopw [13] (fun i wr => ∃ (k : Nat) (v : Value), k ≤ q.sn ∧ i = .int .i64 k ∧ VarSt W (showsP (blkOf q.sA) (offOf q.sA) (q.shows.take k) 0) v wr) (fun i _ => q.sn - (intOf i).toNat)
 case atStart => exact ⟨0, _, by omega, rfl, HV0.out⟩
 case round =>
  obtain ⟨k, v, hk, rfl, hst⟩ := hrel
  clear e1 e2 e3 e4 e5 HV0 HW0
  obtain ⟨e1, e2, e3, e4, e5, _⟩ := HCells.out wr hst.below
  have hbx := hst.box
  have lB := lt_of_heap hbx
  have hbc : wr.cell? ⟨W.heap.size, 0, none⟩ = some v := by rw [cell_of_heap hbx]; rfl
  have hwl := hst.below.size
  have HST := hidp hst
  clear hst hbx
  by_cases hlt : k < q.sn
  ·have hlt' : (k : Int) < q.sn := by omega
   obtain ⟨b, off, x, hA, hb, hx, _⟩ := iSl.get HSh.out hlt
   have HBO : Hid (blkOf q.sA = b ∧ offOf q.sA = off) := by show _ ∧ _; rw [hA]; exact ⟨rfl, rfl⟩
   rw [hA] at e2
   have HX := hidp hx
   clear hx hA
   gi_wp2
   refine wpIn_wide.2 ?_
   refine wp_region_S wr.heap.size 8 (fun _ => false) (Nat.le_refl _) (by kernel_rfl) (by kernel_rfl) (by kernel_rfl) ?_
   dsimp only [List.take, List.drop]
   apply relS_det (mask := [])
   ·rfl
   ·kernel_rfl
   ·kernel_rfl
   ·dsimp only [oblS]
    rintro w9 h9
    have hc9 := (bcell h9).1
    go_simp
    exact ⟨Below.refl _ _, rfl⟩
   dsimp only [naL, caL]
   apply relS_det (mask := [false])
   ·rfl
   ·kernel_rfl
   ·kernel_rfl
   ·dsimp only [oblS]
    rintro w9 h9
    have hc9 := (bcell h9).1
    go_simp
    exact ⟨Below.refl _ _, rfl⟩
   dsimp only [naL, caL]
   apply relS_det (mask := [false, true])
   ·rfl
   ·kernel_rfl
   ·kernel_rfl
   ·dsimp only [oblS]
    rintro w9 h9
    go_simp
    exact ⟨Below.refl _ _, rfl⟩
   dsimp only [naL, caL]
   apply relS_det (mask := [false, false, true])
   ·rfl
   ·kernel_rfl
   ·kernel_rfl
   ·dsimp only [oblS]
    rintro w9 h9
    go_simp
    exact ⟨Below.refl _ _, rfl⟩
   dsimp only [naL, caL]
   apply relS_det (mask := [false, false, false, true])
   ·rfl
   ·kernel_rfl
   ·kernel_rfl
   ·dsimp only [oblS]
    rintro w9 h9
    have hc9 := (bcell h9).1
    go_simp
    exact ⟨Below.refl _ _, rfl⟩
   dsimp only [naL, caL]
   apply relS_det (mask := [false, false, false, false, false])
   ·rfl
   ·kernel_rfl
   ·kernel_rfl
   ·dsimp only [oblS]
    rintro w9 h9
    go_simp
    exact ⟨Below.refl _ _, rfl⟩
   dsimp only [naL, caL]
   apply relS_det (mask := [false, false, false, false, true, true])
   ·rfl
   ·kernel_rfl
   ·kernel_rfl
   ·dsimp only [oblS]
    rintro w9 h9
    go_simp
    exact ⟨Below.refl _ _, rfl⟩
   dsimp only [naL, caL]
   apply relS_any (mask := [false, false, false, false, false, false, true]) (T := fun v w => ∃ A c, v = .slice A 1 c ∧ Rows 1 (Rep.flat pnEnc) w w.heap.size A 1 c ([((⟨b, off + k, none⟩ : Addr), x)])) (hT := fun v w w' hb ⟨A, c, hv, hh⟩ => ⟨A, c, hv, hh.keep (Rep.flat_stable _) hb.size hb.block⟩)
   ·rfl
   ·kernel_rfl
   ·kernel_rfl
   ·dsimp only [oblS]
    rintro w9 h9 T' hT'
    go_simp
    exact ⟨(Below.refl _ w9).alloc (Nat.le_refl _) _, hT' _ _ ⟨_, _, rfl, rows_of_heap (l := [((⟨b, off + k, none⟩ : Addr), x)]) pnEnc_len (World.alloc_heap_new w9 _) (Nat.le_refl _) (by decide) rfl⟩⟩
   dsimp only [naL, caL]
   refine relS_end (by rfl) ?_
   dsimp only [finS]
   -- rintro v23 w8 ⟨hb, t23⟩
   rintro v23 w8 ⟨hb8, A3, c3, rfl, h3⟩
   have hln : (showsP (blkOf q.sA) (offOf q.sA) (q.shows.take k) 0).length ≤ 100000 := by
    have := HL.out.1; have := HSh.out.1; rw [showsP_len, List.length_take]; omega
   obtain ⟨A5, cc5, w', hrun, _, c5, z5, l5, hst', _, _⟩ := HST.out.push hb8 _ hln h3
   rw [← HBO.out.1, ← HBO.out.2, ← showsP_step HX.out] at hst'
   have HST2 := hidp hst'
   have HRun := hidp hrun
   clear hrun h3 hst' hln hb8 e1 e2 e3 e4 e5
   go_simp
   go_wp2_with (at_builtin; refine wpList_append_known rfl (.tmp 16) (.tmp 23) 160 rfl rfl rfl HRun.out ?_)
   gi_wp2
   exact ⟨⟨k + 1, _, by omega, by go_num, HST2.out⟩, by simp [intOf]; omega⟩
  ·obtain rfl : k = q.sn := by omega
   have hkk : ¬ ((q.sn : Int) < q.sn) := by omega
   have HAll : Hid (q.shows.take q.sn = q.shows) := List.take_of_length_le (by rw [HSh.out.1]; exact Nat.le_refl _)
   rw [HAll.out] at HST
   gi_wp2
   refine ⟨trivial, rfl, callsIn_wide.2 ((args_any Q wr).mono ?_)⟩
   rintro e wq ⟨rfl, rfl⟩
   obtain ⟨Wz, hWz⟩ : ∃ Wz, wr.alloc (.cells #[.pointer (some ⟨Q, 0, none⟩)] 119) = Wz := ⟨_, rfl⟩
   have hstz : VarSt W (showsP (blkOf q.sA) (offOf q.sA) q.shows 0) v Wz := hWz ▸ HST.out.alloc _
   have hbz : Wz.heap[wr.heap.size]? = some (.cells #[.pointer (some ⟨Q, 0, none⟩)] 119 (0, 0)) := hWz ▸ World.alloc_heap_new _ _
   have hzz : Wz.heap.size = wr.heap.size + 1 := by rw [← hWz]; simp
   obtain ⟨f1, f2, f3, f4, f5, f6⟩ := HCells.out Wz hstz.below
   have hseq := args1_seq wr.heap.size Q n₀ q Wz (by rw [cell_of_heap hbz]; rfl) f3 (HA.out.keep (Rep.flat_stable _) (Nat.le_refl _) f6) (HT.out.keep (Rep.flat_stable _) (Nat.le_refl _) f6) HL.out.2
   have HSTZ := hidp hstz
   have HWz := hidp hWz
   have hvB : ∀ g, v.ownBlock = some g → W.heap.size + 1 ≤ g ∧ g < wr.heap.size := fun g hg => HST.out.own.lt g hg
   have HVB := hidp hvB
   have hwz := hstz.below.size
   clear hWz hstz f1 f2 f3 f4 f5 f6 e1 e2 e3 e4 e5 hvB
   gi_wp2
   rw [HWz.out]
   refine wpIn_wide.2 ?_
   refine wp_rangeC (gf := 95) (lb := #[.pointer (some ⟨wr.heap.size, 0, none⟩)]) rfl (enters_of Tryz.func95 (by kernel_rfl) rfl) hseq (fun b => b = W.heap.size ∨ v.ownBlock = some b) ?S (fun _ => rfl) ?M
    (fun pre C1 Wx => ∃ v, C1 = (fun b => b = W.heap.size ∨ v.ownBlock = some b) ∧ VarSt W (showsP (blkOf q.sA) (offOf q.sA) q.shows 0 ++ pre.flatMap argVar) v Wx)
    (fun _ _ _ => False)
    ?hI ?hIx ?h0 (fun ll pre x C1 a' Wx => ∃ v, C1 = (fun b => b = W.heap.size ∨ v.ownBlock = some b) ∧ VarSt W (showsP (blkOf q.sA) (offOf q.sA) q.shows 0 ++ pre.flatMap argVar) v Wx ∧
      a' = { tmps := #[.func (.yield li) #[] #[], .pointer (some ⟨Bq, 0, none⟩), undef, .pointer (some ⟨W.heap.size, 0, none⟩), u4, .pointer (some x.1), undef, undef, .pointer (some ⟨Q, 0, none⟩), .pointer (some ⟨Q, 0, none⟩), .pointer (some ⟨Q, 1, none⟩), .slice q.sA q.sn q.sc, .int .i64 q.sn, .int .i64 q.sn, .bool false, u15, u16, u17, u18, u19, u20, u21, u22, u23, u24, u25, .pointer (some ⟨Q, 0, none⟩), .func (.func 95) #[] #[.pointer (some ⟨wr.heap.size, 0, none⟩)], .pointer (some x.1), undef, undef, undef, undef, undef, undef, undef, undef, undef, undef, undef, undef, undef, undef, undef, undef, undef, undef, undef, undef, undef], defers := [] })
    ⟨?hAx, ?assign, ?body⟩ ?done ?stop
   case S =>
    rintro b hb
    have hsz := HSS.out
    refine ⟨?_, rfl, ?_⟩
    ·rcases hb with hb | hb | hb
     ·have := (hsz b (.inl hb)).1; omega
     ·omega
     ·have := (hsz b (.inr (.inr hb))).1; omega
    ·rintro (h | h)
     ·rcases hb with hb | hb | hb
      ·have := (hsz b (.inl hb)).1; omega
      ·omega
      ·have := (hsz b (.inr (.inr hb))).1; omega
     ·have h9 := HVB.out b h
      rcases hb with hb | hb | hb
      ·have := (hsz b (.inl hb)).1; omega
      ·omega
      ·have := (hsz b (.inr (.inr hb))).1; omega
   case M =>
    rintro b (h | h)
    ·omega
    ·have := HVB.out b h; omega
   case hI =>
    rintro pre C1 W1 W2 ⟨v, rfl, h1⟩ hk
    exact ⟨v, rfl, h1.kept hk (by omega)⟩
   case hIx => rintro cd C1 W1 W2 h; exact h.elim
   case h0 => exact ⟨v, rfl, by simpa using HSTZ.out⟩
   case hAx =>
    rintro ll pre x C1 a' W2 W3 hll hnl ⟨v, rfl, h1, rfl⟩ _ hk
    exact ⟨v, rfl, h1.kept (N := W.heap.size) (hk.mono fun b _ hb => by subst hb; exact ⟨by omega, hnl⟩) (Nat.le_refl _), rfl⟩
   case assign =>
    rintro ll m pre x suf C1 W1 K hll hlt hnl _ ⟨v, rfl, h1⟩ _ hK
    have H1 := hidp h1
    clear h1
    gi_wp2
    exact hK _ _ (Kept.refl _ _) ⟨v, rfl, H1.out, rfl⟩
   case body =>
    rintro ll m pre x suf C1 a' W2 hll hnl hxs ⟨v, rfl, h1, rfl⟩ _ hCl
    have hx : x ∈ argP q := by rw [hxs]; simp
    obtain ⟨b, off, hxa, hbn, q0, q1⟩ := argP_cells HA.out HT.out hx
    obtain ⟨e1, e2, e3, e4, e5, e6⟩ := HCells.out W2 h1.below
    have c0 := (World.cell?_of_block (w := w) (a := ⟨b, off, none⟩) (e6 b hbn)).trans q0
    have c1 := (World.cell?_of_block (w := w) (a := ⟨b, off + 1, none⟩) (e6 b hbn)).trans q1
    have hbl := lt_of_cell c0
    have hbx := h1.box
    have lB := lt_of_heap hbx
    have hbc : W2.cell? ⟨W.heap.size, 0, none⟩ = some v := by rw [cell_of_heap hbx]; rfl
    obtain ⟨xa, ar⟩ := x
    obtain rfl : xa = ⟨b, off, none⟩ := hxa
    have H1 := hidp h1
    have HX := hidp hxs
    clear hx q0 q1 e1 e2 e3 e4 e5 e6 h1 hbx hxs
    dsimp only at c0 c1 ⊢
    obtain ⟨vb, hvb⟩ : ∃ vb, ar.var = vb := ⟨_, rfl⟩
    rw [hvb] at c0
    have HVb := hidp hvb
    clear hvb
    cases vb
    ·have hP : Hid ((pre ++ [((⟨b, off, none⟩ : Addr), ar)]).flatMap argVar = pre.flatMap argVar) := by
      show _ = _
      rw [List.flatMap_append]
      simp [argVar, HVb.out]
     gi_wp2
     exact ⟨_, Kept.refl _ _, fun b hb => ⟨hCl b hb, .inl hb⟩, v, rfl, by rw [hP.out]; exact H1.out⟩
    ·have hP : Hid ((pre ++ [((⟨b, off, none⟩ : Addr), ar)]).flatMap argVar = pre.flatMap argVar ++ [((⟨b, off + 1, none⟩ : Addr), ar.n)]) := by
      show _ = _
      rw [List.flatMap_append]
      simp [argVar, HVb.out]
     have hln : (showsP (blkOf q.sA) (offOf q.sA) q.shows 0 ++ pre.flatMap argVar).length ≤ 100000 := by
      have g1 := HL.out; have g2 := HSh.out.1; have g3 := HA.out.1; have g4 := HT.out.1
      have g5 := argVar_len pre
      have g6 := congrArg List.length HX.out
      simp only [argP, List.length_append, atomsP_len, testsP_len, List.length_cons] at g6
      rw [List.length_append, showsP_len]; omega
     have HLn := hidp hln
     clear hln
     gi_wp2
     refine wpIn_region_SR W2.heap.size 5 (fun _ => false) (Nat.le_refl _) (by kernel_rfl) (by kernel_rfl) (by kernel_rfl) ?_
     dsimp only [List.take, List.drop]
     apply relS_det (mask := [])
     ·rfl
     ·kernel_rfl
     ·kernel_rfl
     ·dsimp only [oblS]
      rintro w9 h9
      have hc9 := (bcell h9).1
      go_simp
      exact ⟨Below.refl _ _, rfl⟩
     dsimp only [naL, caL]
     apply relS_det (mask := [false])
     ·rfl
     ·kernel_rfl
     ·kernel_rfl
     ·dsimp only [oblS]
      rintro w9 h9
      go_simp
      exact ⟨Below.refl _ _, rfl⟩
     dsimp only [naL, caL]
     apply relS_det (mask := [false, true])
     ·rfl
     ·kernel_rfl
     ·kernel_rfl
     ·dsimp only [oblS]
      rintro w9 h9
      go_simp
      exact ⟨Below.refl _ _, rfl⟩
     dsimp only [naL, caL]
     apply relS_det (mask := [false, false, true])
     ·rfl
     ·kernel_rfl
     ·kernel_rfl
     ·dsimp only [oblS]
      rintro w9 h9
      go_simp
      exact ⟨Below.refl _ _, rfl⟩
     dsimp only [naL, caL]
     apply relS_any (mask := [false, false, false, true]) (T := fun v w => ∃ A c, v = .slice A 1 c ∧ Rows 1 (Rep.flat pnEnc) w w.heap.size A 1 c ([((⟨b, off + 1, none⟩ : Addr), ar.n)])) (hT := fun v w w' hb ⟨A, c, hv, hh⟩ => ⟨A, c, hv, hh.keep (Rep.flat_stable _) hb.size hb.block⟩)
     ·rfl
     ·kernel_rfl
     ·kernel_rfl
     ·dsimp only [oblS]
      rintro w9 h9 T' hT'
      go_simp
      exact ⟨(Below.refl _ w9).alloc (Nat.le_refl _) _, hT' _ _ ⟨_, _, rfl, rows_of_heap (l := [((⟨b, off + 1, none⟩ : Addr), ar.n)]) pnEnc_len (World.alloc_heap_new w9 _) (Nat.le_refl _) (by decide) rfl⟩⟩
     dsimp only [naL, caL]
     refine relS_end (by rfl) ?_
     dsimp only [finS]
     -- rintro v37 w8 ⟨hb, t37⟩
     rintro v37 w8 ⟨hb8, A3, c3, rfl, h3⟩
     obtain ⟨A5, cc5, w', hrun, _, c5, z5, l5, hst', hk', hc'⟩ := H1.out.push hb8 _ HLn.out h3
     rw [List.append_assoc, ← hP.out] at hst'
     generalize (showsP (blkOf q.sA) (offOf q.sA) q.shows 0 ++ pre.flatMap argVar).length + 1 = NN at hrun hst' hk' hc'
     have HST2 := hidp hst'
     have HK' := hidp hk'
     have HC' := hidp hc'
     have HRun := hidp hrun
     clear hrun h3 hst' hk' hc' hb8
     go_simp
     gi_wp2_with (gi_at_builtin; refine wpListIn_append_known rfl (.tmp 33) (.tmp 37) 160 rfl rfl rfl HRun.out ?_)
     exact ⟨_, HK'.out, HC'.out, _, rfl, HST2.out⟩
   case done =>
    rintro D C' Wx hD hlt hnD ⟨v2, rfl, h1⟩ hmk
    have hpre : varP q = showsP (blkOf q.sA) (offOf q.sA) q.shows 0 ++ (argP q).flatMap argVar := rfl
    rw [← hpre] at h1
    have hJ1 := (HJ0.out Wx h1.below).1
    have hst1 := (HJ0.out Wx h1.below).2
    have hbx := h1.box
    have lB := lt_of_heap hbx
    have hbc : Wx.cell? ⟨W.heap.size, 0, none⟩ = some v2 := by rw [cell_of_heap hbx]; rfl
    have hlen : (varP q).length ≤ 100000 := by
     have g1 := HL.out; have g2 := HSh.out.1; have g3 := HA.out.1; have g4 := HT.out.1
     have g5 := argVar_len (argP q)
     rw [hpre, List.length_append, showsP_len]
     have g6 : (argP q).length = 3 * q.atoms.length + 2 * q.tests.length := by simp [argP, atomsP_len, testsP_len]
     omega
    have hnDC : ¬ C D := fun h => by have := hC D h; omega
    have hget : (v2 = .slice none 0 0 ∧ (varP q).length = 0) ∨ ∃ G cap, v2 = .slice (some ⟨G, 0, none⟩) (varP q).length cap ∧ (varP q).length ≤ cap ∧ W.heap.size ≤ G ∧ G < Wx.heap.size ∧ G ≠ D ∧ ∀ wx : World, wx.heap[G]? = Wx.heap[G]? → ∀ k x, (varP q)[k]? = some x → wx.cell? ⟨G, k, none⟩ = some (.pointer (some x.1)) := by
     have hown := h1.own
     rcases hown.2 with ⟨h1, h2⟩ | ⟨G, cap, cs, hv, hg, hh, hnc, _⟩
     ·exact .inl ⟨h1, h2⟩
     ·refine .inr ⟨G, cap, hv, hnc, by omega, lt_of_heap hh, fun e => hnD (.inr (by rw [hv, e]; rfl)), fun wx hx k x hk => ?_⟩
      rw [hv] at hown
      have hc := hown.cells (g := G) rfl k (.pointer (some x.1)) (by
       have := flat_get pnEnc_len (varP q) k x hk 0 (.pointer (some x.1)) rfl
       simpa using this)
      rw [addr_add, Nat.zero_add] at hc
      rw [World.cell?_of_block (w := Wx) (a := ⟨G, k, none⟩) hx]
      exact hc
    have HMK := hidp hmk
    have hbel := h1.below
    have hDW : W.heap.size ≤ D := by omega
    clear h1 hbx hpre hmk hnD
    generalize hN : (varP q).length = N at hget hlen
    have HN := hidp hN
    clear hN
    rcases hget with ⟨rfl, rfl⟩ | ⟨G, cap, rfl, hcap, hGW, hGl, hGD, hget⟩
    ·have HNil : Hid (varP q = []) := List.eq_nil_of_length_eq_zero HN.out
     gi_wp2
     gi_loopw [41] (fun i wr => i = .int .i64 0 ∧ Wx = wr) (fun _ _ => 0)
     case atStart => exact ⟨rfl, rfl⟩
     case round =>
      obtain ⟨rfl, rfl⟩ := hrel
      gi_wp2
      refine leave_mark (.inr rfl) (D := D) HMK.out rfl (v := .tuple #[]) (by simp [results, Tryz.f96, go_sem]) ⟨⟨_, rfl⟩, C, .inl ?_⟩
      rw [HNil.out]
      exact HJ.out _ _ _ _ hJ1 ((Kept.refl _ _).putObj (.inl ⟨hDW, hnDC⟩) _)
    ·have HG := hidp hget
     have HGn : Hid (¬ C G) := fun h => by have := hC G h; omega
     have hN3 : N ≤ 9223372036854775807 := by omega
     have hDl := lt_of_heap HMK.out
     clear hget
     gi_wp2
     gi_loopw [41] (fun i wr => ∃ (k : Nat) (C1 : Nat → Prop), k ≤ N ∧ i = .int .i64 k ∧ J ((varP q).take k) C1 wr ∧ SeqSt (fun b => b < n₀ ∨ b = Bq ∨ b = Q) w W C1 wr ∧ wr.heap[G]? = Wx.heap[G]? ∧ G < wr.heap.size ∧ ¬ C1 G ∧ wr.heap[D]? = some (.deferred (some [])) ∧ ¬ C1 D) (fun i _ => N - (intOf i).toNat)
     case atStart => exact ⟨0, C, by omega, rfl, hJ1, hst1, rfl, hGl, HGn.out, HMK.out, hnDC⟩
     case round =>
      rename World => wb
      obtain ⟨k, C1, hk, rfl, hJ3, hst3, hG3, hGl3, hnG, hD3, hnD3⟩ := hrel
      have HG3 := hidp hG3
      have HnG := hidp hnG
      have HS3 := hidp hst3
      have HD3 := hidp hD3
      have HnD := hidp hnD3
      clear hG3 hst1 hJ1 hnG hst3 hD3 hnD3
      by_cases hlt : k < N
      ·have hlt' : (k : Int) < N := by omega
       obtain ⟨x, hx⟩ : ∃ x, (varP q)[k]? = some x := ⟨_, List.getElem?_eq_getElem (by rw [HN.out]; exact hlt)⟩
       have hc := HG.out wb HG3.out k x hx
       have HX := hidp hx
       obtain ⟨fn, tmps, assign, body, hy, hR⟩ := HY.out 0 _ _ _ _ _ (split_at hx) hJ3
       clear hJ3 hx
       gi_wp2
       refine ⟨rfl, hR.mono ?_⟩
       rintro e W3 ⟨C3, hk3, hC3, (⟨rfl, hJ3⟩ | ⟨rfl, hJx3⟩)⟩
       all_goals
        have hst4 := HS3.out.round hk3 hC3
        have hG4 : W3.heap[G]? = Wx.heap[G]? := (hk3.block G hGl3 HnG.out).trans HG3.out
        have hGl4 := Nat.lt_of_lt_of_le hGl3 hk3.size
        have hD4 : W3.heap[D]? = some (.deferred (some [])) := (hk3.block D (lt_of_heap HD3.out) HnD.out).trans HD3.out
        have hn4 : ¬ C3 G := fun h => by
         rcases (hC3 G h).2 with h1 | h1
         ·exact HnG.out h1
         ·omega
        have hn5 : ¬ C3 D := fun h => by
         rcases (hC3 D h).2 with h1 | h1
         ·exact HnD.out h1
         ·have := lt_of_heap HD3.out; omega
        have HD4 := hidp hD4
       ·have hT : (varP q).take (k + 1) = (varP q).take k ++ [x] := take_snoc HX.out
        rw [← hT] at hJ3
        clear hT hk3 hC3 hc hD4
        gi_wp2
        go_roundw
        case rel => exact ⟨k + 1, C3, by omega, by go_num, hJ3, hst4, hG4, hGl4, hn4, HD4.out, hn5⟩
        case measure => simp [intOf]; omega
       ·clear hk3 hC3 hc hD4
        gi_wp2
        refine leave_mark (.inl rfl) (D := D) HD4.out rfl (v := .tuple #[]) (by simp [results, Tryz.f96, go_sem]) ⟨⟨_, rfl⟩, C3, .inr ?_⟩
        exact HJx.out _ _ _ hJx3 ((Kept.refl _ _).putObj (.inl ⟨hDW, hn5⟩) _)
      ·obtain rfl : k = N := by omega
       have HA9 : Hid ((varP q).take k = varP q) := List.take_of_length_le (by rw [HN.out]; exact Nat.le_refl _)
       have hk9 : ¬ ((k : Int) < k) := by omega
       gi_wp2
       refine leave_mark (.inr rfl) (D := D) HD3.out rfl (v := .tuple #[]) (by simp [results, Tryz.f96, go_sem]) ⟨⟨_, rfl⟩, C1, .inl ?_⟩
       rw [HA9.out] at hJ3
       exact HJ.out _ _ _ _ hJ3 ((Kept.refl _ _).putObj (.inl ⟨hDW, HnD.out⟩) _)
   case stop => rintro D cd C' Wx hD hlt hnD h; exact h.elim
set_option maxHeartbeats 400000 in
theorem vars_any (Q : Nat) (w : World) : Calls Tryz.prog 61 #[.pointer (some ⟨Q, 0, none⟩)] w fun e w' => e = .returned (.func (.func 96) #[] #[.pointer (some ⟨w.heap.size, 0, none⟩)]) ∧ w' = w.alloc (.cells #[.pointer (some ⟨Q, 0, none⟩)] 119) := by
 have hmf : ∀ (fn : Fn) (first cap : Array Value) (w : World), (Instr.makeFunc fn first cap).run Tryz.prog w = .ok (.func fn first cap) w := fun _ _ _ _ => rfl
 go_enter Tryz.func61, Tryz.ntmps61
 go_wp2
 go_ret
 exact ⟨rfl, rfl⟩
end
section
open Go.RowKit
def markOf (D : Nat) : Deferred := { target := .collected D, args := #[] }
def Marks (base : Nat) (Ds : List Nat) (W : World) : Prop := Ds.Nodup ∧ ∀ D ∈ Ds, base ≤ D ∧ W.heap[D]? = some (.deferred (some []))
theorem Marks.nil (base : Nat) (W : World) : Marks base [] W := ⟨List.nodup_nil, fun _ h => by simp at h⟩
theorem Marks.keep {base : Nat} {Ds : List Nat} {W W' : World} (h : Marks base Ds W) (hk : ∀ D ∈ Ds, W'.heap[D]? = W.heap[D]?) : Marks base Ds W' :=
 ⟨h.1, fun D hD => ⟨(h.2 D hD).1, (hk D hD).trans (h.2 D hD).2⟩⟩
theorem Marks.lt {base : Nat} {Ds : List Nat} {W : World} (h : Marks base Ds W) : ∀ D ∈ Ds, D < W.heap.size := fun D hD => lt_of_heap (h.2 D hD).2
theorem Marks.cons {base D : Nat} {Ds : List Nat} {W : World} (h : Marks base Ds W) (hb : base ≤ D) (hD : W.heap[D]? = some (.deferred (some []))) (hn : D ∉ Ds) : Marks base (D :: Ds) W :=
 ⟨List.nodup_cons.2 ⟨hn, h.1⟩, fun E hE => by
  rcases List.mem_cons.1 hE with rfl | hE
  ·exact ⟨hb, hD⟩
  ·exact h.2 E hE⟩
theorem leave_marks {P : Program} {fn : Func} {R : Ending → World → Prop} {a : Act} {w : World} {e : Exit} {base : Nat} {Ds : List Nat} (he : e = .ret ∨ e = .normal) (hD : Marks base Ds w) (hd : a.defers = Ds.map markOf)
    (hr : ∀ W', W'.heap.size = w.heap.size → Kept (fun b => b ∈ Ds) w W' → ∃ v, (results fn a.tmps).run P W' = .ok v W' ∧ R (.returned v) W') :
    bodyPostM Fence.wide 0 P fn R e a w := by
  have key : ∀ (Ds : List Nat) (w : World), Marks base Ds w → (∀ W', W'.heap.size = w.heap.size → Kept (fun b => b ∈ Ds) w W' → ∃ v, (results fn a.tmps).run P W' = .ok v W' ∧ R (.returned v) W') → LeavesInM Fence.wide 0 P fn a.tmps R (Ds.map markOf) .returning w := by
    intro Ds
    induction Ds with
    | nil => intro w _ hr; exact hr w rfl (Kept.refl _ _)
    | cons D Ds ih =>
      intro w hM hr
      obtain ⟨hn, hh⟩ := hM
      obtain ⟨hn1, hn2⟩ := List.nodup_cons.1 hn
      refine ⟨by simp, .inl ⟨D, _, rfl, run_takeDeferred (hh D (by simp)).2, ?_⟩⟩
      have hkD : Kept (fun b => b ∈ D :: Ds) w (w.putObj D (.deferred none)) := (Kept.refl _ w).putObj (.inl (by simp)) _
      refine ih (w.putObj D (.deferred none)) ⟨hn2, fun E hE => ⟨(hh E (by simp [hE])).1, (World.putObj_heap_other (by rintro rfl; exact hn1 hE)).trans (hh E (by simp [hE])).2⟩⟩ fun W' hz hk => hr W' (by simpa using hz) (hkD.trans (hk.mono fun b _ hb => by simp [hb]))
  rcases he with rfl | rfl
  · show LeavesInM Fence.wide 0 P fn a.tmps R a.defers .returning w
    rw [hd]
    exact key Ds w hD hr
  · show LeavesInM Fence.wide 0 P fn a.tmps R a.defers .returning w
    rw [hd]
    exact key Ds w hD hr
end
end Go.Proofs.YtbegdcjofnfkiaaGreatDoor
