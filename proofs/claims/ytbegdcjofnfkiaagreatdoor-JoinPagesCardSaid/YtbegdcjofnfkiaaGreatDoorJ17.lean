import Derived.Test.YtbegdcjofnfkiaaGreatDoorQ14
namespace Go.Proofs.YtbegdcjofnfkiaaGreatDoor
open Go.RowKit Go.Shelf Go.Sort
attribute [local go_sem] Oper.semAt_some
def rowsE (q : Qu) : Int := if checkJ wdJ q = true then 0 else 500
def rowsV (q : Qu) (l : List Fc) : List (List Int) := if checkJ wdJ q = true then rowsJ q l else []
def ddJ (l : List (List Int)) : List (List Int) := l.foldl (fun s x => if x ∈ s then s else s ++ [x]) []
theorem ddJ_snoc (l : List (List Int)) (x : List Int) : ddJ (l ++ [x]) = if x ∈ ddJ l then ddJ l else ddJ l ++ [x] := by unfold ddJ; rw [List.foldl_append]; rfl
theorem snoc_ind {α : Type} {P : List α → Prop} (h0 : P []) (h1 : ∀ l a, P l → P (l ++ [a])) (l : List α) : P l := by
 have h : ∀ m : List α, P m.reverse := by
  intro m
  induction m with
  | nil => exact h0
  | cons a m ih => rw [List.reverse_cons]; exact h1 _ _ ih
 have := h l.reverse
 rwa [List.reverse_reverse] at this
theorem ddJ_mem (l : List (List Int)) : ∀ x, x ∈ ddJ l ↔ x ∈ l := by
 refine snoc_ind (P := fun l => ∀ x, x ∈ ddJ l ↔ x ∈ l) ?_ (fun l a ih => ?_) l
 ·intro x; simp [ddJ]
 ·intro x
  rw [ddJ_snoc]
  split
  ·rename_i h
   rw [ih x, List.mem_append, List.mem_singleton]
   exact ⟨.inl, fun h2 => h2.elim id fun e => by rw [e]; exact (ih a).1 h⟩
  ·rw [List.mem_append, List.mem_append, ih x]
theorem ddJ_nodup (l : List (List Int)) : (ddJ l).Nodup := by
 refine snoc_ind (P := fun l => (ddJ l).Nodup) ?_ (fun l a ih => ?_) l
 ·simp [ddJ]
 ·rw [ddJ_snoc]
  split
  ·exact ih
  ·rename_i h
   rw [List.nodup_append]
   exact ⟨ih, by simp, by simp; intro x hx e; subst e; exact h hx⟩
theorem ddJ_len (l : List (List Int)) : (ddJ l).length ≤ l.length := by
 refine snoc_ind (P := fun l => (ddJ l).length ≤ l.length) ?_ (fun l a ih => ?_) l
 ·simp [ddJ]
 ·rw [ddJ_snoc]
  split <;> simp <;> omega
set_option maxHeartbeats 400000 in
theorem jful_any (q : Qu) (FA : Option Addr) (fn fc : Nat) (w : World) :
  Calls Tryz.prog 32 #[.agg #[.slice q.nA q.nn q.nc, .slice q.sA q.sn q.sc, .slice q.aA q.an q.ac, .slice q.tA q.tn q.tc], .slice FA fn fc] w fun e w' => e = .returned (.func (.func 76) #[] #[.pointer (some ⟨w.heap.size + 1, 0, none⟩), .pointer (some ⟨w.heap.size, 0, none⟩)]) ∧
   (w.alloc (.cells #[.slice q.nA q.nn q.nc, .slice q.sA q.sn q.sc, .slice q.aA q.an q.ac, .slice q.tA q.tn q.tc] 27)).alloc (.cells #[.slice FA fn fc] 28) = w' := by
 go_enter Tryz.func32, Tryz.ntmps32
 go_wp2
 go_ret
 exact ⟨rfl, rfl⟩
structure RowSt (q : Qu) (w : World) (v : Value) (z : Int) (W : World) : Prop where
 qu : QBox q w.heap.size W
 box : W.heap[w.heap.size + 1]? = some (.cells #[v] 37 (0, 0))
 err : W.heap[w.heap.size + 1 + 1]? = some (.cells #[.int .i64 z] 31 (0, 0))
 below : Below w.heap.size w W
def RowsFr (b0 : Nat) (w : World) (A : Option Addr) (n c : Nat) (ls : List (List Int)) : Prop := ∀ W', w.heap.size ≤ W'.heap.size → (∀ b, b0 ≤ b → b < w.heap.size → W'.heap[b]? = w.heap[b]?) → RowsIn W' A n c ls
theorem RowsFr.now {b0 : Nat} {w : World} {A : Option Addr} {n c : Nat} {ls : List (List Int)} (h : RowsFr b0 w A n c ls) : RowsIn w A n c ls := h w (Nat.le_refl _) fun _ _ _ => rfl
theorem rows_leave {q : Qu} {l : List Fc} {w W : World} {Ds : List Nat} {tmps : Array Value} {A : Option Addr} {n c : Nat} (h4 : tmps.getD 4 undef = .pointer (some ⟨w.heap.size + 1, 0, none⟩)) (h5 : tmps.getD 5 undef = .pointer (some ⟨w.heap.size + 1 + 1, 0, none⟩))
  (h : RowSt q w (.slice A n c) (rowsE q) W) (hr : ∀ W', Kept (fun b => b ∈ Ds) W W' → RowsFr w.heap.size W' A n c (rowsV q l)) (hm : Marks (w.heap.size + 3) Ds W) {e : Exit} (he : e = .ret ∨ e = .normal) :
  bodyPostM Fence.wide 0 Tryz.prog Tryz.f13 (fun e w' => ∃ A n c, e = .returned (.tuple #[.slice A n c, .int .i64 (rowsE q)]) ∧ RowsFr w.heap.size w' A n c (rowsV q l) ∧ Below w.heap.size w w') e { tmps := tmps, defers := Ds.map markOf } W := by
 refine leave_marks he hm rfl fun W' hz' hk => ⟨.tuple #[.slice A n c, .int .i64 (rowsE q)], ?_, ⟨A, n, c, rfl, hr W' hk, h.below.trans (hk.toBelow h.below.size fun b hb hD => by have := (hm.2 b hD).1; omega)⟩⟩
 have hn1 : (w.heap.size + 1) ∉ Ds := fun hD => by have := (hm.2 _ hD).1; omega
 have hn2 : (w.heap.size + 1 + 1) ∉ Ds := fun hD => by have := (hm.2 _ hD).1; omega
 have hc1 : W'.cell? ⟨w.heap.size + 1, 0, none⟩ = some (.slice A n c) := by
  rw [cell_of_heap ((hk.block _ (lt_of_heap h.box) hn1).trans h.box)]; rfl
 have hc2 : W'.cell? ⟨w.heap.size + 1 + 1, 0, none⟩ = some (.int .i64 (rowsE q)) := by
  rw [cell_of_heap ((hk.block _ (lt_of_heap h.err) hn2).trans h.err)]; rfl
 have h4' : tmps[4]?.getD undef = .pointer (some ⟨w.heap.size + 1, 0, none⟩) := by simpa using h4
 have h5' : tmps[5]?.getD undef = .pointer (some ⟨w.heap.size + 1 + 1, 0, none⟩) := by simpa using h5
 simp [results, Tryz.f13, go_sem, h4', h5', hc1, hc2]
structure RowsFx (q : Qu) (w : World) (Bm : Nat) (W : World) : Prop where
 qu : QBox q w.heap.size W
 err : W.heap[w.heap.size + 1 + 1]? = some (.cells #[.int .i64 0] 31 (0, 0))
 mbox : W.heap[Bm + 1]? = some (.cells #[.map (some Bm)] 76 (0, 0))
 below : Below w.heap.size w W
 far : w.heap.size + 3 ≤ Bm
def RowsFx.At (w : World) (Bm b : Nat) : Prop := b = w.heap.size ∨ b = w.heap.size + 1 + 1 ∨ b = Bm + 1
theorem RowsFx.lt {q : Qu} {w W : World} {Bm b : Nat} (h : RowsFx q w Bm W) (hb : RowsFx.At w Bm b) : b < W.heap.size ∧ w.heap.size ≤ b ∧ b ≤ Bm + 1 ∧ b ≠ Bm ∧ b ≠ w.heap.size + 1 := by
 have hf := h.far
 rcases hb with rfl | rfl | rfl
 ·exact ⟨lt_of_heap h.qu.box, by omega, by omega, by omega, by omega⟩
 ·exact ⟨lt_of_heap h.err, by omega, by omega, by omega, by omega⟩
 ·exact ⟨lt_of_heap h.mbox, by omega, by omega, by omega, by omega⟩
theorem RowsFx.keep {q : Qu} {w W W' : World} {Bm : Nat} (h : RowsFx q w Bm W) (hb : ∀ b, RowsFx.At w Bm b → W'.heap[b]? = W.heap[b]?) (hB : Below w.heap.size W W') : RowsFx q w Bm W' :=
 ⟨⟨(hb _ (.inl rfl)).trans h.qu.box⟩, (hb _ (.inr (.inl rfl))).trans h.err, (hb _ (.inr (.inr rfl))).trans h.mbox, h.below.trans hB, h.far⟩
theorem run_zero_bool (W : World) : (zeroValue 4).run Tryz.prog W = .ok (.bool false) W := by first | kernel_rfl | rfl | simp [zeroValue, go_sem]
theorem intsInfo : (Tryz.prog.info? 23).map (fun i => (i.zero, i.size, i.bytes)) = some (some (.slice none 0 0), 1, 24) := by kernel_rfl
theorem rwEnc_one (r : Rw) : ∀ u ∈ rwEnc r, u.oneCell' = true := by
 intro u hu; simp [rwEnc, rwV] at hu; subst hu; rfl
theorem rowsIn_nil (w : World) : RowsIn w none 0 0 [] := ⟨[], rfl, ⟨rfl, Nat.le_refl _, by simp, fun h => by simp at h⟩, fun r hr => by cases hr⟩
set_option maxRecDepth 100000 in
set_option maxHeartbeats 8000000 in
theorem rows_fresh (q : Qu) (FA : Option Addr) (fn fc : Nat) (l : List Fc) (w : World) (hq : QuIn q w w.heap.size) (hw : WordsAt w) (hl : fSl w w.heap.size FA fn fc l) (hfn : fn ≤ 100000) (hsz : checkJ wdJ q = true → (fulJ q l).length ≤ 65535) :
  Calls Tryz.prog 13 #[.agg #[.slice q.nA q.nn q.nc, .slice q.sA q.sn q.sc, .slice q.aA q.an q.ac, .slice q.tA q.tn q.tc], .slice FA fn fc] w fun e w' => ∃ A n c, e = .returned (.tuple #[.slice A n c, .int .i64 (rowsE q)]) ∧ RowsFr w.heap.size w' A n c (rowsV q l) ∧ Below w.heap.size w w' := by
 have HQu : Hid (∀ W, Below w.heap.size w W → QuIn q W W.heap.size) := fun W hb => hq.keep hb.size hb.block
 have HWd : Hid (∀ W, Below w.heap.size w W → WordsAt W) := fun W hb => hw.below hb
 have HFa : Hid (∀ W, Below w.heap.size w W → fSl W W.heap.size FA fn fc l) := fun W h => hl.keep (Rep.flat_stable _) h.size h.block
 have HLen : Hid (q.nn = q.names.length ∧ q.sn = q.shows.length ∧ q.an = q.atoms.length ∧ q.tn = q.tests.length) := ⟨hq.1.1, hq.2.1.1, hq.2.2.1.1, hq.2.2.2.1⟩
 have HSz := hidp hsz
 obtain ⟨W0, hW0⟩ : ∃ W0, w.alloc (.cells #[.slice q.nA q.nn q.nc, .slice q.sA q.sn q.sc, .slice q.aA q.an q.ac, .slice q.tA q.tn q.tc] 27) = W0 := ⟨_, rfl⟩
 have hBW : Below w.heap.size w W0 := hW0 ▸ (Below.refl _ w).alloc (Nat.le_refl _) _
 have hb0 : QBox q w.heap.size W0 := ⟨hW0 ▸ World.alloc_heap_new _ _⟩
 have HBW := hidp hBW
 have HB0 := hidp hb0
 obtain ⟨x0, x1, x2, x3, l0⟩ := hb0.cells
 have HW0 := hidp hW0
 clear hBW hb0 hq hw hl hsz hW0
 refine calls_of_wp_marks Tryz.func13 rfl ?_
 simp only [Tryz.ntmps13, List.size_toArray, List.length_cons, List.length_nil, Nat.reduceAdd, Nat.reduceSub, Array.replicate_succ, Array.replicate_zero, List.push_toArray, List.append_toArray, List.nil_append, List.cons_append]
 go_wp2_with fail
 rw [HW0.out]
 obtain ⟨W1, hW1⟩ : ∃ W1, W0.alloc (.cells #[.slice none 0 0] 37) = W1 := ⟨_, rfl⟩
 obtain ⟨W2, hW2⟩ : ∃ W2, W1.alloc (.cells #[.int .i64 0] 31) = W2 := ⟨_, rfl⟩
 have hz0 : W0.heap.size = w.heap.size + 1 := by rw [← HW0.out]; simp
 have hz1 : W1.heap.size = w.heap.size + 2 := by rw [← hW1]; simp; omega
 have hz2 : W2.heap.size = w.heap.size + 3 := by rw [← hW2]; simp; omega
 have g1 : W1.heap[w.heap.size + 1]? = some (.cells #[.slice none 0 0] 37 (0, 0)) := by rw [← hW1, ← hz0]; exact World.alloc_heap_new _ _
 have g2 : W2.heap[w.heap.size + 2]? = some (.cells #[.int .i64 0] 31 (0, 0)) := by rw [← hW2, ← hz1]; exact World.alloc_heap_new _ _
 have hb02 : Below W0.heap.size W0 W2 := by rw [← hW2, ← hW1]; exact ((Below.refl _ _).alloc (Nat.le_refl _) _).alloc (by simp) _
 have hb12 : Below W1.heap.size W1 W2 := by rw [← hW2]; exact (Below.refl _ _).alloc (Nat.le_refl _) _
 have hB2 := HBW.out.trans (hb02.mono HBW.out.size)
 rw [hW1, hW2]
 refine (qCheck_any q _ (HQu.out _ hB2) (HWd.out _ hB2)).mono ?_
 rintro e w3 ⟨rfl, hk3⟩
 have hq3 := (HB0.out.later hb02).later hk3
 have hB3 := hB2.trans (hk3.mono hB2.size)
 have gr : w3.heap[w.heap.size + 1]? = some (.cells #[.slice none 0 0] 37 (0, 0)) := (hk3.block _ (by omega)).trans ((hb12.block _ (by omega)).trans g1)
 have ge : w3.heap[w.heap.size + 2]? = some (.cells #[.int .i64 0] 31 (0, 0)) := (hk3.block _ (by omega)).trans g2
 have z3 := hk3.size
 clear x0 x1 x2 x3 l0
 obtain ⟨x0, x1, x2, x3, l0⟩ := hq3.cells
 have xr := cell_of_heap (o := 0) gr
 have xe := cell_of_heap (o := 0) ge
 have fr := frozen_of_heap (o := 0) gr
 have fe := frozen_of_heap (o := 0) ge
 simp only [List.getElem?_toArray, List.getElem?_cons_zero] at xr xe
 have lr := lt_of_cell xr
 have le := lt_of_cell xe
 have HB3 := hidp hB3
 have HGr := hidp gr
 have HGe := hidp ge
 have HQ3 := hidp hq3
 have HZ2 := hidp hz2
 have HZ3 := hidp z3
 obtain ⟨ck, hck⟩ : ∃ b, checkJ wdJ q = b := ⟨_, rfl⟩
 rw [hck]
 have HCk := hidp hck
 clear hck hW1 hW2 hz0 hz1 hz2 g1 g2 hb02 hb12 hB2 hk3 hq3 hB3 gr ge z3 HW0 HB0 HBW
 cases ck
 ·have HR : Hid (rowsV q l = [] ∧ rowsE q = 500) := by show _ ∧ _; unfold rowsV rowsE; rw [HCk.out]; exact ⟨rfl, rfl⟩
  simp only [okE]
  go_wp2_with fail
  obtain ⟨W4, hW4⟩ : ∃ W4, w3.setCell ⟨w.heap.size + 1 + 1, 0, none⟩ (.int .i64 500) = W4 := ⟨_, rfl⟩
  rw [hW4]
  have gr4 : W4.heap[w.heap.size + 1]? = some (.cells #[.slice none 0 0] 37 (0, 0)) := by rw [← hW4]; exact heap_set_ne HGr.out (by omega) _ _
  have ge4 : W4.heap[w.heap.size + 1 + 1]? = some (.cells #[.int .i64 500] 31 (0, 0)) := by rw [← hW4]; exact heap_set1 HGe.out _
  have hb4 : Below w.heap.size w W4 := by rw [← hW4]; exact HB3.out.setCell (p := ⟨w.heap.size + 1 + 1, 0, none⟩) (by show _ ≤ w.heap.size + 1 + 1; omega) _
  have xr4 := cell_of_heap (o := 0) gr4
  have xe4 := cell_of_heap (o := 0) ge4
  have fr4 := frozen_of_heap (o := 0) gr4
  have fe4 := frozen_of_heap (o := 0) ge4
  simp only [List.getElem?_toArray, List.getElem?_cons_zero] at xr4 xe4
  have lr4 := lt_of_cell xr4
  have le4 := lt_of_cell xe4
  have HB4 := hidp hb4
  have HGr4 := hidp gr4
  have HGe4 := hidp ge4
  have HQ4 : Hid (QBox q w.heap.size W4) := ⟨by rw [← hW4]; exact heap_set_ne HQ3.out.box (by omega) _ _⟩
  clear hW4 gr4 ge4 hb4 xr xe fr fe lr le x0 x1 x2 x3 l0
  go_region_law (fail)
  all_goals go_wp2_with fail
  all_goals
   refine rows_leave (Ds := []) (A := none) (n := 0) (c := 0) rfl rfl ⟨⟨?_⟩, ?_, ?_, ?_⟩ (fun W' _ W'' _ _ => by rw [HR.out.1]; exact rowsIn_nil _) (Marks.nil _ _) (.inl rfl)
   ·exact heap_set_ne (heap_set_ne HQ4.out.box (by omega) _ _) (by omega) _ _
   ·exact heap_set_ne (heap_set1 HGr4.out _) (by omega) _ _
   ·rw [HR.out.2]; exact heap_set1 (heap_set_ne HGe4.out (by omega) _ _) _
   ·have h := (HB4.out.setCell (p := ⟨w.heap.size + 1, 0, none⟩) (by show _ ≤ w.heap.size + 1; omega) (.slice none 0 0)).setCell (p := ⟨w.heap.size + 1 + 1, 0, none⟩) (by show _ ≤ w.heap.size + 1 + 1; omega) (.int .i64 500)
    exact ⟨h.os, h.tape, h.output, h.size, h.block⟩
 ·have HR : Hid (rowsV q l = rowsJ q l ∧ rowsE q = 0) := by show _ ∧ _; unfold rowsV rowsE; rw [HCk.out]; exact ⟨rfl, rfl⟩
  have hmm := @run_makeMap Tryz.prog
  simp only [okE]
  go_wp2_with fail
  refine (jful_any q FA fn fc _).mono ?_
  rintro e w5 ⟨rfl, hw5⟩
  have HW5 := hidp hw5
  clear hw5 hmm x0 x1 x2 x3 l0 xr xe fr fe lr le
  go_wp2_with fail
  have hq0 := HQu.out w (Below.refl _ _)
  have hvo := check_vars HCk.out
  have hz3 : w.heap.size + 3 ≤ w3.heap.size := by have := HZ2.out; have := HZ3.out; omega
  obtain ⟨V1, hV1⟩ : ∃ V1, (w3.setCell ⟨w.heap.size + 1 + 1, 0, none⟩ (.int .i64 0)).alloc (.map #[] 0) = V1 := ⟨_, rfl⟩
  have hz1 : V1.heap.size = w3.heap.size + 1 := by rw [← hV1]; simp [World.setCell]
  have hBV1 : Below w.heap.size w V1 := by rw [← hV1]; exact (HB3.out.setCell (p := ⟨w.heap.size + 1 + 1, 0, none⟩) (by show _ ≤ w.heap.size + 1 + 1; omega) _).alloc (by simp [World.setCell]; omega) _
  have k1 : ∀ b, b < w3.heap.size → b ≠ w.heap.size + 1 + 1 → V1.heap[b]? = w3.heap[b]? := fun b h1 h2 => by rw [← hV1, Below.heap_alloc _ _ _ (by simpa [World.setCell] using h1)]; exact heap_set_ne rfl h2 _ _
  have hm1 : KM r8V V1 w3.heap.size ([] : List R8) := by
   have := KM.made (K := r8V) (w3.setCell ⟨w.heap.size + 1 + 1, 0, none⟩ (.int .i64 0))
   rw [hV1] at this
   simpa [World.setCell] using this
  have hge1 : V1.heap[w.heap.size + 1 + 1]? = some (.cells #[.int .i64 0] 31 (0, 0)) := by
   rw [← hV1, Below.heap_alloc _ _ _ (by simp [World.setCell]; omega)]; exact heap_set1 HGe.out _
  obtain ⟨V2, hV2⟩ : ∃ V2, V1.alloc (.cells #[.map (some w3.heap.size)] 76) = V2 := ⟨_, rfl⟩
  have hz2 : V2.heap.size = w3.heap.size + 2 := by rw [← hV2]; simp; omega
  have hmb2 : V2.heap[w3.heap.size + 1]? = some (.cells #[.map (some w3.heap.size)] 76 (0, 0)) := by rw [← hV2, ← hz1]; exact World.alloc_heap_new _ _
  obtain ⟨V3, hV3⟩ : ∃ V3, V2.alloc (.cells #[.slice q.nA q.nn q.nc, .slice q.sA q.sn q.sc, .slice q.aA q.an q.ac, .slice q.tA q.tn q.tc] 27) = V3 := ⟨_, rfl⟩
  have hz33 : V3.heap.size = w3.heap.size + 3 := by rw [← hV3]; simp; omega
  have hjq3 : V3.heap[w3.heap.size + 1 + 1]? = some (.cells #[.slice q.nA q.nn q.nc, .slice q.sA q.sn q.sc, .slice q.aA q.an q.ac, .slice q.tA q.tn q.tc] 27 (0, 0)) := by
   rw [← hV3]; have := World.alloc_heap_new V2 (.cells #[.slice q.nA q.nn q.nc, .slice q.sA q.sn q.sc, .slice q.aA q.an q.ac, .slice q.tA q.tn q.tc] 27); rwa [hz2] at this
  have h5 : V3.alloc (.cells #[.slice FA fn fc] 28) = w5 := by rw [← hV3, ← hV2, ← hV1]; exact HW5.out
  have hz5 : w5.heap.size = w3.heap.size + 4 := by rw [← h5]; simp; omega
  have hjf5 : w5.heap[w3.heap.size + 1 + 1 + 1]? = some (.cells #[.slice FA fn fc] 28 (0, 0)) := by
   rw [← h5]; have := World.alloc_heap_new V3 (.cells #[.slice FA fn fc] 28); rwa [hz33] at this
  have hb15 : Below V1.heap.size V1 w5 := by rw [← h5, ← hV3, ← hV2]; exact (((Below.refl _ _).alloc (Nat.le_refl _) _).alloc (by simp) _).alloc (by simp; omega) _
  have hb25 : Below V2.heap.size V2 w5 := by rw [← h5, ← hV3]; exact ((Below.refl _ _).alloc (Nat.le_refl _) _).alloc (by simp) _
  have hb35 : Below V3.heap.size V3 w5 := by rw [← h5]; exact (Below.refl _ _).alloc (Nat.le_refl _) _
  have hB5 : Below w.heap.size w w5 := hBV1.trans (hb15.mono hBV1.size)
  have hbf : FBox FA fn fc (w3.heap.size + 1 + 1 + 1) w5 := ⟨hjf5⟩
  have hbq : QBox q (w3.heap.size + 1 + 1) w5 := ⟨(hb35.block _ (by omega)).trans hjq3⟩
  have hQ5 : QBox q w.heap.size w5 := ⟨((hb15.block _ (by omega)).trans (k1 _ (by omega) (by omega))).trans HQ3.out.box⟩
  have hGr5 : w5.heap[w.heap.size + 1]? = some (.cells #[.slice none 0 0] 37 (0, 0)) := ((hb15.block _ (by omega)).trans (k1 _ (by omega) (by omega))).trans HGr.out
  have hGe5 : w5.heap[w.heap.size + 1 + 1]? = some (.cells #[.int .i64 0] 31 (0, 0)) := (hb15.block _ (by omega)).trans hge1
  have hMb5 : w5.heap[w3.heap.size + 1]? = some (.cells #[.map (some w3.heap.size)] 76 (0, 0)) := (hb25.block _ (by omega)).trans hmb2
  have hM5 : KM r8V w5 w3.heap.size ([] : List R8) := hm1.keep (hb15.block _ (by omega))
  have hsz8 : q.names.length ≤ 8 ∧ q.atoms.length ≤ 16 ∧ q.tests.length ≤ 16 ∧ 1 ≤ q.shows.length ∧ q.shows.length ≤ 8 := by
   have := ((cj_iff q).1 HCk.out).1
   simp only [sizesJ, inB, Bool.and_eq_true, decide_eq_true_eq] at this
   omega
  have hseq := ful_seq q FA fn fc l w.heap.size (w3.heap.size + 1 + 1 + 1) (w3.heap.size + 1 + 1) w5 (hq0.keep (Nat.le_refl _) hB5.block) ((HFa.out w (Below.refl _ _)).keep (Rep.flat_stable _) (Nat.le_refl _) hB5.block) hfn hvo ⟨hsz8.1, hsz8.2.1, hsz8.2.2.1⟩ hbf hbq
  have HSq := hidp hseq
  have HVo := hidp hvo
  have HS8 := hidp hsz8
  have HZ33 := hidp hz3
  have HZ5 := hidp hz5
  have HB5 := hidp hB5
  have HQ5 := hidp hQ5
  have HGr5 := hidp hGr5
  have HGe5 := hidp hGe5
  have HMb5 := hidp hMb5
  have HM5 := hidp hM5
  have HLL : Hid (∀ vs ∈ fulJ q l, vs.length = q.names.length) := fun vs hvs => ((ful_mem HVo.out l vs).1 hvs).1
  clear hq0 hvo hz3 hV1 hz1 hBV1 k1 hm1 hge1 hV2 hz2 hmb2 hV3 hz33 hjq3 h5 hz5 hjf5 hb15 hb25 hb35 hB5 hbf hbq hQ5 hGr5 hGe5 hMb5 hM5 hsz8 hseq
  obtain ⟨n1, hn1⟩ : ∃ n1, w5.heap.size = n1 := ⟨_, rfl⟩
  have HN1 := hidp hn1
  clear hn1
  refine wp_rangeT (gf := 76) (lb := #[.pointer (some ⟨w3.heap.size + 1 + 1 + 1, 0, none⟩), .pointer (some ⟨w3.heap.size + 1 + 1, 0, none⟩)]) rfl (enters_of Tryz.func76 (by kernel_rfl) rfl) HSq.out (CRow w3.heap.size (w.heap.size + 1) (.slice none 0 0) []) ?S rfl ?T ?M
   (fun pre C W => ∃ v rs, C = CRow w3.heap.size (w.heap.size + 1) v rs ∧ RCol q w3.heap.size (w.heap.size + 1) n1 (ddJ (pre.map (showJ q))) v rs W ∧ RowsFx q w w3.heap.size W)
   (fun _ _ _ => False)
   ?hI ?hIx ?h0 (fun ll pre x C a' W => ∃ v rs V, C = CRow w3.heap.size (w.heap.size + 1) v rs ∧ RCol q w3.heap.size (w.heap.size + 1) n1 (ddJ (pre.map (showJ q))) v rs W ∧ RowsFx q w w3.heap.size W ∧
    W.ownsRow n1 3 1 V x.length (x.flatMap iEnc) ∧ a' = { tmps := #[.agg #[.slice q.nA q.nn q.nc, .slice q.sA q.sn q.sc, .slice q.aA q.an q.ac, .slice q.tA q.tn q.tc], .slice FA fn fc, .pointer (some ⟨w.heap.size, 0, none⟩), undef, .pointer (some ⟨w.heap.size + 1, 0, none⟩), .pointer (some ⟨w.heap.size + 1 + 1, 0, none⟩), .pointer (some ⟨w3.heap.size + 1, 0, none⟩), V, undef, undef, undef, undef, .agg #[.slice q.nA q.nn q.nc, .slice q.sA q.sn q.sc, .slice q.aA q.an q.ac, .slice q.tA q.tn q.tc], .int .i64 0, .int .i64 0, .bool false, undef, .map (some w3.heap.size), .agg #[.slice q.nA q.nn q.nc, .slice q.sA q.sn q.sc, .slice q.aA q.an q.ac, .slice q.tA q.tn q.tc], .slice FA fn fc, .func (.func 76) #[] #[.pointer (some ⟨w3.heap.size + 1 + 1 + 1, 0, none⟩), .pointer (some ⟨w3.heap.size + 1 + 1, 0, none⟩)], V, undef, undef, undef, undef, undef, undef, undef, undef, undef, undef, undef, undef, undef, undef, undef, undef, undef, undef, undef, undef, undef, undef, undef, undef, undef, undef, undef, undef, undef, undef, undef, undef, undef, undef, undef, undef, undef, undef, undef, undef, undef], defers := [] })
   ⟨?hAx, ?assign, ?body⟩ ?done ?stop
  case S =>
   intro b hb
   have z5 := HZ5.out
   have z3 := HZ33.out
   rw [HN1.out] at z5
   rw [HN1.out]
   refine ⟨by rcases hb with h | h | h <;> omega, rfl, ?_⟩
   rintro (h | h | h | ⟨r, hr, _⟩)
   ·rcases hb with h' | h' | h' <;> omega
   ·rcases hb with h' | h' | h' <;> omega
   ·simp [Value.ownBlock] at h
   ·cases hr
  case T => exact tvals_mono
  case M =>
   have z5 := HZ5.out
   have z3 := HZ33.out
   rw [HN1.out] at z5
   rw [HN1.out]
   rintro b (h | h | h | ⟨r, hr, _⟩)
   ·omega
   ·omega
   ·simp [Value.ownBlock] at h
   ·cases hr
  case hI =>
   rintro pre C1 Wa Wb ⟨v, rs, rfl, hc, hf⟩ hk
   rw [HN1.out] at hk
   exact ⟨v, rs, rfl, hc.keep fun b hb hcr => hk.block b hb fun h => h.2 hcr, hf.keep (fun b hb => hk.block b (hf.lt hb).1 fun h => by have h1 := (hf.lt hb).2; have h2 := HZ5.out; rw [HN1.out] at h2; omega) (hk.toBelow hf.below.size fun b hb h => by have := HB5.out.size; rw [HN1.out] at this; omega)⟩
  case hIx => rintro cd C1 W1 W2 h; exact h.elim
  case h0 => exact ⟨_, [], rfl, ⟨HGr5.out, HM5.out, World.ownsRow_nil _ _ _ _, rfl, fun r hr => by cases hr⟩, ⟨HQ5.out, HGe5.out, HMb5.out, HB5.out, HZ33.out⟩⟩
  case hAx =>
   rintro ll pre x C1 a' Wa Wb hll hnl ⟨v, rs, V, rfl, hc, hf, hv, rfl⟩ ⟨rr, hr⟩ hk
   rw [HN1.out] at hll
   have hz5 := HZ5.out
   rw [HN1.out] at hz5
   exact ⟨v, rs, V, rfl, hc.keep fun b hb hcr => hk.block b hb fun h => hnl (h ▸ hcr), hf.keep (fun b hb => hk.block b (hf.lt hb).1 fun h => by have := (hf.lt hb).2; omega) (hk.toBelow hf.below.size fun b hb h => by have := HZ33.out; omega),
    own_keepB hv (fun g hg => hk.block g (hv.lt g hg).2 fun h => by
     obtain ⟨cs, hcs⟩ := own_kind hv hg
     rw [h, hr] at hcs
     cases hcs), rfl⟩
  case assign =>
   rintro ll m pre x suf C1 Wa V K hll hlt hnl hxs hV ⟨V', rfl, hv, hvC⟩ ⟨v, rs, rfl, hc, hf⟩ _ hK
   obtain ⟨A7, c7, rfl, _⟩ := own_rows iEnc_len (by decide) hv
   have HC := hidp hc
   have HF := hidp hf
   have HV := hidp hv
   rw [HN1.out] at HV
   clear hc hf hv hvC
   gi_wp2
   exact hK _ _ (Kept.refl _ _) ⟨v, rs, .slice A7 x.length c7, rfl, HC.out, HF.out, own_monoB HV.out (by omega), rfl⟩
  case body =>
   rintro ll m pre x suf C1 a' W2 hll hnl hxs ⟨v, rs, V, rfl, hc, hf, hv, rfl⟩ ⟨rr, hlr⟩ hCl
   obtain ⟨A7, c7, rfl, hvr⟩ := own_rows iEnc_len (by decide) hv
   obtain ⟨AR, cR, rfl, hrr⟩ := own_rows rwEnc_len (by decide) hc.own
   have hrc := hrr.2.1
   have hrcc := hrr.2.2.1
   clear hrr
   rename World => Wx
   rw [HN1.out] at hll
   have hxl : x.length = q.names.length := HLL.out x (hxs ▸ by simp)
   have hrl : rs.length ≤ 65534 := by
    have h1 := HSz.out HCk.out
    rw [← hxs] at h1
    simp only [List.length_append, List.length_cons] at h1
    have h2 := congrArg List.length hc.ls
    rw [List.length_map] at h2
    have h3 := ddJ_len (pre.map (showJ q))
    rw [List.length_map] at h3
    omega
   have hsn : q.sn = q.shows.length := HLen.out.2.1
   have hs8 : q.sn ≤ 8 := by rw [hsn]; exact HS8.out.2.2.2.2
   obtain ⟨i0, hi, hz, hss, hbb⟩ := info_parts iInfo
   have hx0 := hf.lt (.inl rfl)
   have hx1 := hf.far
   have hBx : Below w.heap.size w Wx := hf.below
   have hxz := hf.below.size
   have hn1x : n1 < Wx.heap.size := Nat.lt_of_le_of_lt hll (lt_of_heap hlr)
   obtain ⟨Wy, hWy⟩ : ∃ Wy, Wx.alloc (.cells #[.int .i64 0, .int .i64 0, .int .i64 0, .int .i64 0, .int .i64 0, .int .i64 0, .int .i64 0, .int .i64 0] 81) = Wy := ⟨_, rfl⟩
   have hzy : Wy.heap.size = Wx.heap.size + 1 := by rw [← hWy]; simp
   have hby : Below Wx.heap.size Wx Wy := by rw [← hWy]; exact (Below.refl _ _).alloc (Nat.le_refl _) _
   have h8y : Wy.heap[Wx.heap.size]? = some (.cells (r8C []) 81 (0, 0)) := by rw [← hWy]; exact World.alloc_heap_new _ _
   obtain ⟨Wz, hrun, hown0, hgr⟩ := run_make_own (P := Tryz.prog) Wy (Wx.heap.size + 1) 23 3 i0 (.int .i64 0) 1 Tryz.underlying23 hi hz hss .i64 .i64 q.sn (by rw [hbb]; omega) (by unfold maxLen; omega) (by omega)
   have hyz : Below Wy.heap.size Wy Wz := (Below.refl _ _).grown hgr (Nat.le_refl _) (fun r hr => by cases hr)
   have hbz : Below Wx.heap.size Wx Wz := hby.trans (hyz.mono hby.size)
   have h8z : Wz.heap[Wx.heap.size]? = some (.cells (r8C []) 81 (0, 0)) := (hyz.block _ (by omega)).trans h8y
   have xq := hf.qu.cells.2.1
   have lq := hf.qu.cells.2.2.2.2
   have xq2 := (bcell hby).1 _ 1 lq |>.trans xq
   have xq3 := (bcell hbz).1 _ 1 lq |>.trans xq
   have lq2 := lt_of_cell xq2
   have lq3 := lt_of_cell xq3
   have HQc : Hid (∀ W, Below Wx.heap.size Wx W → W.cell? ⟨w.heap.size, 1, none⟩ = some (.slice q.sA q.sn q.sc)) := fun W h => (bcell h).1 _ 1 lq |>.trans xq
   have HShw : Hid (∀ W, Below Wx.heap.size Wx W → iSl W W.heap.size q.sA q.sn q.sc q.shows) := fun W h => (HQu.out W (hBx.trans (h.mono hxz))).2.1
   have HVal : Hid (∀ W, Below Wx.heap.size Wx W → iSl W W.heap.size A7 x.length c7 x) := fun W h => hvr.keep (Rep.flat_stable _) h.size h.block
   rw [← hWy, World.size_alloc] at hrun
   have HC := hidp hc
   have HF := hidp hf
   have HV := hidp hv
   have HCl := hidp hCl
   have HXs := hidp hxs
   have HXl := hidp hxl
   have HSn := hidp hsn
   have HOwn0 := hidp hown0
   have H8z := hidp h8z
   have HBz := hidp hbz
   have HZy := hidp hzy
   have HWy := hidp hWy
   have hvc := hvr.2.1
   have hvcc := hvr.2.2.1
   clear hc hf hv hCl hxs hxl hsn hown0 h8z hbz hzy hWy h8y hby hyz hgr hvr hnl hlr xq2 lq2 hx0
   gi_wp2_with fail
   clear hrun xq lq xq3 lq3
   gi_loopw [9, 29] (fun x9 i wr => ∃ (k : Nat) (v9 : Value), k ≤ q.sn ∧ i = .int .i64 k ∧ x9 = v9 ∧ wr.ownsRow (Wx.heap.size + 1) 3 1 v9 k ((showP q x k).flatMap iEnc) ∧ wr.heap[Wx.heap.size]? = some (.cells (r8C (showP q x k)) 81 (0, 0)) ∧ Below Wx.heap.size Wx wr) (fun _ i _ => q.sn - (intOf i).toNat)
   case atStart => exact ⟨0, _, by omega, rfl, rfl, by have := HOwn0.out; rw [HZy.out] at this; exact this, H8z.out, HBz.out⟩
   case round =>
    obtain ⟨k, v9, hk, rfl, rfl, hown, h8, hbe⟩ := hrel
    by_cases hks : k < q.sn
    ·obtain ⟨bs, os, sh, hA, _, hsh, c0⟩ := iSl.get (HShw.out wr hbe) hks
     have hshr := HVo.out.1 sh (List.mem_of_getElem? hsh)
     obtain ⟨shn, rfl⟩ : ∃ n : Nat, sh = n := ⟨sh.toNat, by omega⟩
     have hshx : shn < x.length := by have := HXl.out; omega
     obtain ⟨bv, ov, y, hA7, hbv, hy, d0⟩ := iSl.get (HVal.out wr hbe) hshx
     have hbvx : bv < Wx.heap.size := by
      obtain ⟨b3, o3, y3, hA73, hb3, _, _⟩ := iSl.get (HVal.out Wx (Below.refl _ _)) hshx
      rw [hA7] at hA73
      injection hA73 with h
      injection h with h
      omega
     have hstep := showP_step (vs := x) hsh
     rw [Int.toNat_natCast, List.getD_eq_getElem?_getD, hy] at hstep
     simp only [Option.getD_some] at hstep
     have hixs := fun W => ix_Ints (c := q.sc) hA hks W
     have hixv := fun W => ix_Ints (c := c7) hA7 hshx W
     simp only [Nat.mul_one] at hixs hixv
     have hpl : (showP q x k).length = k := showP_len (by have := HSn.out; omega)
     obtain ⟨A9, c9, rfl, _⟩ := own_rows iEnc_len (by decide) hown
     have hown1 : wr.ownsRow (Wx.heap.size + 1) 3 1 (.slice A9 k c9) (showP q x k).length ((showP q x k).flatMap iEnc) := by rw [hpl]; exact hown
     have hzr := hbe.size
     have hlt9 := fun g hg => (hown.lt g hg)
     obtain ⟨v5, w5', hrun, hown5, hg5, hat5⟩ := run_append_one (P := Tryz.prog) (ty := 23) (l := showP q x k) (enc := iEnc) (w := wr) (base := Wx.heap.size + 1) Tryz.underlying23 hi hz hss hbb rfl iEnc_len (by decide) iEnc_one hown1 y (by rw [hpl]; omega) (by rw [hpl]; omega) (by have := lt_of_heap h8; omega)
     rw [hpl] at hown5
     obtain ⟨A5, c5, rfl, _⟩ := own_rows iEnc_len (by decide) hown5
     have keep5 : ∀ b, b < wr.heap.size → b ≤ Wx.heap.size → w5'.heap[b]? = wr.heap[b]? := fun b h1 h2 => (hg5.block b (by simp; omega) (fun e => by have := (hlt9 b e.symm).1; omega)).trans (Below.heap_alloc _ _ _ h1)
     have hs5 := hg5.size
     simp only [World.size_alloc] at hs5
     have hb5 : Below Wx.heap.size wr w5' := ⟨hg5.os, hg5.tape, hg5.output, by omega, fun b hb => keep5 b (by omega) (by omega)⟩
     have h85 : w5'.heap[Wx.heap.size]? = some (.cells (r8C (showP q x k)) 81 (0, 0)) := (keep5 _ (lt_of_heap h8) (Nat.le_refl _)).trans h8
     have d5 := (World.cell?_of_block (w := wr) (a := ⟨bv, ov + shn, none⟩) (keep5 bv hbv (by omega))).trans d0
     have x8 := cell_of_heap (o := k) h85
     rw [r8C_get _ (by omega)] at x8
     have f8 := frozen_of_heap (o := k) h85
     have l8 := lt_of_heap h85
     have lb := lt_of_cell c0
     have lv := lt_of_cell d0
     have lv5 := lt_of_cell d5
     have hk8 : (k : Int) < 8 := by omega
     have hks' : (k : Int) < q.sn := by omega
     have HR5 := hidp hrun
     have HO5 := hidp hown5
     have H85 := hidp h85
     have HB5' := hidp (hbe.trans hb5)
     have HST := hidp hstep
     have HPL := hidp hpl
     clear hrun hown5 h85 hb5 hstep hpl hown hown1 hg5 hat5 keep5 hs5 h8 hA hA7 hsh hy hbe hlt9 hzr hshr
     gi_wp2_with (gi_at_builtin; refine wpListIn_append_known rfl (.tmp 34) (.tmp 39) 23 rfl rfl rfl HR5.out ?_)
     refine ⟨⟨k + 1, _, by omega, by go_num, rfl, ?_, ?_, ?_⟩, by simp [intOf]; omega⟩
     ·rw [HST.out]
      exact own_keepB HO5.out fun g hg => heap_set_ne rfl (by have := (HO5.out.lt g hg).1; omega) _ _
     ·rw [HST.out, heap_setO H85.out, ← r8C_snoc _ _ (by rw [HPL.out]; omega), HPL.out]
     ·exact HB5'.out.setCell (p := ⟨Wx.heap.size, k, none⟩) (Nat.le_refl _) _
    ·obtain rfl : k = q.sn := by omega
     have hkk : ¬ ((q.sn : Int) < q.sn) := by omega
     have hSJ : showP q x q.sn = showJ q x := by rw [HSn.out]; exact showP_all q x
     rw [hSJ] at hown h8
     obtain ⟨X, hX⟩ : ∃ X, showJ q x = X := ⟨_, rfl⟩
     rw [hX] at hown h8
     have hXl : X.length = q.sn := by rw [← hX, showJ_len, HSn.out]
     obtain ⟨A9, c9, rfl, _⟩ := own_rows iEnc_len (by decide) hown
     obtain ⟨ls, hls⟩ : ∃ ls, ddJ (pre.map (showJ q)) = ls := ⟨_, rfl⟩
     have hcr := HC.out.below hbe
     rw [hls] at hcr
     have hfr := HF.out.keep (fun b hb => hbe.block b (HF.out.lt hb).1) (hbe.mono hxz)
     have hlsl : ∀ y ∈ ls, y.length = X.length := by
      intro y hy
      rw [← hls, ddJ_mem] at hy
      obtain ⟨u, _, rfl⟩ := List.mem_map.1 hy
      rw [showJ_len, hXl, HSn.out]
     have hmem : r8 X ∈ ls.map r8 ↔ X ∈ ls := r8_mem (by omega) hlsl
     obtain ⟨⟨a0, a1, a2, a3, a4, a5, a6, a7⟩, hr8⟩ : ∃ r, r8 X = r := ⟨_, rfl⟩
     have h8c : r8C X = #[.int .i64 a0, .int .i64 a1, .int .i64 a2, .int .i64 a3, .int .i64 a4, .int .i64 a5, .int .i64 a6, .int .i64 a7] := by
      have h := hr8
      unfold r8 at h
      injection h with e0 e1 e2 e3 e4 e5 e6 e7
      unfold r8C
      rw [e0, e1, e2, e3, e4, e5, e6, e7]
     rw [h8c] at h8
     have y0 := cell_of_heap (o := 0) h8
     have y1 := cell_of_heap (o := 1) h8
     have y2 := cell_of_heap (o := 2) h8
     have y3 := cell_of_heap (o := 3) h8
     have y4 := cell_of_heap (o := 4) h8
     have y5 := cell_of_heap (o := 5) h8
     have y6 := cell_of_heap (o := 6) h8
     have y7 := cell_of_heap (o := 7) h8
     have xm := cell_of_heap (o := 0) hfr.mbox
     have xr := cell_of_heap (o := 0) hcr.box
     simp only [List.getElem?_toArray, List.getElem?_cons_zero, List.getElem?_cons_succ] at y0 y1 y2 y3 y4 y5 y6 y7 xm xr
     have l8 := lt_of_cell y0
     have lm := lt_of_cell xm
     have lr := lt_of_cell xr
     have hlk := km_lookup (P := Tryz.prog) r_ops Tryz.underlying76 (run_zero_bool wr) hcr.map (r8 X)
     rw [hr8] at hlk hmem
     simp only [r8V] at hlk
     have HX := hidp hX
     have HLs := hidp hls
     have HCr := hidp hcr
     have HFr := hidp hfr
     have HB := hidp hbe
     have HR8 := hidp hr8
     have HXL := hidp hXl
     have HOwn := hidp hown
     have HLsl := hidp hlsl
     clear hSJ hX hls hcr hfr hbe hown h8 h8c hr8 hXl hkk hlsl
     by_cases hin : X ∈ ls
     ·rw [decide_eq_true (hmem.2 hin)] at hlk
      have HIn := hidp hin
      clear hin hmem
      gi_wp2_with fail
      refine ⟨_, kept_of_below HB.out fun b h1 h2 => by omega, fun b hb => ⟨Nat.lt_of_lt_of_le (HCl.out b hb) HB.out.size, .inl hb⟩, _, rs, rfl, ?_, HFr.out⟩
      rw [List.map_append, List.map_singleton, ddJ_snoc, HX.out, HLs.out, if_pos HIn.out]
      exact HCr.out
     ·rw [decide_eq_false (fun h => hin (hmem.1 h))] at hlk
      have HIn := hidp hin
      clear hin hmem
      have hrs : ((rs.length : Int) == 65536) = false := by simp; omega
      have hup := km_update (P := Tryz.prog) r_ops HCr.out.map (r8 X)
      obtain ⟨w7, hup, hkm7, hg7, hz7⟩ := hup
      rw [HR8.out] at hup hkm7
      simp only [r8V] at hup
      have hk7 : ∀ b, b < wr.heap.size → b ≠ w3.heap.size → w7.heap[b]? = wr.heap[b]? := fun b h1 h2 => hg7.block b h1 (fun e => by injection e with e; exact h2 e)
      have hap := HCr.out.apart
      have hown7 : w7.ownsRow n1 23 1 (.slice AR rs.length cR) rs.length (rs.flatMap rwEnc) := own_keepB HCr.out.own fun g hg => hk7 g (HCr.out.own.lt g hg).2 (hap.1 g hg).1
      have hbr7 : w7.heap[w.heap.size + 1]? = some (.cells #[.slice AR rs.length cR] 37 (0, 0)) := (hk7 _ (lt_of_heap HCr.out.box) (Ne.symm hap.2.2)).trans HCr.out.box
      have xr7 := cell_of_heap (o := 0) hbr7
      simp only [List.getElem?_toArray, List.getElem?_cons_zero] at xr7
      have lr7 := lt_of_cell xr7
      obtain ⟨ints0, hii, hiz, his, hib⟩ := info_parts intsInfo
      obtain ⟨v8, w8, hrun8, hown8, hg8, hat8⟩ := run_append_one (P := Tryz.prog) (ty := 37) (l := rs) (enc := rwEnc) (w := w7) (base := n1) Tryz.underlying37 hii hiz his hib rfl rwEnc_len (by decide) rwEnc_one hown7 ⟨A9, c9, X⟩ (by omega) (by omega) (by have := HB.out.size; omega)
      obtain ⟨A8, c8, rfl, _⟩ := own_rows rwEnc_len (by decide) hown8
      simp only [rwEnc, rwV, HXL.out] at hrun8
      have hlo := fun g (hg : (Value.slice AR rs.length cR).ownBlock = some g) => HCr.out.own.lt g hg
      have hk8 : ∀ b, b < wr.heap.size → (Value.slice AR rs.length cR).ownBlock ≠ some b → w8.heap[b]? = w7.heap[b]? := fun b h1 h2 => (hg8.block b (by simp; omega) (fun e => h2 e.symm)).trans (Below.heap_alloc _ _ _ (by omega))
      have hbr8 : w8.heap[w.heap.size + 1]? = some (.cells #[.slice AR rs.length cR] 37 (0, 0)) := (hk8 _ (lt_of_heap HCr.out.box) (fun e => (hap.1 _ e).2.1 rfl)).trans hbr7
      have z8 := cell_of_heap (o := 0) hbr8
      have fz8 := frozen_of_heap (o := 0) hbr8
      simp only [List.getElem?_toArray, List.getElem?_cons_zero] at z8
      have lz8 := lt_of_cell z8
      have hzw := hg8.size
      simp only [World.size_alloc] at hzw
      obtain ⟨Wf, hWf⟩ : ∃ Wf, w8.setCell ⟨w.heap.size + 1, 0, none⟩ (.slice A8 (rs.length + 1) c8) = Wf := ⟨_, rfl⟩
      have hzf : Wf.heap.size = w8.heap.size := by rw [← hWf]; simp [World.setCell]
      have hkf : ∀ b, b ≠ w.heap.size + 1 → Wf.heap[b]? = w8.heap[b]? := fun b h => by rw [← hWf]; exact heap_set_ne rfl h _ _
      have hkall : ∀ b, b < wr.heap.size → b ≠ w3.heap.size → b ≠ w.heap.size + 1 → (Value.slice AR rs.length cR).ownBlock ≠ some b → Wf.heap[b]? = wr.heap[b]? := fun b h1 h2 h3 h4 => (hkf b h3).trans ((hk8 b h1 h4).trans (hk7 b h1 h2))
      have hkept : Kept (CRow w3.heap.size (w.heap.size + 1) (.slice AR rs.length cR) rs) Wx Wf := by
       rw [← hWf]
       exact ((((kept_of_below HB.out fun b h1 h2 => by omega).grown hg7 (fun r e => by injection e with e; exact .inl (.inl e.symm))).alloc _).grown hg8 (fun r e => .inl (.inr (.inr (.inl e))))).setCell (.inl (.inr (.inl rfl))) _
      have hbs := HB.out.size
      have hnl := HOwn.out.lt
      have hFin : ∃ C2, Kept (CRow w3.heap.size (w.heap.size + 1) (.slice AR rs.length cR) rs) Wx Wf ∧ (∀ b, C2 b → b < Wf.heap.size ∧ (CRow w3.heap.size (w.heap.size + 1) (.slice AR rs.length cR) rs b ∨ Wx.heap.size ≤ b)) ∧
        ∃ v rs, C2 = CRow w3.heap.size (w.heap.size + 1) v rs ∧ RCol q w3.heap.size (w.heap.size + 1) n1 (ddJ ((pre ++ [x]).map (showJ q))) v rs Wf ∧ RowsFx q w w3.heap.size Wf := by
       have hnew : w8.ownsRow n1 3 1 (.slice A9 q.sn c9) q.sn (X.flatMap iEnc) := own_base (own_keepB HOwn.out fun g hg => by
        have h1 := hnl g hg
        exact (hk8 g h1.2 (fun e => by have := HCl.out g (.inr (.inr (.inl e))); omega)).trans (hk7 g h1.2 (fun e => by have := HCl.out _ (.inl rfl); omega))) fun g hg => by have := (hnl g hg).1; omega
       refine ⟨CRow w3.heap.size (w.heap.size + 1) (.slice A8 (rs.length + 1) c8) (rs ++ [⟨A9, c9, X⟩]), hkept, ?_, _, _, rfl, ⟨?_, ?_, ?_, ?_, ?_⟩, HFr.out.keep (fun b hb => ?_) ?_⟩
       ·rintro b (h | h | h | ⟨r, hr, h⟩)
        ·exact ⟨by have := HCl.out _ (.inl rfl); omega, .inl (.inl h)⟩
        ·exact ⟨by have := HCl.out _ (.inr (.inl rfl)); omega, .inl (.inr (.inl h))⟩
        ·refine ⟨by have := (hown8.lt b h).2; omega, ?_⟩
         rcases hat8 with e | e
         ·rw [e] at h; exact .inl (.inr (.inr (.inl h)))
         ·rw [e] at h; injection h with h; exact .inr (by omega)
        ·rcases List.mem_append.1 hr with hr | hr
         ·have h1 : CRow w3.heap.size (w.heap.size + 1) (.slice AR rs.length cR) rs b := .inr (.inr (.inr ⟨r, hr, h⟩))
          exact ⟨by have := HCl.out b h1; omega, .inl h1⟩
         ·rw [List.mem_singleton.1 hr] at h
          unfold rwV at h
          simp only [HXL.out] at h
          exact ⟨by have := (hnl b h).2; omega, .inr (by have := (hnl b h).1; omega)⟩
       ·rw [← hWf]; exact heap_set1 hbr8 _
       ·rw [List.map_append, List.map_singleton, ddJ_snoc, HX.out, HLs.out, if_neg HIn.out, List.map_append, List.map_singleton, HR8.out]
        have hk := hkm7
        unfold addKey at hk
        rw [if_neg (fun h => HIn.out ((r8_mem (by rw [HXL.out]; exact hs8) HLsl.out).1 (by rw [HR8.out]; exact h)))] at hk
        exact hk.keep ((hkf _ hap.2.2).trans (hk8 _ (by have := HCl.out _ (.inl rfl); omega) (fun e => (hap.1 _ e).1 rfl)))
       ·rw [List.length_append, List.length_singleton]
        exact own_keepB hown8 fun g hg => hkf g fun e => by
         rcases hat8 with h | h
         ·rw [h] at hg; exact (hap.1 g hg).2.1 e
         ·rw [h] at hg; injection hg with hg; have := HCl.out _ (.inr (.inl rfl)); omega
       ·rw [List.map_append, List.map_singleton, List.map_append, List.map_singleton, ddJ_snoc, HX.out, HLs.out, if_neg HIn.out, HCr.out.ls]
       ·intro r hr
        rcases List.mem_append.1 hr with hr | hr
        ·exact own_keepB (HCr.out.rows r hr) fun g hg => hkall g ((HCr.out.rows r hr).lt g hg).2 (hap.2.1 r hr g hg).1 (hap.2.1 r hr g hg).2 fun e => (hap.1 g e).2.2 r hr hg
        ·rw [List.mem_singleton.1 hr]
         unfold rwV
         simp only [HXL.out]
         exact own_keepB hnew fun g hg => hkf g fun e => by have := (hnl g hg).1; have := HCl.out _ (.inr (.inl rfl)); omega
       ·have hb2 := HFr.out.lt hb
        exact hkall b hb2.1 hb2.2.2.2.1 hb2.2.2.2.2 fun e => by
         have h1 := (hlo b e).1
         have h5 := HZ5.out
         rw [HN1.out] at h5
         omega
       ·exact ⟨by rw [← hWf]; exact hg8.os.trans hg7.os, by rw [← hWf]; exact hg8.tape.trans hg7.tape, by rw [← hWf]; exact hg8.output.trans hg7.output, by omega, fun b hb => hkall b (by omega) (by omega) (by omega) fun e => by
         have h1 := (hlo b e).1
         have h5 := HZ5.out
         rw [HN1.out] at h5
         omega⟩
      have HFin := hidp hFin
      have HR8' := hidp hrun8
      have HWf := hidp hWf
      clear hrun8 hFin hWf hzf hkf hkall hkept hk8 hk7 hlo hnl hbs hzw hbr8 hown8 hg8 hat8 hbr7 hown7 hap hkm7 hg7 hz7
      gi_wp2_with (gi_at_builtin; refine wpListIn_append_known rfl (.tmp 56) (.tmp 58) 37 rfl rfl rfl HR8'.out ?_)
      rw [HWf.out]
      exact HFin.out
  case done =>
   rintro xs D C' W hRx hD hlt hnD ⟨v, rs, rfl, hc, hf⟩ hk
   rw [HN1.out] at hD
   have hz5 := HZ5.out
   rw [HN1.out] at hz5
   have hfar := HZ33.out
   have hrs : rs.length ≤ 65535 := by
    have h1 := HSz.out HCk.out
    rw [← hRx] at h1
    have h2 := congrArg List.length hc.ls
    rw [List.length_map] at h2
    have h3 := ddJ_len (xs.map (showJ q))
    rw [List.length_map] at h3
    omega
   have hdone : ∀ d : List Rw, d.Perm rs → d.Pairwise (fun x y => lexJ y.l x.l = false) → d.map (·.l) = rowsV q l := by
    intro d hp hpw
    rw [HR.out.1]
    have hpl : (d.map (·.l)).Perm (ddJ (xs.map (showJ q))) := by rw [← hc.ls]; exact hp.map _
    have hnd : (d.map (·.l)).Nodup := (hpl.nodup_iff).2 (ddJ_nodup _)
    refine str_ext linX ?_ (rowsJ_str q l) fun r => ?_
    ·have h1 : (d.map (·.l)).Pairwise (fun x y => lexJ y x = false) := by rw [List.pairwise_map]; exact hpw
     refine (h1.and hnd).imp fun {x y} h => ?_
     rcases lexJ_tri x y with h3 | h3 | h3
     ·exact h3
     ·exact absurd h3 h.2
     ·rw [h.1] at h3; cases h3
    ·rw [hpl.mem_iff, ddJ_mem, hRx]
     unfold rowsJ
     rw [ordOf_mem]
   have hap := hc.apart
   have hDk : ∀ b cs t, W.heap[b]? = some (.cells cs t (0, 0)) → b ≠ D := fun b cs t h e => by rw [e, hk] at h; cases h
   have HC := hidp hc
   have HF := hidp hf
   have HK := hidp hk
   have HDn := hidp hdone
   have HAp := hidp hap
   have HDk := hidp hDk
   have xr := cell_of_heap (o := 0) hc.box
   simp only [List.getElem?_toArray, List.getElem?_cons_zero] at xr
   have lr := lt_of_cell xr
   clear hc hf hk hdone hap hDk hRx hnD
   rcases HC.out.own.2 with ⟨rfl, hnil⟩ | ⟨G, cap, cs, rfl, hGb, hGh, hGn, hGm, _⟩
   ·obtain rfl : rs = [] := List.eq_nil_of_length_eq_zero hnil
    go_wp2_with fail
    refine (sortRows_nil none 0 _ _).mono ?_
    rintro e W9 ⟨rfl, rfl⟩
    have HRows : Hid (∀ W', W.heap.size ≤ W'.heap.size → (∀ b, w.heap.size ≤ b → b < W.heap.size → b ≠ w.heap.size + 1 → b ≠ w.heap.size + 1 + 1 → b ≠ D → W'.heap[b]? = W.heap[b]?) → RowsIn W' none 0 0 (rowsV q l)) := fun W' _ _ => by
     have h := HDn.out [] (List.Perm.refl _) List.Pairwise.nil
     rw [← h]; exact rowsIn_nil W'
    rename World => W9
    have HBr9 : Hid (W9.heap[w.heap.size + 1]? = some (.cells #[.slice none 0 0] 37 (0, 0))) := HC.out.box
    have HBe9 : Hid (W9.heap[w.heap.size + 1 + 1]? = some (.cells #[.int .i64 0] 31 (0, 0))) := HF.out.err
    have HQ9 := hidp HF.out.qu
    have HB9 := hidp HF.out.below
    have HK9 := hidp HK.out
    clear xr lr
    have xr9 := cell_of_heap (o := 0) HBr9.out
    have xe9 := cell_of_heap (o := 0) HBe9.out
    have fr9 := frozen_of_heap (o := 0) HBr9.out
    have fe9 := frozen_of_heap (o := 0) HBe9.out
    simp only [List.getElem?_toArray, List.getElem?_cons_zero] at xr9 xe9
    have lr9 := lt_of_cell xr9
    have le9 := lt_of_cell xe9
    go_wp2_with fail
    have hkf : ∀ b, b ≠ w.heap.size + 1 → b ≠ w.heap.size + 1 + 1 → ((W9.setCell ⟨w.heap.size + 1, 0, none⟩ (.slice none 0 0)).setCell ⟨w.heap.size + 1 + 1, 0, none⟩ (.int .i64 0)).heap[b]? = W9.heap[b]? := fun b h1 h2 => heap_set_ne (heap_set_ne rfl h1 _ _) h2 _ _
    refine rows_leave (Ds := [D]) (A := none) (n := 0) (c := 0) rfl rfl ⟨⟨?_⟩, ?_, ?_, ?_⟩ (fun W' hk' W2 hz2 hb2 => have hz' : W9.heap.size ≤ W'.heap.size := by simpa [World.setCell] using hk'.size
     HRows.out W2 (Nat.le_trans hz' hz2) fun b hw h0 h1 h2 h3 => (hb2 b hw (Nat.lt_of_lt_of_le h0 hz')).trans ((hk'.block b (by simpa [World.setCell] using h0) (by simpa using h3)).trans (hkf b h1 h2))) ⟨by simp, fun E hE => ?_⟩ (.inl rfl)
    ·exact (hkf _ (by omega) (by omega)).trans HQ9.out.box
    ·exact heap_set_ne (heap_set1 HBr9.out _) (by omega) _ _
    ·rw [HR.out.2]; exact heap_set1 (heap_set_ne HBe9.out (by omega) _ _) _
    ·exact (HB9.out.setCell (p := ⟨w.heap.size + 1, 0, none⟩) (by show _ ≤ w.heap.size + 1; omega) _).setCell (p := ⟨w.heap.size + 1 + 1, 0, none⟩) (by show _ ≤ w.heap.size + 1 + 1; omega) _
    ·rw [List.mem_singleton.1 hE]
     exact ⟨by omega, (hkf _ (by omega) (by omega)).trans HK9.out⟩
   ·go_wp2_with fail
    refine (sortRows_any (base := n1) rs HC.out.own (fun r hr => own_rwIn (HC.out.rows r hr) ((HAp.out.1 G rfl).2.2 r hr)) (by omega)).mono ?_
    rintro e W9 ⟨rfl, d, hp, hpw, _, hown9, hb9, hk9⟩
    have hGD : G ≠ D := HDk.out G _ _ hGh
    have hz9 := hb9.size
    have HRows : Hid (∀ W', W9.heap.size ≤ W'.heap.size → (∀ b, w.heap.size ≤ b → b < W9.heap.size → b ≠ w.heap.size + 1 → b ≠ w.heap.size + 1 + 1 → b ≠ D → W'.heap[b]? = W9.heap[b]?) → RowsIn W' (some ⟨G, 0, none⟩) rs.length cap (rowsV q l)) := by
     intro W' hzz hbb
     refine ⟨d, HDn.out d hp hpw, ?_, fun r hr => ?_⟩
     ·have h1 := own_keepB hown9 fun g hg => by
       have hgG : G = g := by injection hg
       subst hgG
       have hgl := lt_of_heap hGh
       exact hbb _ (by omega) (by omega) (HAp.out.1 G rfl).2.1 (by omega) hGD
      obtain ⟨A2, c2, he, hr2⟩ := own_rows rwEnc_len (by decide) h1
      injection he with e1 e2 e3
      rw [e1, e3]
      exact hr2
     ·have h0 := HC.out.rows r (hp.mem_iff.1 hr)
      have h1 : W'.ownsRow n1 3 1 (rwV r) r.l.length (r.l.flatMap iEnc) := own_keepB h0 fun g hg => by
       obtain ⟨cs2, hc2⟩ := own_kind h0 hg
       have h2 := h0.lt g hg
       have h3 := HAp.out.2.1 r (hp.mem_iff.1 hr) g hg
       have h4 : g ≠ G := fun e => (HAp.out.1 G rfl).2.2 r (hp.mem_iff.1 hr) (e ▸ hg)
       exact (hbb g (by omega) (by omega) h3.2 (by omega) (HDk.out g _ _ hc2)).trans (hk9.block g h2.2 h4)
      obtain ⟨A2, c2, he, hr2⟩ := own_rows iEnc_len (by decide) h1
      unfold rwV at he
      injection he with e1 e2 e3
      rw [e1, e3]
      exact hr2
    have hk9' : ∀ b, b < W.heap.size → b ≠ G → W9.heap[b]? = W.heap[b]? := fun b h1 h2 => hk9.block b h1 h2
    have HBr9 : Hid (W9.heap[w.heap.size + 1]? = some (.cells #[.slice (some ⟨G, 0, none⟩) rs.length cap] 37 (0, 0))) := (hk9' _ lr (Ne.symm (HAp.out.1 G rfl).2.1)).trans HC.out.box
    have HBe9 : Hid (W9.heap[w.heap.size + 1 + 1]? = some (.cells #[.int .i64 0] 31 (0, 0))) := (hk9' _ (lt_of_heap HF.out.err) (by omega)).trans HF.out.err
    have HQ9 : Hid (QBox q w.heap.size W9) := ⟨(hk9' _ (lt_of_heap HF.out.qu.box) (by omega)).trans HF.out.qu.box⟩
    have HB9 := hidp (HF.out.below.trans (hb9.mono (show w.heap.size ≤ n1 by omega)))
    have HK9 : Hid (W9.heap[D]? = some (.deferred (some []))) := (hk9' _ hlt (Ne.symm hGD)).trans HK.out
    clear xr lr hown9 hk9 hk9' hp hpw hb9
    have xr9 := cell_of_heap (o := 0) HBr9.out
    have xe9 := cell_of_heap (o := 0) HBe9.out
    have fr9 := frozen_of_heap (o := 0) HBr9.out
    have fe9 := frozen_of_heap (o := 0) HBe9.out
    simp only [List.getElem?_toArray, List.getElem?_cons_zero] at xr9 xe9
    have lr9 := lt_of_cell xr9
    have le9 := lt_of_cell xe9
    go_wp2_with fail
    have hkf : ∀ b, b ≠ w.heap.size + 1 → b ≠ w.heap.size + 1 + 1 → ((W9.setCell ⟨w.heap.size + 1, 0, none⟩ (.slice (some ⟨G, 0, none⟩) rs.length cap)).setCell ⟨w.heap.size + 1 + 1, 0, none⟩ (.int .i64 0)).heap[b]? = W9.heap[b]? := fun b h1 h2 => heap_set_ne (heap_set_ne rfl h1 _ _) h2 _ _
    refine rows_leave (Ds := [D]) (A := (some ⟨G, 0, none⟩)) (n := rs.length) (c := cap) rfl rfl ⟨⟨?_⟩, ?_, ?_, ?_⟩ (fun W' hk' W2 hz2 hb2 => have hz' : W9.heap.size ≤ W'.heap.size := by simpa [World.setCell] using hk'.size
     HRows.out W2 (Nat.le_trans hz' hz2) fun b hw h0 h1 h2 h3 => (hb2 b hw (Nat.lt_of_lt_of_le h0 hz')).trans ((hk'.block b (by simpa [World.setCell] using h0) (by simpa using h3)).trans (hkf b h1 h2))) ⟨by simp, fun E hE => ?_⟩ (.inl rfl)
    ·exact (hkf _ (by omega) (by omega)).trans HQ9.out.box
    ·exact heap_set_ne (heap_set1 HBr9.out _) (by omega) _ _
    ·rw [HR.out.2]; exact heap_set1 (heap_set_ne HBe9.out (by omega) _ _) _
    ·exact (HB9.out.setCell (p := ⟨w.heap.size + 1, 0, none⟩) (by show _ ≤ w.heap.size + 1; omega) _).setCell (p := ⟨w.heap.size + 1 + 1, 0, none⟩) (by show _ ≤ w.heap.size + 1 + 1; omega) _
    ·rw [List.mem_singleton.1 hE]
     exact ⟨by omega, (hkf _ (by omega) (by omega)).trans HK9.out⟩
  case stop => rintro D cd C' W hD hlt hnD h; exact h.elim
theorem rows_any (q : Qu) (FA : Option Addr) (fn fc : Nat) (l : List Fc) (w : World) (hq : QuIn q w w.heap.size) (hw : WordsAt w) (hl : fSl w w.heap.size FA fn fc l) (hfn : fn ≤ 100000) (hsz : checkJ wdJ q = true → (fulJ q l).length ≤ 65535) :
  Calls Tryz.prog 13 #[.agg #[.slice q.nA q.nn q.nc, .slice q.sA q.sn q.sc, .slice q.aA q.an q.ac, .slice q.tA q.tn q.tc], .slice FA fn fc] w fun e w' => ∃ A n c, e = .returned (.tuple #[.slice A n c, .int .i64 (rowsE q)]) ∧ RowsIn w' A n c (rowsV q l) ∧ Below w.heap.size w w' :=
 (rows_fresh q FA fn fc l w hq hw hl hfn hsz).mono fun _ _ ⟨A, n, c, he, hr, hb⟩ => ⟨A, n, c, he, hr.now, hb⟩
end Go.Proofs.YtbegdcjofnfkiaaGreatDoor
