/- Several texts in one: A19 A21 A20 A22 A16. -/
import Derived.Test.YtbegdcjofnfkiaaGreatDoorQ16
import Derived.Shelf.Spec.SlicesInsertGrow
import Derived.Test.YtbegdcjofnfkiaaGreatDoorQ15
import Derived.Test.YtbegdcjofnfkiaaGreatDoorQ4
namespace Go.Proofs.YtbegdcjofnfkiaaGreatDoor
section
open Go.RowKit Go.Shelf
abbrev fZ : Value := .agg #[.int .i64 0, .int .i64 0, .int .i64 0, .int .i64 0, .int .i64 0, .int .i64 0, .int .i64 0, .int .i64 0]
def growRow (cs : List Value) (n i G : Nat) : Array Value := (cs.take (i * 8)).toArray ++ Builtin.zeroCells fZ.cells (n + 1 - i) ++ Builtin.zeroCells fZ.cells (G - (n + 1))
set_option maxHeartbeats 4000000 in
set_option maxRecDepth 100000 in
theorem insF_grow (b n c i vb voff vc : Nat) (cs vs : List Value) (w : World) (hi : i < n) (hnc : n ≤ c) (hroom : c < n + 1) (hbig : (n + 1) * 64 ≤ 140737488355328)
  (hcl : cs.length = n * 8) (hvl : vs.length = 8)
  (hcs : ∀ j v, cs[j]? = some v → w.cell? ⟨b, j, none⟩ = some v)
  (hvs : ∀ j v, vs[j]? = some v → w.cell? ⟨vb, voff + j, none⟩ = some v) (h1c : ∀ v ∈ cs, v.oneCell' = true) (h1v : ∀ v ∈ vs, v.oneCell' = true) :
  Calls Tryz.prog 89 #[.slice (some ⟨b, 0, none⟩) n c, .int .i64 i, .slice (some ⟨vb, voff, none⟩) 1 vc] w fun e w' =>
   e = .returned (.slice (some ⟨w.heap.size, 0, none⟩) (n + 1) (grownCap w (n + 1) c 54)) ∧
   w' = (((w.alloc (.cells (growRow cs n i (grownCap w (n + 1) c 54)) 54)).drew.setCells w.heap.size (i * 8) vs).drew).setCells w.heap.size ((i + 1) * 8) (cs.drop (i * 8)) := by
 have mixed : Tryz.prog.follows Departure.mixedOrders = true := by first | rfl | kernel_rfl
 obtain ⟨i0, hi0, hz0, hzs, hzb⟩ := info_parts fInfo
 have hz2 : ¬ ((i : Int) = (n : Int)) := by omega
 have hz3 : (c : Int) < (n : Int) + 1 := by omega
 have hsz : (Tryz.prog.info? 54).map (·.size) = some 8 := by rw [hi0]; simp [hzs]
 have hbw : b < w.heap.size := block_lt_of_cell (hcs 0 _ (List.getElem?_eq_getElem (by omega)))
 have hvw : vb < w.heap.size := block_lt_of_cell (hvs 0 _ (List.getElem?_eq_getElem (by omega)))
 have hkk : (n : Int) + 1 - (i : Int) = ((n + 1 - i : Nat) : Int) := by omega
 have hik : i + (n + 1 - i) = n + 1 := by omega
 have hold : (Builtin.firstCells i0.size i (.slice (some ⟨b, 0, none⟩) i c)).run Tryz.prog w.drew = .ok (cs.take (i * 8)).toArray w.drew := by
  rw [hzs]
  exact run_firstCells_some w.drew 8 i ⟨b, 0, none⟩ i c (cs.take (i * 8)) (by rw [List.length_take]; omega) (fun j v hj => by
   rw [Addr.add_lit, Nat.zero_add]
   rw [List.getElem?_take] at hj
   split at hj
   ·exact hcs j v hj
   ·cases hj)
 have hrz : ∀ ty, (Builtin.append_ #[28, 3] ty #[.slice (some ⟨b, 0, none⟩) i c, .int .i64 ((n : Int) + 1 - (i : Int))]).run Tryz.prog w =
   .ok (.slice (some ⟨w.heap.size, 0, none⟩) (n + 1) (grownCap w (n + 1) c 54)) (w.drew.alloc (.cells (growRow cs n i (grownCap w (n + 1) c 54)) 54)) := fun ty => by
  have h := Lib.run_append_grow_zeros w 28 3 ty 54 i0 _ .i64 .i64 Tryz.underlying28 Tryz.underlying3 hi0 hz0 (some ⟨b, 0, none⟩) i c (cs.take (i * 8)) hold (n + 1 - i) (by omega) (by omega) (by omega) (by omega) (by rw [hzb]; omega) (by rw [hzb, hik]; exact growslice_fits hroom hbig)
  rw [hik] at h
  rw [hkk]
  exact h
 obtain ⟨G, hG⟩ : ∃ G, G = grownCap w (n + 1) c 54 := ⟨_, rfl⟩
 obtain ⟨ROW, hROW⟩ : ∃ ROW : Array Value, ROW = growRow cs n i G := ⟨_, rfl⟩
 rw [← hG] at hrz ⊢
 rw [← hROW] at hrz ⊢
 have hRl : (n + 1) * 8 ≤ ROW.size := by
  rw [hROW]
  simp [growRow, Builtin.zeroCells, Value.cells]
  omega
 obtain ⟨W1, hW1⟩ : ∃ W1, W1 = w.drew.alloc (.cells ROW 54) := ⟨_, rfl⟩
 rw [← hW1] at hrz
 have hN : ∀ j, j < (n + 1) * 8 → (W1.cell? ⟨w.heap.size, j, none⟩).isSome = true := fun j hj => by
  rw [hW1, World.cell?_alloc_at (w := w.drew) ROW _ w.heap.size j rfl, Array.getElem?_eq_getElem (by omega)]; rfl
 have hNf : ∀ j, W1.frozen? ⟨w.heap.size, j, none⟩ = false := fun j => by rw [hW1]; exact World.frozen?_alloc_at (w := w.drew) ROW _ w.heap.size j rfl
 have hOb : ∀ j v, w.cell? ⟨b, j, none⟩ = some v → W1.cell? ⟨b, j, none⟩ = some v := fun j v h => by rw [hW1, World.cell?_alloc_past (w := w.drew) _ b j hbw]; exact h
 have hOv : ∀ j v, w.cell? ⟨vb, j, none⟩ = some v → W1.cell? ⟨vb, j, none⟩ = some v := fun j v h => by rw [hW1, World.cell?_alloc_past (w := w.drew) _ vb j hvw]; exact h
 have hcpA : ∀ (W : World), (∀ x, W.cell? x = W1.cell? x) → (∀ x, W.frozen? x = W1.frozen? x) → ∀ ty dc, (Builtin.copy_ #[28, 28] ty #[.slice (some ⟨w.heap.size, i * 8, none⟩) (n + 1 - i) dc, .slice (some ⟨vb, voff, none⟩) 1 vc]).run Tryz.prog W = .ok (goInt (Nat.min 1 (n + 1 - i))) (W.setCells w.heap.size (i * 8) vs) := fun W hWc hWf ty dc =>
  run_copy_wide W _ _ ty 54 8 w.heap.size (i * 8) (n + 1 - i) dc ⟨vb, voff, none⟩ 1 vc vs Tryz.underlying28 hsz (by rw [hvl]; simp only [Nat.min_def]; split <;> omega)
   (fun j v hj => by rw [Addr.add_lit, hWc]; exact hOv _ v (hvs j v hj))
   (fun j hj => by rw [hWc]; exact hN _ (by omega)) (fun j hj => by rw [hWf]; exact hNf _) h1v
 have hGn : n + 1 ≤ G := by rw [hG]; exact grownCap_ge w _ _ _
 have hG63 : G ≤ 9223372036854775807 := by
  have := grownCap_le_maxLen w (n + 1) c 54 (by unfold maxLen; omega)
  rw [← hG] at this
  unfold maxLen at this
  omega
 have hGi : ¬ (G = i) := by omega
 have hGim : ¬ (G = i + 1) := by omega
 have hci : ¬ (c = i) := by omega
 have hbN : b ≠ w.heap.size := by omega
 have hdl : (cs.drop (i * 8)).length = (n - i) * 8 := by rw [List.length_drop, hcl]; omega
 have hcpB : ∀ (W : World), (∀ x, W.cell? x = (W1.setCells w.heap.size (i * 8) vs).cell? x) → (∀ x, W.frozen? x = (W1.setCells w.heap.size (i * 8) vs).frozen? x) → ∀ ty dc sc, (Builtin.copy_ #[28, 28] ty #[.slice (some ⟨w.heap.size, (i + 1) * 8, none⟩) (n - i) dc, .slice (some ⟨b, i * 8, none⟩) (n - i) sc]).run Tryz.prog W = .ok (goInt (Nat.min (n - i) (n - i))) (W.setCells w.heap.size ((i + 1) * 8) (cs.drop (i * 8))) := fun W hWc hWf ty dc sc =>
  run_copy_wide W _ _ ty 54 8 w.heap.size ((i + 1) * 8) (n - i) dc ⟨b, i * 8, none⟩ (n - i) sc (cs.drop (i * 8)) Tryz.underlying28 hsz (by rw [hdl]; simp)
   (fun j v hj => by
    rw [Addr.add_lit, hWc, World.cell?_setCells_out _ _ _ _ _ (fun h _ => absurd h hbN)]
    exact hOb _ v (hcs (i * 8 + j) v (by rwa [List.getElem?_drop] at hj)))
   (fun j hj => by rw [hWc]; exact isSome_setCells _ _ _ _ (fun t ht => hN _ (by omega)) _ (hN _ (by rw [hdl] at hj; omega)))
   (fun j hj => by rw [hWf, World.frozen?_setCells]; exact hNf _) (fun v hv => h1c v (List.mem_of_mem_drop hv))
 subst hW1
 have hE1 : ∀ x, ((w.alloc (.cells ROW 54)).drew).cell? x = (w.drew.alloc (.cells ROW 54)).cell? x := fun x => rfl
 have hE2 : ∀ x, ((w.alloc (.cells ROW 54)).drew).frozen? x = (w.drew.alloc (.cells ROW 54)).frozen? x := fun x => rfl
 have hF1 : ∀ x, (((w.alloc (.cells ROW 54)).drew.setCells w.heap.size (i * 8) vs).drew).cell? x = ((w.drew.alloc (.cells ROW 54)).setCells w.heap.size (i * 8) vs).cell? x := fun x => rfl
 have hF2 : ∀ x, (((w.alloc (.cells ROW 54)).drew.setCells w.heap.size (i * 8) vs).drew).frozen? x = ((w.drew.alloc (.cells ROW 54)).setCells w.heap.size (i * 8) vs).frozen? x := fun x => rfl
 have hw1 : IntKind.i64.wrap ((i : Int) + 1) = (i : Int) + 1 := by rw [IntKind.wrap_i64]; omega
 have hb1 : (0 : Int) ≤ (i : Int) + 1 := by omega
 have hin : i ≤ n := by omega
 have htn : ((i : Int) + 1).toNat = i + 1 := by omega
 have hb3 : (i : Int) ≤ (n : Int) := by omega
 have hb5 : (i : Int) + 1 ≤ (n : Int) + 1 := by omega
 have hb6 : i + 1 ≤ n + 1 := by omega
 clear hkk hik hold hROW hG hRl
 go_enter Tryz.func89, Tryz.ntmps89
 go_wp2_with (first
  | (at_builtin; refine Lib.wpList_append_run _ rfl _ _ _ _ rfl _ _ rfl rfl _ _ (hrz _) ?_)
  | (at_builtin; refine wpList_copy_runI _ rfl _ _ 28 28 rfl _ _ rfl rfl (hcpA _ hE1 hE2 _ _) ?_)
  | (at_builtin; refine wpList_copy_runI _ rfl _ _ 28 28 rfl _ _ rfl rfl (hcpB _ (fun _ => rfl) (fun _ => rfl) _ _ _) ?_))
 go_region_law_o (refine step_copy_runI rfl _ _ 28 28 rfl (.slice (some ⟨w.heap.size, (i + 1) * 8, none⟩) (n - i) (G - (i + 1))) (.slice (some ⟨b, i * 8, none⟩) (n - i) (c - i)) (by simp [Act.eval, Act.put]) (by simp [Act.eval, Act.put]) (hcpB _ hF1 hF2 28 (G - (i + 1)) (c - i)) ?_)
 go_wp2
 go_ret
 exact ⟨rfl, rfl⟩
end
section
open Go.RowKit Go.Shelf
def InsPostI (base n : Nat) (v : Value) (l' : List Int) (w : World) (e : Ending) (w' : World) : Prop :=
 ∃ v', e = .returned v' ∧ w'.ownsRow base 3 1 v' (n + 1) (l'.flatMap iEnc) ∧ (v'.ownBlock = v.ownBlock ∨ ∃ b, v'.ownBlock = some b ∧ w.heap.size ≤ b) ∧ Kept (fun b => v.ownBlock = some b) w w'
set_option maxRecDepth 100000 in
set_option maxHeartbeats 4000000 in
theorem insI_end (base n : Nat) (v : Value) (l : List Int) (f : Int) (xA : Addr) (xc : Nat) (w : World) (hown : w.ownsRow base 3 1 v n (l.flatMap iEnc)) (hx : iSl w w.heap.size (some xA) 1 xc [f]) (hb : base ≤ w.heap.size) (hn : n ≤ 1000000) :
  Calls Tryz.prog 90 #[v, .int .i64 n, .slice (some xA) 1 xc] w (InsPostI base n v (l ++ [f]) w) := by
 obtain ⟨i0, hi, hz, hss, hbb⟩ := info_parts iInfo
 have hx1 := hx.2.1
 have hx2 := hx.2.2.1
 obtain ⟨v', w1, hrun, ho1, hg, hat⟩ := run_append_rows (P := Tryz.prog) (ty := 23) (l := l) (enc := iEnc) Tryz.underlying23 hi hz hss hbb rfl iEnc_len (by decide) iEnc_one hown hx (by omega) (by omega) hb
 have HRun := hidp hrun
 have HO := hidp ho1
 have HG := hidp hg
 have HAt := hidp hat
 clear hrun ho1 hg hat hi hz hss hbb hx
 have hend : ∀ V : Value, v = V → InsPostI base n v (l ++ [f]) w (.returned v') w1 := by
  rintro _ rfl
  exact ⟨v', rfl, HO.out, HAt.out.imp id fun e => ⟨_, e, Nat.le_refl _⟩, (Kept.refl (fun b => v.ownBlock = some b) w).grown HG.out fun r e => .inl e⟩
 have HEnd := hidp hend
 rcases hown.2 with ⟨hv, hn0⟩ | ⟨G, cap, cur, hv, hG, hheap, hnc, hcm, hrest⟩
 ·subst hv
  subst hn0
  clear hown hend
  go_enter Tryz.func90, Tryz.ntmps90
  go_wp2_with (at_builtin; refine wpList_append_known rfl (.tmp 23) (.tmp 24) 23 rfl rfl rfl HRun.out ?_)
  go_ret
  exact HEnd.out _ rfl
 ·subst hv
  have hcap : cap ≤ 9223372036854775807 := by have := hcm; unfold maxLen at this; omega
  clear hown hend hheap hrest hcm
  go_enter Tryz.func90, Tryz.ntmps90
  go_wp2_with (at_builtin; refine wpList_append_known rfl (.tmp 23) (.tmp 24) 23 rfl rfl rfl HRun.out ?_)
  all_goals
   go_ret
   exact HEnd.out _ rfl
set_option maxHeartbeats 4000000 in
set_option maxRecDepth 100000 in
theorem insI_shift (b n c i vb voff vc : Nat) (cs vs : List Value) (w : World) (hi : i < n) (hroom : n + 1 ≤ c) (hc63 : c ≤ 9223372036854775807) (hvb : vb ≠ b)
  (hcl : cs.length = n) (hvl : vs.length = 1)
  (hcs : ∀ j v, cs[j]? = some v → w.cell? ⟨b, j, none⟩ = some v) (hsp : ∀ j, j < (n + 1) → (w.cell? ⟨b, j, none⟩).isSome = true) (hfz : ∀ j, j < (n + 1) → w.frozen? ⟨b, j, none⟩ = false)
  (hvs : ∀ j v, vs[j]? = some v → w.cell? ⟨vb, voff + j, none⟩ = some v) (h1c : ∀ v ∈ cs, v.oneCell' = true) (h1v : ∀ v ∈ vs, v.oneCell' = true)
  (tA tB : TypeId) (kA kB : Nat) (hsa : w.shape? vb = some (tA, kA)) (hsb : w.shape? b = some (tB, kB)) (hkB : kB ≠ 0) (hfa : w.frozen? ⟨vb, voff, none⟩ = false) (hfe : w.frozen? ⟨vb, kA, none⟩ = false) :
  Calls Tryz.prog 90 #[.slice (some ⟨b, 0, none⟩) n c, .int .i64 i, .slice (some ⟨vb, voff, none⟩) 1 vc] w fun e w' =>
   e = .returned (.slice (some ⟨b, 0, none⟩) (n + 1) c) ∧ w' = (w.drew.setCells b ((i + 1)) (cs.drop i)).setCells b i vs := by
 obtain ⟨i0, hi0, h0, hs1, h2⟩ := info_parts iInfo
 have hsz : (Tryz.prog.info? 3).map (·.size) = some 1 := by rw [hi0]; simp [hs1]
 have hsizeOf : ∀ w, (Go.sizeOf 3).run Tryz.prog w = .ok 1 w := fun w => by simp [Go.sizeOf, typeInfo, hi0, hs1]
 have hz2 : ¬ ((i : Int) = (n : Int)) := by omega
 have hov : ∀ lb cb, (callFunc 122 #[.slice (some ⟨vb, voff, none⟩) 1 vc, .slice (some ⟨b, (i + 1), none⟩) lb cb]).run Tryz.prog w = .ok (.value (.bool false)) w := fun lb cb => by
  rw [run_callFunc_extern Tryz.func122 (by kernel_rfl) (by kernel_rfl) (by kernel_rfl) (e := Extern.SlicesOverlaps.overlaps #[23, 23] #[4]) (by kernel_rfl),
   Lib.run_overlaps_apart w 23 4 3 Tryz.underlying23 1 hsizeOf ⟨vb, voff, none⟩ ⟨b, (i + 1), none⟩ 1 vc lb cb hvb tA tB kA kB hsa hsb hkB hfa hfe]
  rfl
 have hdl : (cs.drop i).length = (n - i) := by rw [List.length_drop, hcl]
 have hw1 : IntKind.i64.wrap ((i : Int) + 1) = (i : Int) + 1 := by rw [IntKind.wrap_i64]; omega
 have mixed : Tryz.prog.follows Departure.mixedOrders = true := by first | rfl | kernel_rfl
 have hin : i ≤ n := by omega
 have hb1 : (0 : Int) ≤ (i : Int) + 1 := by omega
 have htn : ((i : Int) + 1).toNat = i + 1 := by omega
 have hb2 : ¬ (c = i + 1) := by omega
 have hb3 : (i : Int) ≤ (n : Int) + 1 := by omega
 have hb4 : ¬ (c = i) := by omega
 have hb5 : (i : Int) + 1 ≤ (n : Int) + 1 := by omega
 have hb6 : i + 1 ≤ n + 1 := by omega
 have hcp1 : ∀ ty dc sc, (Builtin.copy_ #[23, 23] ty #[.slice (some ⟨b, (i + 1), none⟩) (n - i) dc, .slice (some ⟨b, i, none⟩) (n + 1 - i) sc]).run Tryz.prog w.drew = .ok (goInt (Nat.min (n + 1 - i) (n - i))) (w.drew.setCells b ((i + 1)) (cs.drop i)) := fun ty dc sc =>
  run_copy_wide w.drew _ _ ty 3 1 b ((i + 1)) (n - i) dc ⟨b, i, none⟩ (n + 1 - i) sc (cs.drop i) Tryz.underlying23 hsz (by rw [hdl]; congr 1; simp only [Nat.min_def]; split <;> omega)
   (fun j v hj => by rw [Addr.add_lit]; exact hcs (i + j) v (by rwa [List.getElem?_drop] at hj))
   (fun j hj => hsp _ (by omega)) (fun j hj => hfz _ (by omega)) (fun v hv => h1c v (List.mem_of_mem_drop hv))
 obtain ⟨W1, hW1⟩ : ∃ W1, W1 = w.drew.setCells b ((i + 1)) (cs.drop i) := ⟨_, rfl⟩
 have hsp1 : ∀ k, k < (n + 1) → (W1.cell? ⟨b, k, none⟩).isSome = true := fun k hk => by
  rw [hW1]
  exact isSome_setCells b (cs.drop i) ((i + 1)) w.drew (fun j hj => hsp _ (by rw [hdl] at hj; omega)) k (hsp k hk)
 have hcp2 : ∀ (W : World), (∀ x, W.cell? x = W1.cell? x) → (∀ x, W.frozen? x = W1.frozen? x) → ∀ ty dc, (Builtin.copy_ #[23, 23] ty #[.slice (some ⟨b, i, none⟩) (n + 1 - i) dc, .slice (some ⟨vb, voff, none⟩) 1 vc]).run Tryz.prog W = .ok (goInt (Nat.min 1 (n + 1 - i))) (W.setCells b i vs) := fun W hWc hWf ty dc =>
  run_copy_wide W _ _ ty 3 1 b i (n + 1 - i) dc ⟨vb, voff, none⟩ 1 vc vs Tryz.underlying23 hsz (by rw [hvl]; simp only [Nat.min_def]; split <;> omega)
   (fun j v hj => by
    rw [Addr.add_lit, hWc, hW1, World.cell?_setCells_out b _ _ _ _ (fun h _ => absurd h hvb)]
    exact hvs j v hj)
   (fun j hj => by rw [hWc]; exact hsp1 _ (by omega)) (fun j hj => by rw [hWf, hW1, World.frozen?_setCells]; exact hfz _ (by omega)) h1v
 rw [← hW1] at hcp1
 go_enter Tryz.func90, Tryz.ntmps90
 go_wp2_with (simp only [hov])
 go_region_law_o (refine step_copy_runI rfl _ _ 23 23 rfl _ _ (by simp [Act.eval, Act.put]) (by simp [Act.eval, Act.put]) (hcp1 _ _ _) ?_)
 go_wp2_with (at_builtin; refine wpList_copy_runI _ rfl _ _ 23 23 rfl _ _ rfl rfl (hcp2 _ (fun _ => rfl) (fun _ => rfl) _ _) ?_)
 go_ret
 first | exact ⟨rfl, rfl⟩ | exact ⟨rfl, by rw [hW1]⟩
abbrev iZ : Value := .int .i64 0
def growRowI (cs : List Value) (n i G : Nat) : Array Value := (cs.take i).toArray ++ Builtin.zeroCells iZ.cells (n + 1 - i) ++ Builtin.zeroCells iZ.cells (G - (n + 1))
set_option maxHeartbeats 4000000 in
set_option maxRecDepth 100000 in
theorem insI_grow (b n c i vb voff vc : Nat) (cs vs : List Value) (w : World) (hi : i < n) (hnc : n ≤ c) (hroom : c < n + 1) (hbig : (n + 1) * 8 ≤ 140737488355328)
  (hcl : cs.length = n) (hvl : vs.length = 1)
  (hcs : ∀ j v, cs[j]? = some v → w.cell? ⟨b, j, none⟩ = some v)
  (hvs : ∀ j v, vs[j]? = some v → w.cell? ⟨vb, voff + j, none⟩ = some v) (h1c : ∀ v ∈ cs, v.oneCell' = true) (h1v : ∀ v ∈ vs, v.oneCell' = true) :
  Calls Tryz.prog 90 #[.slice (some ⟨b, 0, none⟩) n c, .int .i64 i, .slice (some ⟨vb, voff, none⟩) 1 vc] w fun e w' =>
   e = .returned (.slice (some ⟨w.heap.size, 0, none⟩) (n + 1) (grownCap w (n + 1) c 3)) ∧
   w' = (((w.alloc (.cells (growRowI cs n i (grownCap w (n + 1) c 3)) 3)).drew.setCells w.heap.size i vs).drew).setCells w.heap.size ((i + 1)) (cs.drop i) := by
 have mixed : Tryz.prog.follows Departure.mixedOrders = true := by first | rfl | kernel_rfl
 obtain ⟨i0, hi0, hz0, hzs, hzb⟩ := info_parts iInfo
 have hz2 : ¬ ((i : Int) = (n : Int)) := by omega
 have hz3 : (c : Int) < (n : Int) + 1 := by omega
 have hsz : (Tryz.prog.info? 3).map (·.size) = some 1 := by rw [hi0]; simp [hzs]
 have hbw : b < w.heap.size := block_lt_of_cell (hcs 0 _ (List.getElem?_eq_getElem (by omega)))
 have hvw : vb < w.heap.size := block_lt_of_cell (hvs 0 _ (List.getElem?_eq_getElem (by omega)))
 have hkk : (n : Int) + 1 - (i : Int) = ((n + 1 - i : Nat) : Int) := by omega
 have hik : i + (n + 1 - i) = n + 1 := by omega
 have hold : (Builtin.firstCells i0.size i (.slice (some ⟨b, 0, none⟩) i c)).run Tryz.prog w.drew = .ok (cs.take i).toArray w.drew := by
  rw [hzs]
  exact run_firstCells_some w.drew 1 i ⟨b, 0, none⟩ i c (cs.take i) (by rw [List.length_take]; omega) (fun j v hj => by
   rw [Addr.add_lit, Nat.zero_add]
   rw [List.getElem?_take] at hj
   split at hj
   ·exact hcs j v hj
   ·cases hj)
 have hrz : ∀ ty, (Builtin.append_ #[23, 3] ty #[.slice (some ⟨b, 0, none⟩) i c, .int .i64 ((n : Int) + 1 - (i : Int))]).run Tryz.prog w =
   .ok (.slice (some ⟨w.heap.size, 0, none⟩) (n + 1) (grownCap w (n + 1) c 3)) (w.drew.alloc (.cells (growRowI cs n i (grownCap w (n + 1) c 3)) 3)) := fun ty => by
  have h := Lib.run_append_grow_zeros w 23 3 ty 3 i0 _ .i64 .i64 Tryz.underlying23 Tryz.underlying3 hi0 hz0 (some ⟨b, 0, none⟩) i c (cs.take i) hold (n + 1 - i) (by omega) (by omega) (by omega) (by omega) (by rw [hzb]; omega) (by rw [hzb, hik]; exact growslice_fits hroom hbig)
  rw [hik] at h
  rw [hkk]
  exact h
 obtain ⟨G, hG⟩ : ∃ G, G = grownCap w (n + 1) c 3 := ⟨_, rfl⟩
 obtain ⟨ROW, hROW⟩ : ∃ ROW : Array Value, ROW = growRowI cs n i G := ⟨_, rfl⟩
 rw [← hG] at hrz ⊢
 rw [← hROW] at hrz ⊢
 have hRl : (n + 1) ≤ ROW.size := by
  rw [hROW]
  simp [growRowI, Builtin.zeroCells, Value.cells]
  omega
 obtain ⟨W1, hW1⟩ : ∃ W1, W1 = w.drew.alloc (.cells ROW 3) := ⟨_, rfl⟩
 rw [← hW1] at hrz
 have hN : ∀ j, j < (n + 1) → (W1.cell? ⟨w.heap.size, j, none⟩).isSome = true := fun j hj => by
  rw [hW1, World.cell?_alloc_at (w := w.drew) ROW _ w.heap.size j rfl, Array.getElem?_eq_getElem (by omega)]; rfl
 have hNf : ∀ j, W1.frozen? ⟨w.heap.size, j, none⟩ = false := fun j => by rw [hW1]; exact World.frozen?_alloc_at (w := w.drew) ROW _ w.heap.size j rfl
 have hOb : ∀ j v, w.cell? ⟨b, j, none⟩ = some v → W1.cell? ⟨b, j, none⟩ = some v := fun j v h => by rw [hW1, World.cell?_alloc_past (w := w.drew) _ b j hbw]; exact h
 have hOv : ∀ j v, w.cell? ⟨vb, j, none⟩ = some v → W1.cell? ⟨vb, j, none⟩ = some v := fun j v h => by rw [hW1, World.cell?_alloc_past (w := w.drew) _ vb j hvw]; exact h
 have hcpA : ∀ (W : World), (∀ x, W.cell? x = W1.cell? x) → (∀ x, W.frozen? x = W1.frozen? x) → ∀ ty dc, (Builtin.copy_ #[23, 23] ty #[.slice (some ⟨w.heap.size, i, none⟩) (n + 1 - i) dc, .slice (some ⟨vb, voff, none⟩) 1 vc]).run Tryz.prog W = .ok (goInt (Nat.min 1 (n + 1 - i))) (W.setCells w.heap.size i vs) := fun W hWc hWf ty dc =>
  run_copy_wide W _ _ ty 3 1 w.heap.size i (n + 1 - i) dc ⟨vb, voff, none⟩ 1 vc vs Tryz.underlying23 hsz (by rw [hvl]; simp only [Nat.min_def]; split <;> omega)
   (fun j v hj => by rw [Addr.add_lit, hWc]; exact hOv _ v (hvs j v hj))
   (fun j hj => by rw [hWc]; exact hN _ (by omega)) (fun j hj => by rw [hWf]; exact hNf _) h1v
 have hGn : n + 1 ≤ G := by rw [hG]; exact grownCap_ge w _ _ _
 have hG63 : G ≤ 9223372036854775807 := by
  have := grownCap_le_maxLen w (n + 1) c 3 (by unfold maxLen; omega)
  rw [← hG] at this
  unfold maxLen at this
  omega
 have hGi : ¬ (G = i) := by omega
 have hGim : ¬ (G = i + 1) := by omega
 have hci : ¬ (c = i) := by omega
 have hbN : b ≠ w.heap.size := by omega
 have hdl : (cs.drop i).length = (n - i) := by rw [List.length_drop, hcl]
 have hcpB : ∀ (W : World), (∀ x, W.cell? x = (W1.setCells w.heap.size i vs).cell? x) → (∀ x, W.frozen? x = (W1.setCells w.heap.size i vs).frozen? x) → ∀ ty dc sc, (Builtin.copy_ #[23, 23] ty #[.slice (some ⟨w.heap.size, (i + 1), none⟩) (n - i) dc, .slice (some ⟨b, i, none⟩) (n - i) sc]).run Tryz.prog W = .ok (goInt (Nat.min (n - i) (n - i))) (W.setCells w.heap.size ((i + 1)) (cs.drop i)) := fun W hWc hWf ty dc sc =>
  run_copy_wide W _ _ ty 3 1 w.heap.size ((i + 1)) (n - i) dc ⟨b, i, none⟩ (n - i) sc (cs.drop i) Tryz.underlying23 hsz (by rw [hdl]; simp)
   (fun j v hj => by
    rw [Addr.add_lit, hWc, World.cell?_setCells_out _ _ _ _ _ (fun h _ => absurd h hbN)]
    exact hOb _ v (hcs (i + j) v (by rwa [List.getElem?_drop] at hj)))
   (fun j hj => by rw [hWc]; exact isSome_setCells _ _ _ _ (fun t ht => hN _ (by omega)) _ (hN _ (by rw [hdl] at hj; omega)))
   (fun j hj => by rw [hWf, World.frozen?_setCells]; exact hNf _) (fun v hv => h1c v (List.mem_of_mem_drop hv))
 subst hW1
 have hE1 : ∀ x, ((w.alloc (.cells ROW 3)).drew).cell? x = (w.drew.alloc (.cells ROW 3)).cell? x := fun x => rfl
 have hE2 : ∀ x, ((w.alloc (.cells ROW 3)).drew).frozen? x = (w.drew.alloc (.cells ROW 3)).frozen? x := fun x => rfl
 have hF1 : ∀ x, (((w.alloc (.cells ROW 3)).drew.setCells w.heap.size i vs).drew).cell? x = ((w.drew.alloc (.cells ROW 3)).setCells w.heap.size i vs).cell? x := fun x => rfl
 have hF2 : ∀ x, (((w.alloc (.cells ROW 3)).drew.setCells w.heap.size i vs).drew).frozen? x = ((w.drew.alloc (.cells ROW 3)).setCells w.heap.size i vs).frozen? x := fun x => rfl
 have hw1 : IntKind.i64.wrap ((i : Int) + 1) = (i : Int) + 1 := by rw [IntKind.wrap_i64]; omega
 have hb1 : (0 : Int) ≤ (i : Int) + 1 := by omega
 have hin : i ≤ n := by omega
 have htn : ((i : Int) + 1).toNat = i + 1 := by omega
 have hb3 : (i : Int) ≤ (n : Int) := by omega
 have hb5 : (i : Int) + 1 ≤ (n : Int) + 1 := by omega
 have hb6 : i + 1 ≤ n + 1 := by omega
 clear hkk hik hold hROW hG hRl
 go_enter Tryz.func90, Tryz.ntmps90
 go_wp2_with (first
  | (at_builtin; refine Lib.wpList_append_run _ rfl _ _ _ _ rfl _ _ rfl rfl _ _ (hrz _) ?_)
  | (at_builtin; refine wpList_copy_runI _ rfl _ _ 23 23 rfl _ _ rfl rfl (hcpA _ hE1 hE2 _ _) ?_)
  | (at_builtin; refine wpList_copy_runI _ rfl _ _ 23 23 rfl _ _ rfl rfl (hcpB _ (fun _ => rfl) (fun _ => rfl) _ _ _) ?_))
 go_region_law_o (refine step_copy_runI rfl _ _ 23 23 rfl (.slice (some ⟨w.heap.size, (i + 1), none⟩) (n - i) (G - (i + 1))) (.slice (some ⟨b, i, none⟩) (n - i) (c - i)) (by simp [Act.eval, Act.put]) (by simp [Act.eval, Act.put]) (hcpB _ hF1 hF2 23 (G - (i + 1)) (c - i)) ?_)
 go_wp2
 go_ret
 exact ⟨rfl, rfl⟩
end
section
open Go.RowKit Go.Shelf
theorem heap_setCells {b : Nat} {t : TypeId} : ∀ (vs : List Value) (o : Nat) (w : World) (cur : List Value), w.heap[b]? = some (.cells cur.toArray t (0, 0)) → o + vs.length ≤ cur.length →
    (w.setCells b o vs).heap[b]? = some (.cells (cur.take o ++ vs ++ cur.drop (o + vs.length)).toArray t (0, 0))
  | [], o, w, cur, h, _ => by simpa [World.setCells, List.take_append_drop] using h
  | v :: r, o, w, cur, h, hl => by
    simp only [List.length_cons] at hl
    have h1 : (w.setCell ⟨b, o, none⟩ v).heap[b]? = some (.cells (cur.set o v).toArray t (0, 0)) := by
      simp [World.setCell, Array.getElem?_modify, h]
    have ih := heap_setCells r (o + 1) (w.setCell ⟨b, o, none⟩ v) (cur.set o v) h1 (by rw [List.length_set]; omega)
    rw [World.setCells, ih]
    have e1 : (cur.set o v).take (o + 1) = cur.take o ++ [v] := by
      rw [List.take_set, List.take_succ_eq_append_getElem (by omega), List.set_append_right _ _ (by rw [List.length_take]; omega)]
      simp [List.length_take, Nat.min_eq_left (show o ≤ cur.length by omega)]
    have e2 : (cur.set o v).drop (o + 1 + r.length) = cur.drop (o + (r.length + 1)) := by
      rw [List.drop_set, if_pos (by omega)]; congr 1; omega
    rw [e1, e2]
    simp
theorem row_shift {α : Type} (cur cs vs : List α) (N a k : Nat) (hc : cur.take N = cs) (hN : N + k ≤ cur.length) (ha : a ≤ N) (hv : vs.length = k) :
  ((cur.take (a + k) ++ cs.drop a ++ cur.drop (a + k + (cs.drop a).length)).take a ++ vs ++ (cur.take (a + k) ++ cs.drop a ++ cur.drop (a + k + (cs.drop a).length)).drop (a + vs.length)).take (N + k) = cs.take a ++ vs ++ cs.drop a := by
 have hl : cs.length = N := by rw [← hc, List.length_take]; omega
 have e1 : (cur.take (a + k) ++ cs.drop a ++ cur.drop (a + k + (cs.drop a).length)).take a = cs.take a := by
  rw [List.append_assoc, List.take_append_of_le_length (by rw [List.length_take]; omega), List.take_take, ← hc, List.take_take]
  congr 1; omega
 have e2 : (cur.take (a + k) ++ cs.drop a ++ cur.drop (a + k + (cs.drop a).length)).drop (a + vs.length) = cs.drop a ++ cur.drop (a + k + (cs.drop a).length) := by
  rw [List.append_assoc, List.drop_left' (by rw [List.length_take, hv]; omega)]
 rw [e1, e2, ← List.append_assoc]
 exact List.take_left' (by simp only [List.length_append, List.length_take, List.length_drop]; omega)
theorem row_grow {α : Type} (R cs vs : List α) (N a k : Nat) (hR : R.take a = cs.take a) (hcl : cs.length = N) (hN : N + k ≤ R.length) (ha : a ≤ N) (hv : vs.length = k) :
  ((R.take a ++ vs ++ R.drop (a + vs.length)).take (a + k) ++ cs.drop a ++ (R.take a ++ vs ++ R.drop (a + vs.length)).drop (a + k + (cs.drop a).length)).take (N + k) = cs.take a ++ vs ++ cs.drop a := by
 have e1 : (R.take a ++ vs ++ R.drop (a + vs.length)).take (a + k) = cs.take a ++ vs := by
  rw [List.take_left' (by simp only [List.length_append, List.length_take, hv]; omega), hR]
 rw [e1]
 exact List.take_left' (by simp only [List.length_append, List.length_take, List.length_drop]; omega)
theorem Kept.setCells {M : Nat → Prop} {A : World} {b : Nat} (hb : M b ∨ A.heap.size ≤ b) : ∀ (vs : List Value) (o : Nat) (B : World), Kept M A B → Kept M A (B.setCells b o vs)
 | [], _, _, h => h
 | v :: r, o, _, h => Kept.setCells hb r (o + 1) _ (h.setCell (p := ⟨b, o, none⟩) hb v)
theorem insF_any (base n i : Nat) (v : Value) (l : List Fc) (f : Fc) (xb : Nat) (w : World) (hown : w.ownsRow base 54 8 v n (l.flatMap fEnc)) (hx : w.heap[xb]? = some (.cells (fEnc f).toArray 54 (0, 0))) (hvx : v.ownBlock ≠ some xb) (hb : base ≤ w.heap.size) (hi : i ≤ n) (hn : n ≤ 1000000) :
  Calls Tryz.prog 89 #[v, .int .i64 i, .slice (some ⟨xb, 0, none⟩) 1 1] w (InsPost base n v (l.take i ++ [f] ++ l.drop i) w) := by
 have hlen := own_len fEnc_len (by decide) hown
 rcases Nat.lt_or_ge i n with hlt | hge
 rotate_left
 ·obtain rfl : i = n := by omega
  have h := insF_end base i v l f ⟨xb, 0, none⟩ 1 w hown (rows_of_heap (l := [f]) fEnc_len hx (Nat.le_refl _) (by decide) (by have := fEnc_len f; simp; exact List.take_of_length_le (by omega))) hb hn
  rw [List.take_of_length_le (by omega), List.drop_eq_nil_of_le (by omega), List.append_nil]
  exact h
 rcases hown.2 with ⟨hv, hn0⟩ | ⟨G, cap, cur, hv, hG, hheap, hnc, hcm, hsz, htk⟩
 ·omega
 subst hv
 have hcl : (l.flatMap fEnc).length = n * 8 := hown.1
 have hvl : (fEnc f).length = 8 := fEnc_len f
 have hne : xb ≠ G := fun e => hvx (by rw [e]; rfl)
 have hcs : ∀ j v, (l.flatMap fEnc)[j]? = some v → w.cell? ⟨G, j, none⟩ = some v := fun j v hj => by
  rw [cell_of_heap hheap, ← Array.getElem?_toList]
  rw [← htk, List.getElem?_take] at hj
  split at hj
  ·exact hj
  ·cases hj
 have hvs : ∀ j v, (fEnc f)[j]? = some v → w.cell? ⟨xb, 0 + j, none⟩ = some v := fun j v hj => by
  rw [cell_of_heap hx, Nat.zero_add]; simpa using hj
 have h1c : ∀ v ∈ l.flatMap fEnc, v.oneCell' = true := fun v hv => by
  obtain ⟨x, _, hx⟩ := List.mem_flatMap.1 hv
  exact fEnc_one x v hx
 have hfl : (l.take i ++ [f] ++ l.drop i).flatMap fEnc = (l.flatMap fEnc).take (i * 8) ++ fEnc f ++ (l.flatMap fEnc).drop (i * 8) := by
  have e : l.flatMap fEnc = (l.take i).flatMap fEnc ++ (l.drop i).flatMap fEnc := by rw [← List.flatMap_append, List.take_append_drop]
  have el : ((l.take i).flatMap fEnc).length = i * 8 := by rw [flat_len fEnc_len, List.length_take, Nat.min_eq_left (by omega)]
  rw [List.flatMap_append, List.flatMap_append, e, List.take_left' el, List.drop_left' el]
  simp
 rcases Nat.lt_or_ge cap (n + 1) with hroom | hroom
 ·refine (insF_grow G n cap i xb 0 1 (l.flatMap fEnc) (fEnc f) w hlt hnc hroom (by omega) hcl hvl hcs hvs h1c (fEnc_one f)).mono ?_
  rintro e w1 ⟨rfl, rfl⟩
  obtain ⟨C, hC⟩ : ∃ C, grownCap w (n + 1) cap 54 = C := ⟨_, rfl⟩
  have hCn : n + 1 ≤ C := by rw [← hC]; exact grownCap_ge w _ _ _
  have hCm : C ≤ maxLen := by rw [← hC]; exact grownCap_le_maxLen w (n + 1) cap 54 (by unfold maxLen; omega)
  rw [hC]
  obtain ⟨R, hR⟩ : ∃ R, (growRow (l.flatMap fEnc) n i C).toList = R := ⟨_, rfl⟩
  have hRl : R.length = C * 8 := by
   rw [← hR, Array.length_toList]
   simp only [growRow, Array.size_append, List.size_toArray, size_zeroCells, List.length_take, hcl]
   have : fZ.cells.size = 8 := rfl
   rw [this]; omega
  have hRt : R.take (i * 8) = (l.flatMap fEnc).take (i * 8) := by
   rw [← hR]
   simp only [growRow, Array.toList_append, List.append_assoc]
   exact List.take_left' (by rw [List.length_take, hcl]; omega)
  have hdl : ((l.flatMap fEnc).drop (i * 8)).length = n * 8 - i * 8 := by rw [List.length_drop, hcl]
  have h0 : (w.alloc (.cells (growRow (l.flatMap fEnc) n i C) 54)).drew.heap[w.heap.size]? = some (.cells R.toArray 54 (0, 0)) := by
   rw [← hR, Array.toArray_toList]
   exact World.alloc_heap_new w _
  have h1 := heap_setCells (fEnc f) (i * 8) _ _ h0 (by rw [hRl, hvl]; omega)
  have hk0 : Kept (fun b => (Value.slice (some ⟨G, 0, none⟩) n cap).ownBlock = some b) w (w.alloc (.cells (growRow (l.flatMap fEnc) n i C) 54)).drew := ((Kept.refl _ w).alloc _).drew
  have hk1 := (Kept.setCells (M := fun b => (Value.slice (some ⟨G, 0, none⟩) n cap).ownBlock = some b) (b := w.heap.size) (.inr (Nat.le_refl _)) (fEnc f) (i * 8) _ hk0).drew
  obtain ⟨W2, hW2⟩ : ∃ W2, (w.alloc (.cells (growRow (l.flatMap fEnc) n i C) 54)).drew.setCells w.heap.size (i * 8) (fEnc f) = W2 := ⟨_, rfl⟩
  rw [hW2] at h1 hk1 ⊢
  obtain ⟨r1, hr1⟩ : ∃ r1, R.take (i * 8) ++ fEnc f ++ R.drop (i * 8 + (fEnc f).length) = r1 := ⟨_, rfl⟩
  have hr1l : r1.length = C * 8 := by rw [← hr1]; simp only [List.length_append, List.length_take, List.length_drop, hRl, hvl]; omega
  rw [hr1] at h1
  have h1d : W2.drew.heap[w.heap.size]? = some (.cells r1.toArray 54 (0, 0)) := h1
  have h2 := heap_setCells ((l.flatMap fEnc).drop (i * 8)) (i * 8 + 8) W2.drew r1 h1d (by rw [hdl, hr1l]; omega)
  have hrow := row_grow R (l.flatMap fEnc) (fEnc f) (n * 8) (i * 8) 8 hRt hcl (by rw [hRl]; omega) (by omega) hvl
  rw [hr1] at hrow
  rw [show (i + 1) * 8 = i * 8 + 8 by omega]
  refine ⟨_, rfl, ⟨?_, .inr ⟨w.heap.size, C, _, rfl, hb, h2, hCn, hCm, ?_, ?_⟩⟩, .inr ⟨_, rfl, Nat.le_refl _⟩, Kept.setCells (M := fun b => (Value.slice (some ⟨G, 0, none⟩) n cap).ownBlock = some b) (.inr (Nat.le_refl _)) _ _ _ hk1⟩
  ·rw [flat_len fEnc_len]; simp only [List.length_append, List.length_take, List.length_drop, List.length_cons, List.length_nil]; omega
  ·simp only [List.size_toArray, List.length_append, List.length_take, List.length_drop, hr1l, hcl]; omega
  ·rw [hfl, show (n + 1) * 8 = n * 8 + 8 by omega]; exact hrow
 ·refine (insF_shift G n cap i xb 0 1 (l.flatMap fEnc) (fEnc f) w hlt hroom (by unfold maxLen at hcm; omega) hne hcl hvl hcs ?_ ?_ hvs h1c (fEnc_one f) 54 54 8 (cap * 8) ?_ ?_ (by omega) (frozen_of_heap hx) (frozen_of_heap hx)).mono ?_
  ·intro j hj
   rw [cell_of_heap hheap, Array.getElem?_eq_getElem (by omega)]; rfl
  ·intro j _; exact frozen_of_heap hheap
  ·simp [World.shape?, hx, hvl]
  ·simp [World.shape?, hheap, hsz]
  rintro e w1 ⟨rfl, rfl⟩
  have hcur : cur.toList.length = cap * 8 := by rw [Array.length_toList, hsz]
  have hdl : ((l.flatMap fEnc).drop (i * 8)).length = n * 8 - i * 8 := by rw [List.length_drop, hcl]
  have h1 := heap_setCells ((l.flatMap fEnc).drop (i * 8)) (i * 8 + 8) w.drew cur.toList (b := G) (t := 54) (show w.heap[G]? = _ by simpa using hheap) (by rw [hdl, hcur]; omega)
  have h2 := heap_setCells (fEnc f) (i * 8) _ _ h1 (by simp only [List.length_append, List.length_take, List.length_drop, hcur, hcl, hvl]; omega)
  have hrow := row_shift cur.toList (l.flatMap fEnc) (fEnc f) (n * 8) (i * 8) 8 htk (by rw [hcur]; omega) (by omega) hvl
  rw [show (i + 1) * 8 = i * 8 + 8 by omega]
  have hkk : Kept (fun b => (Value.slice (some ⟨G, 0, none⟩) n cap).ownBlock = some b) w w.drew := (Kept.refl _ w).drew
  refine ⟨_, rfl, ⟨?_, .inr ⟨G, cap, _, rfl, hG, h2, hroom, hcm, ?_, ?_⟩⟩, .inl rfl, Kept.setCells (M := fun b => (Value.slice (some ⟨G, 0, none⟩) n cap).ownBlock = some b) (.inl rfl) _ _ _ (Kept.setCells (M := fun b => (Value.slice (some ⟨G, 0, none⟩) n cap).ownBlock = some b) (.inl rfl) _ _ _ hkk)⟩
  ·rw [flat_len fEnc_len]; simp only [List.length_append, List.length_take, List.length_drop, List.length_cons, List.length_nil]; omega
  ·simp only [List.size_toArray, List.length_append, List.length_take, List.length_drop, hcur, hcl, hvl]; omega
  ·rw [hfl, show (n + 1) * 8 = n * 8 + 8 by omega]; exact hrow
end
section
open Go.RowKit Go.Shelf
theorem insI_any (base n i : Nat) (v : Value) (l : List Int) (f : Int) (xb : Nat) (w : World) (hown : w.ownsRow base 3 1 v n (l.flatMap iEnc)) (hx : w.heap[xb]? = some (.cells (iEnc f).toArray 3 (0, 0))) (hvx : v.ownBlock ≠ some xb) (hb : base ≤ w.heap.size) (hi : i ≤ n) (hn : n ≤ 1000000) :
  Calls Tryz.prog 90 #[v, .int .i64 i, .slice (some ⟨xb, 0, none⟩) 1 1] w (InsPostI base n v (l.take i ++ [f] ++ l.drop i) w) := by
 have hlen := own_len iEnc_len (by decide) hown
 rcases Nat.lt_or_ge i n with hlt | hge
 rotate_left
 ·obtain rfl : i = n := by omega
  have h := insI_end base i v l f ⟨xb, 0, none⟩ 1 w hown (rows_of_heap (l := [f]) iEnc_len hx (Nat.le_refl _) (by decide) (by have := iEnc_len f; simp; exact List.take_of_length_le (by omega))) hb hn
  rw [List.take_of_length_le (by omega), List.drop_eq_nil_of_le (by omega), List.append_nil]
  exact h
 rcases hown.2 with ⟨hv, hn0⟩ | ⟨G, cap, cur, hv, hG, hheap, hnc, hcm, hsz, htk⟩
 ·omega
 subst hv
 rw [Nat.mul_one] at hsz htk
 have hcl : (l.flatMap iEnc).length = n := by rw [← Nat.mul_one n]; exact hown.1
 have hvl : (iEnc f).length = 1 := iEnc_len f
 have hne : xb ≠ G := fun e => hvx (by rw [e]; rfl)
 have hcs : ∀ j v, (l.flatMap iEnc)[j]? = some v → w.cell? ⟨G, j, none⟩ = some v := fun j v hj => by
  rw [cell_of_heap hheap, ← Array.getElem?_toList]
  rw [← htk, List.getElem?_take] at hj
  split at hj
  ·exact hj
  ·cases hj
 have hvs : ∀ j v, (iEnc f)[j]? = some v → w.cell? ⟨xb, 0 + j, none⟩ = some v := fun j v hj => by
  rw [cell_of_heap hx, Nat.zero_add]; simpa using hj
 have h1c : ∀ v ∈ l.flatMap iEnc, v.oneCell' = true := fun v hv => by
  obtain ⟨x, _, hx⟩ := List.mem_flatMap.1 hv
  exact iEnc_one x v hx
 have hfl : (l.take i ++ [f] ++ l.drop i).flatMap iEnc = (l.flatMap iEnc).take (i) ++ iEnc f ++ (l.flatMap iEnc).drop (i) := by
  have e : l.flatMap iEnc = (l.take i).flatMap iEnc ++ (l.drop i).flatMap iEnc := by rw [← List.flatMap_append, List.take_append_drop]
  have el : ((l.take i).flatMap iEnc).length = i := by rw [flat_len iEnc_len, List.length_take]; omega
  rw [List.flatMap_append, List.flatMap_append, e, List.take_left' el, List.drop_left' el]
  simp
 rcases Nat.lt_or_ge cap (n + 1) with hroom | hroom
 ·refine (insI_grow G n cap i xb 0 1 (l.flatMap iEnc) (iEnc f) w hlt hnc hroom (by omega) hcl hvl hcs hvs h1c (iEnc_one f)).mono ?_
  rintro e w1 ⟨rfl, rfl⟩
  obtain ⟨C, hC⟩ : ∃ C, grownCap w (n + 1) cap 3 = C := ⟨_, rfl⟩
  have hCn : n + 1 ≤ C := by rw [← hC]; exact grownCap_ge w _ _ _
  have hCm : C ≤ maxLen := by rw [← hC]; exact grownCap_le_maxLen w (n + 1) cap 3 (by unfold maxLen; omega)
  rw [hC]
  obtain ⟨R, hR⟩ : ∃ R, (growRowI (l.flatMap iEnc) n i C).toList = R := ⟨_, rfl⟩
  have hRl : R.length = C := by
   rw [← hR, Array.length_toList]
   simp only [growRowI, Array.size_append, List.size_toArray, size_zeroCells, List.length_take, hcl]
   have : iZ.cells.size = 1 := rfl
   rw [this]; omega
  have hRt : R.take (i) = (l.flatMap iEnc).take (i) := by
   rw [← hR]
   simp only [growRowI, Array.toList_append, List.append_assoc]
   exact List.take_left' (by rw [List.length_take, hcl]; omega)
  have hdl : ((l.flatMap iEnc).drop (i)).length = n - i := by rw [List.length_drop, hcl]
  have h0 : (w.alloc (.cells (growRowI (l.flatMap iEnc) n i C) 3)).drew.heap[w.heap.size]? = some (.cells R.toArray 3 (0, 0)) := by
   rw [← hR, Array.toArray_toList]
   exact World.alloc_heap_new w _
  have h1 := heap_setCells (iEnc f) (i) _ _ h0 (by rw [hRl, hvl]; omega)
  have hk0 : Kept (fun b => (Value.slice (some ⟨G, 0, none⟩) n cap).ownBlock = some b) w (w.alloc (.cells (growRowI (l.flatMap iEnc) n i C) 3)).drew := ((Kept.refl _ w).alloc _).drew
  have hk1 := (Kept.setCells (M := fun b => (Value.slice (some ⟨G, 0, none⟩) n cap).ownBlock = some b) (b := w.heap.size) (.inr (Nat.le_refl _)) (iEnc f) (i) _ hk0).drew
  obtain ⟨W2, hW2⟩ : ∃ W2, (w.alloc (.cells (growRowI (l.flatMap iEnc) n i C) 3)).drew.setCells w.heap.size (i) (iEnc f) = W2 := ⟨_, rfl⟩
  rw [hW2] at h1 hk1 ⊢
  obtain ⟨r1, hr1⟩ : ∃ r1, R.take (i) ++ iEnc f ++ R.drop (i + (iEnc f).length) = r1 := ⟨_, rfl⟩
  have hr1l : r1.length = C := by rw [← hr1]; simp only [List.length_append, List.length_take, List.length_drop, hRl, hvl]; omega
  rw [hr1] at h1
  have h1d : W2.drew.heap[w.heap.size]? = some (.cells r1.toArray 3 (0, 0)) := h1
  have h2 := heap_setCells ((l.flatMap iEnc).drop (i)) (i + 1) W2.drew r1 h1d (by rw [hdl, hr1l]; omega)
  have hrow := row_grow R (l.flatMap iEnc) (iEnc f) (n) (i) 1 hRt hcl (by rw [hRl]; omega) (by omega) hvl
  rw [hr1] at hrow
  skip
  refine ⟨_, rfl, ⟨?_, .inr ⟨w.heap.size, C, _, rfl, hb, h2, hCn, hCm, ?_, ?_⟩⟩, .inr ⟨_, rfl, Nat.le_refl _⟩, Kept.setCells (M := fun b => (Value.slice (some ⟨G, 0, none⟩) n cap).ownBlock = some b) (.inr (Nat.le_refl _)) _ _ _ hk1⟩
  ·rw [flat_len iEnc_len]; simp only [List.length_append, List.length_take, List.length_drop, List.length_cons, List.length_nil]; omega
  ·simp only [List.size_toArray, List.length_append, List.length_take, List.length_drop, hr1l, hcl]; omega
  ·rw [hfl, Nat.mul_one]; exact hrow
 ·refine (insI_shift G n cap i xb 0 1 (l.flatMap iEnc) (iEnc f) w hlt hroom (by unfold maxLen at hcm; omega) hne hcl hvl hcs ?_ ?_ hvs h1c (iEnc_one f) 3 3 1 (cap) ?_ ?_ (by omega) (frozen_of_heap hx) (frozen_of_heap hx)).mono ?_
  ·intro j hj
   rw [cell_of_heap hheap, Array.getElem?_eq_getElem (by omega)]; rfl
  ·intro j _; exact frozen_of_heap hheap
  ·simp [World.shape?, hx, hvl]
  ·simp [World.shape?, hheap, hsz]
  rintro e w1 ⟨rfl, rfl⟩
  have hcur : cur.toList.length = cap := by rw [Array.length_toList, hsz]
  have hdl : ((l.flatMap iEnc).drop (i)).length = n - i := by rw [List.length_drop, hcl]
  have h1 := heap_setCells ((l.flatMap iEnc).drop (i)) (i + 1) w.drew cur.toList (b := G) (t := 3) (show w.heap[G]? = _ by simpa using hheap) (by rw [hdl, hcur]; omega)
  have h2 := heap_setCells (iEnc f) (i) _ _ h1 (by simp only [List.length_append, List.length_take, List.length_drop, hcur, hcl, hvl]; omega)
  have hrow := row_shift cur.toList (l.flatMap iEnc) (iEnc f) (n) (i) 1 htk (by rw [hcur]; omega) (by omega) hvl
  skip
  have hkk : Kept (fun b => (Value.slice (some ⟨G, 0, none⟩) n cap).ownBlock = some b) w w.drew := (Kept.refl _ w).drew
  refine ⟨_, rfl, ⟨?_, .inr ⟨G, cap, _, rfl, hG, h2, hroom, hcm, ?_, ?_⟩⟩, .inl rfl, Kept.setCells (M := fun b => (Value.slice (some ⟨G, 0, none⟩) n cap).ownBlock = some b) (.inl rfl) _ _ _ (Kept.setCells (M := fun b => (Value.slice (some ⟨G, 0, none⟩) n cap).ownBlock = some b) (.inl rfl) _ _ _ hkk)⟩
  ·rw [flat_len iEnc_len]; simp only [List.length_append, List.length_take, List.length_drop, List.length_cons, List.length_nil]; omega
  ·simp only [List.size_toArray, List.length_append, List.length_take, List.length_drop, hcur, hcl, hvl]; omega
  ·rw [hfl, Nat.mul_one]; exact hrow
end
section
open Go.RowKit Go.Shelf
def LowOk (l : List Fc) (f : Fc) (i : Nat) : Prop := ∀ k, i = k + 1 → ∃ x, l[k]? = some x ∧ cmpP x f < 0
def HighOk (l : List Fc) (f : Fc) (j : Nat) : Prop := ∀ x, l[j]? = some x → ¬ cmpP x f < 0
def SearchPost (n : Nat) (l : List Fc) (f : Fc) (w : World) (e : Ending) (w' : World) : Prop := ∃ (k : Nat) (b : Bool), e = .returned (.tuple #[.int .i64 k, .bool b]) ∧ k ≤ n ∧ LowOk l f k ∧ HighOk l f k ∧ Below w.heap.size w w'
set_option maxRecDepth 100000 in
set_option maxHeartbeats 4000000 in
theorem pgsearch_any (A : Option Addr) (n c : Nat) (l : List Fc) (f : Fc) (w : World) (hl : fSl w w.heap.size A n c l) (hn : n ≤ 1000000) :
  Calls Tryz.prog 88 #[.slice A n c, .agg #[.int .i64 f.key.kind, .int .i64 f.key.subj, .int .i64 f.key.obj, .int .i64 f.val, .int .i64 f.fr, .int .i64 f.to, .int .i64 f.known, .int .i64 f.no], .func (.func 43) #[] #[]] w (SearchPost n l f w) := by
 have hcap := hl.2.2.1
 have hlen := hl.2.1
 have HN : Hid (n = l.length) := hl.1
 have HSl : Hid (∀ W, Below w.heap.size w W → fSl W W.heap.size A n c l) := fun W h => hl.keep fStable h.size h.block
 obtain ⟨W0, hW0⟩ : ∃ W0, w.alloc (.cells #[.int .i64 f.key.kind, .int .i64 f.key.subj, .int .i64 f.key.obj, .int .i64 f.val, .int .i64 f.fr, .int .i64 f.to, .int .i64 f.known, .int .i64 f.no] 54) = W0 := ⟨_, rfl⟩
 have HB0 : Hid (Below w.heap.size w W0) := hW0 ▸ (Below.refl _ w).alloc (Nat.le_refl _) _
 have HGf : Hid (W0.heap[w.heap.size]? = some (.cells #[.int .i64 f.key.kind, .int .i64 f.key.subj, .int .i64 f.key.obj, .int .i64 f.val, .int .i64 f.fr, .int .i64 f.to, .int .i64 f.known, .int .i64 f.no] 54 (0, 0))) := hW0 ▸ World.alloc_heap_new _ _
 have HW0 := hidp hW0
 clear hW0 hl
 go_enter Tryz.func88, Tryz.ntmps88
 go_wp2_with fail
 try rw [HW0.out]
 go_loopw [9, 10, 11] (fun a b d wr => ∃ (i j : Nat) (v : Value), i ≤ j ∧ j ≤ n ∧ a = .int .i64 i ∧ b = .int .i64 j ∧ d = v ∧ LowOk l f i ∧ HighOk l f j ∧ Below w.heap.size w wr ∧ Below W0.heap.size W0 wr) (fun a b _ _ => (intOf b).toNat - (intOf a).toNat)
 case atStart => exact ⟨0, n, _, Nat.zero_le _, Nat.le_refl _, rfl, rfl, rfl, (fun k hk => by omega), (fun x hx => by rw [List.getElem?_eq_none (by have := HN.out; omega)] at hx; cases hx), HB0.out, Below.refl _ _⟩
 case round =>
 obtain ⟨i, j, v, hij, hjn, rfl, rfl, rfl, hlo, hhi, hbe, hb0⟩ := hrel
 have HLo := hidp hlo
 have HHi := hidp hhi
 have HBe := hidp hbe
 have HB00 := hidp hb0
 have gf := (hb0.block _ (lt_of_heap HGf.out)).trans HGf.out
 have HGf1 := hidp gf
 have y0 := cell_of_heap (o := 0) gf
 have y1 := cell_of_heap (o := 1) gf
 have y2 := cell_of_heap (o := 2) gf
 have y3 := cell_of_heap (o := 3) gf
 have y4 := cell_of_heap (o := 4) gf
 have y5 := cell_of_heap (o := 5) gf
 have y6 := cell_of_heap (o := 6) gf
 have y7 := cell_of_heap (o := 7) gf
 have ly := lt_of_heap gf
 simp only [List.getElem?_toArray, List.getElem?_cons_zero, List.getElem?_cons_succ] at y0 y1 y2 y3 y4 y5 y6 y7
 clear hlo hhi hbe hb0 gf
 by_cases hlt : i < j
 ·have hlt' : (i : Int) < j := by omega
  obtain ⟨h, hh⟩ : ∃ h : Nat, h = (i + j) / 2 := ⟨_, rfl⟩
  have hhn : h < n := by omega
  have hih : i ≤ h := by omega
  have hhj : h < j := by omega
  have HH := hidp hh
  obtain ⟨b, off, x, hA, _, hx, c0, c1, c2, c3, c4, c5, c6, c7⟩ := fSl.get (HSl.out wr HBe.out) hhn
  have hix := fun W => ix_FactsP (c := c) hA hhn W
  have lb := lt_of_cell c0
  have HX := hidp hx
  clear hx hA hh
  obtain ⟨z, hz⟩ : ∃ b, decide (cmpP x f < 0) = b := ⟨_, rfl⟩
  have HZ := hidp hz
  go_wp2_with fail
  rw [show ((i : Int) + j) / 2 = (h : Nat) by have := HH.out; omega]
  refine wp_region_S wr.heap.size 8 (fun _ => false) (Nat.le_refl _) (by kernel_rfl) (by kernel_rfl) (by kernel_rfl) ?_
  dsimp only [List.take, List.drop]
  apply relS_det (mask := [])
  ·rfl
  ·kernel_rfl
  ·kernel_rfl
  ·dsimp only [oblS]
   rintro w9 h9
   go_simp
   exact ⟨Below.refl _ _, rfl⟩
  dsimp only [naL, caL]
  apply relS_det (mask := [false])
  ·rfl
  ·kernel_rfl
  ·kernel_rfl
  ·dsimp only [oblS]
   rintro w9 h9
   go_simp
   exact ⟨Below.refl _ _, rfl⟩
  dsimp only [naL, caL]
  apply relS_det (mask := [false, false])
  ·rfl
  ·kernel_rfl
  ·kernel_rfl
  ·dsimp only [oblS]
   rintro w9 h9
   go_simp
   exact ⟨Below.refl _ _, rfl⟩
  dsimp only [naL, caL]
  apply relS_det (mask := [false, true, true]) (x := .pointer (some ⟨b, off + h * 8, none⟩))
  ·rfl
  ·kernel_rfl
  ·kernel_rfl
  ·dsimp only [oblS]
   rintro w9 h9
   go_simp
   exact ⟨Below.refl _ _, rfl⟩
  dsimp only [naL, caL]
  apply relS_det (mask := [false, false, false, true]) (x := .agg #[.int .i64 x.key.kind, .int .i64 x.key.subj, .int .i64 x.key.obj, .int .i64 x.val, .int .i64 x.fr, .int .i64 x.to, .int .i64 x.known, .int .i64 x.no])
  ·rfl
  ·kernel_rfl
  ·kernel_rfl
  ·dsimp only [oblS]
   rintro w9 h9
   have hc9 := (bcell h9).1
   go_simp
   exact ⟨Below.refl _ _, rfl⟩
  dsimp only [naL, caL]
  apply relS_det (mask := [false, false, false, false, false]) (x := .agg #[.int .i64 f.key.kind, .int .i64 f.key.subj, .int .i64 f.key.obj, .int .i64 f.val, .int .i64 f.fr, .int .i64 f.to, .int .i64 f.known, .int .i64 f.no])
  ·rfl
  ·kernel_rfl
  ·kernel_rfl
  ·dsimp only [oblS]
   rintro w9 h9
   have hc9 := (bcell h9).1
   go_simp
   exact ⟨Below.refl _ _, rfl⟩
  dsimp only [naL, caL]
  apply relS_det (mask := [true, false, false, false, true, true]) (x := .int .i64 (cmpP x f))
  ·rfl
  ·kernel_rfl
  ·kernel_rfl
  ·dsimp only [oblS]
   rintro w9 h9
   go_simp
   refine (pgcmp_any x f w9).mono ?_
   rintro e w7 ⟨rfl, hb7⟩
   exact ⟨_, rfl, hb7.b, rfl⟩
  dsimp only [naL, caL]
  apply relS_det (mask := [false, false, false, false, false, false, true]) (x := .bool z)
  ·rfl
  ·kernel_rfl
  ·kernel_rfl
  ·dsimp only [oblS]
   rintro w9 h9
   go_simp
   first | exact ⟨Below.refl _ _, rfl⟩ | (rw [hz]; exact ⟨Below.refl _ _, rfl⟩)
  dsimp only [naL, caL]
  refine relS_end (by rfl) ?_
  dsimp only [finS]
  rintro w8 hb8
  have HBe8 := hidp (HBe.out.trans (hb8.mono HBe.out.size))
  have HB08 := hidp (HB00.out.trans (hb8.mono HB00.out.size))
  clear hb8 c0 c1 c2 c3 c4 c5 c6 c7 lb hix hz y0 y1 y2 y3 y4 y5 y6 y7 ly
  go_simp
  cases z
  ·go_wp2_with fail
   go_roundw
   case rel => exact ⟨i, h, _, by omega, by omega, rfl, rfl, rfl, HLo.out, (fun u hu => by rw [HX.out] at hu; cases hu; exact of_decide_eq_false HZ.out), HBe8.out, HB08.out⟩
   case measure => simp [intOf]; omega
  ·go_wp2_with fail
   go_roundw
   case rel => exact ⟨h + 1, j, _, by omega, by omega, by go_num, rfl, rfl, (fun k hk => by (have hk2 : k = h := by omega); subst hk2; exact ⟨x, HX.out, of_decide_eq_true HZ.out⟩), HHi.out, HBe8.out, HB08.out⟩
   case measure => simp [intOf]; omega
 obtain rfl : i = j := by omega
 have hlt' : ¬ ((i : Int) < i) := by omega
 by_cases hin : i < n
 ·have hin' : (i : Int) < n := by omega
  obtain ⟨b, off, x, hA, _, hx, c0, c1, c2, c3, c4, c5, c6, c7⟩ := fSl.get (HSl.out wr HBe.out) hin
  have hix := fun W => ix_FactsP (c := c) hA hin W
  have lb := lt_of_cell c0
  have HX := hidp hx
  obtain ⟨z, hz⟩ : ∃ b, (cmpP x f == 0) = b := ⟨_, rfl⟩
  clear hx hA
  go_wp2_with fail
  refine wp_region_S wr.heap.size 16 (fun _ => false) (Nat.le_refl _) (by kernel_rfl) (by kernel_rfl) (by kernel_rfl) ?_
  dsimp only [List.take, List.drop]
  apply relS_det (mask := [])
  ·rfl
  ·kernel_rfl
  ·kernel_rfl
  ·dsimp only [oblS]
   rintro w9 h9
   go_simp
   exact ⟨Below.refl _ _, rfl⟩
  dsimp only [naL, caL]
  apply relS_det (mask := [false])
  ·rfl
  ·kernel_rfl
  ·kernel_rfl
  ·dsimp only [oblS]
   rintro w9 h9
   go_simp
   exact ⟨Below.refl _ _, rfl⟩
  dsimp only [naL, caL]
  apply relS_det (mask := [false, false])
  ·rfl
  ·kernel_rfl
  ·kernel_rfl
  ·dsimp only [oblS]
   rintro w9 h9
   go_simp
   exact ⟨Below.refl _ _, rfl⟩
  dsimp only [naL, caL]
  apply relS_det (mask := [false, true, true]) (x := .bool true)
  ·rfl
  ·kernel_rfl
  ·kernel_rfl
  ·dsimp only [oblS]
   rintro w9 h9
   go_simp
   exact ⟨Below.refl _ _, rfl⟩
  dsimp only [naL, caL]
  apply relS_det (mask := [false, false, false, true]) (x := .bool true)
  ·rfl
  ·kernel_rfl
  ·kernel_rfl
  ·dsimp only [oblS]
   rintro w9 h9
   go_simp
   exact ⟨Below.refl _ _, rfl⟩
  dsimp only [naL, caL]
  apply relS_detg (mask := [false, false, false, false, true]) (t := 39) (want := true)
  ·rfl
  ·kernel_rfl
  ·kernel_rfl
  ·dsimp only [oblS]
   refine ⟨by rfl, ?_⟩
   rintro w9 h9
   go_simp
   exact ⟨Below.refl _ _, rfl⟩
  dsimp only [naL, caL]
  apply relS_detg (mask := [false, false, false, false, true, false]) (t := 39) (want := true)
  ·rfl
  ·kernel_rfl
  ·kernel_rfl
  ·dsimp only [oblS]
   refine ⟨by rfl, ?_⟩
   rintro w9 h9
   go_simp
   exact ⟨Below.refl _ _, rfl⟩
  dsimp only [naL, caL]
  apply relS_detg (mask := [false, false, false, false, true, false, false]) (t := 39) (want := true)
  ·rfl
  ·kernel_rfl
  ·kernel_rfl
  ·dsimp only [oblS]
   refine ⟨by rfl, ?_⟩
   rintro w9 h9
   go_simp
   exact ⟨Below.refl _ _, rfl⟩
  dsimp only [naL, caL]
  apply relS_detg (mask := [false, false, false, false, true, false, true, true]) (t := 39) (want := true) (x := .pointer (some ⟨b, off + i * 8, none⟩))
  ·rfl
  ·kernel_rfl
  ·kernel_rfl
  ·dsimp only [oblS]
   refine ⟨by rfl, ?_⟩
   rintro w9 h9
   go_simp
   exact ⟨Below.refl _ _, rfl⟩
  dsimp only [naL, caL]
  apply relS_detg (mask := [false, false, false, false, true, false, false, false, true]) (t := 39) (want := true) (x := .agg #[.int .i64 x.key.kind, .int .i64 x.key.subj, .int .i64 x.key.obj, .int .i64 x.val, .int .i64 x.fr, .int .i64 x.to, .int .i64 x.known, .int .i64 x.no])
  ·rfl
  ·kernel_rfl
  ·kernel_rfl
  ·dsimp only [oblS]
   refine ⟨by rfl, ?_⟩
   rintro w9 h9
   have hc9 := (bcell h9).1
   go_simp
   exact ⟨Below.refl _ _, rfl⟩
  dsimp only [naL, caL]
  apply relS_detg (mask := [false, false, false, false, true, false, false, false, false, false]) (t := 39) (want := true) (x := .agg #[.int .i64 f.key.kind, .int .i64 f.key.subj, .int .i64 f.key.obj, .int .i64 f.val, .int .i64 f.fr, .int .i64 f.to, .int .i64 f.known, .int .i64 f.no])
  ·rfl
  ·kernel_rfl
  ·kernel_rfl
  ·dsimp only [oblS]
   refine ⟨by rfl, ?_⟩
   rintro w9 h9
   have hc9 := (bcell h9).1
   go_simp
   exact ⟨Below.refl _ _, rfl⟩
  dsimp only [naL, caL]
  apply relS_detg (mask := [false, false, false, false, true, true, false, false, false, true, true]) (t := 39) (want := true) (x := .int .i64 (cmpP x f))
  ·rfl
  ·kernel_rfl
  ·kernel_rfl
  ·dsimp only [oblS]
   refine ⟨by rfl, ?_⟩
   rintro w9 h9
   go_simp
   refine (pgcmp_any x f w9).mono ?_
   rintro e w7 ⟨rfl, hb7⟩
   exact ⟨_, rfl, hb7.b, rfl⟩
  dsimp only [naL, caL]
  apply relS_detg (mask := [false, false, false, false, true, false, false, false, false, false, false, true]) (t := 39) (want := true) (x := .bool z)
  ·rfl
  ·kernel_rfl
  ·kernel_rfl
  ·dsimp only [oblS]
   refine ⟨by rfl, ?_⟩
   rintro w9 h9
   go_simp
   first | exact ⟨Below.refl _ _, rfl⟩ | (rw [hz]; exact ⟨Below.refl _ _, rfl⟩)
  dsimp only [naL, caL]
  apply relS_det (mask := [false, false, false, false, true, false, false, false, false, false, false, false, true]) (x := .bool z)
  ·rfl
  ·kernel_rfl
  ·kernel_rfl
  ·dsimp only [oblS]
   rintro w9 h9
   go_simp
   exact ⟨Below.refl _ _, rfl⟩
  dsimp only [naL, caL]
  apply relS_det (mask := [true, false, false, false, false, false, false, false, false, false, false, false, false, false])
  ·rfl
  ·kernel_rfl
  ·kernel_rfl
  ·dsimp only [oblS]
   rintro w9 h9
   go_simp
   exact ⟨Below.refl _ _, rfl⟩
  dsimp only [naL, caL]
  apply relS_det (mask := [false, false, false, false, false, false, false, false, false, false, false, false, false, true, false])
  ·rfl
  ·kernel_rfl
  ·kernel_rfl
  ·dsimp only [oblS]
   rintro w9 h9
   go_simp
   exact ⟨Below.refl _ _, rfl⟩
  dsimp only [naL, caL]
  refine relS_end (by rfl) ?_
  dsimp only [finS]
  rintro w8 hb8
  have HBe8 := hidp (HBe.out.trans (hb8.mono HBe.out.size))
  clear hb8 y0 y1 y2 y3 y4 y5 y6 y7 ly
  go_simp
  go_wp2_with fail
  go_ret2
  exact ⟨i, z, rfl, by omega, HLo.out, HHi.out, HBe8.out⟩
 ·have hin' : ¬ ((i : Int) < n) := by omega
  go_wp2_with fail
  refine wp_region_S wr.heap.size 16 (fun _ => false) (Nat.le_refl _) (by kernel_rfl) (by kernel_rfl) (by kernel_rfl) ?_
  dsimp only [List.take, List.drop]
  apply relS_det (mask := [])
  ·rfl
  ·kernel_rfl
  ·kernel_rfl
  ·dsimp only [oblS]
   rintro w9 h9
   go_simp
   exact ⟨Below.refl _ _, rfl⟩
  dsimp only [naL, caL]
  apply relS_det (mask := [false])
  ·rfl
  ·kernel_rfl
  ·kernel_rfl
  ·dsimp only [oblS]
   rintro w9 h9
   go_simp
   exact ⟨Below.refl _ _, rfl⟩
  dsimp only [naL, caL]
  apply relS_det (mask := [false, false])
  ·rfl
  ·kernel_rfl
  ·kernel_rfl
  ·dsimp only [oblS]
   rintro w9 h9
   go_simp
   exact ⟨Below.refl _ _, rfl⟩
  dsimp only [naL, caL]
  apply relS_det (mask := [false, true, true]) (x := .bool false)
  ·rfl
  ·kernel_rfl
  ·kernel_rfl
  ·dsimp only [oblS]
   rintro w9 h9
   go_simp
   exact ⟨Below.refl _ _, rfl⟩
  dsimp only [naL, caL]
  apply relS_det (mask := [false, false, false, true]) (x := .bool false)
  ·rfl
  ·kernel_rfl
  ·kernel_rfl
  ·dsimp only [oblS]
   rintro w9 h9
   go_simp
   exact ⟨Below.refl _ _, rfl⟩
  dsimp only [naL, caL]
  apply relS_not (mask := [false, false, false, false, true]) (t := 39) (want := true) (hf := by rfl) (hg := by kernel_rfl) (hm := by kernel_rfl)
  ·rfl
  dsimp only [naL, caL]
  apply relS_not (mask := [false, false, false, false, true, false]) (t := 39) (want := true) (hf := by rfl) (hg := by kernel_rfl) (hm := by kernel_rfl)
  ·rfl
  dsimp only [naL, caL]
  apply relS_not (mask := [false, false, false, false, true, false, false]) (t := 39) (want := true) (hf := by rfl) (hg := by kernel_rfl) (hm := by kernel_rfl)
  ·rfl
  dsimp only [naL, caL]
  apply relS_not (mask := [false, false, false, false, true, false, true, true]) (t := 39) (want := true) (hf := by rfl) (hg := by kernel_rfl) (hm := by kernel_rfl)
  ·rfl
  dsimp only [naL, caL]
  apply relS_not (mask := [false, false, false, false, true, false, false, false, true]) (t := 39) (want := true) (hf := by rfl) (hg := by kernel_rfl) (hm := by kernel_rfl)
  ·rfl
  dsimp only [naL, caL]
  apply relS_not (mask := [false, false, false, false, true, false, false, false, false, false]) (t := 39) (want := true) (hf := by rfl) (hg := by kernel_rfl) (hm := by kernel_rfl)
  ·rfl
  dsimp only [naL, caL]
  apply relS_not (mask := [false, false, false, false, true, true, false, false, false, true, true]) (t := 39) (want := true) (hf := by rfl) (hg := by kernel_rfl) (hm := by kernel_rfl)
  ·rfl
  dsimp only [naL, caL]
  apply relS_not (mask := [false, false, false, false, true, false, false, false, false, false, false, true]) (t := 39) (want := true) (hf := by rfl) (hg := by kernel_rfl) (hm := by kernel_rfl)
  ·rfl
  dsimp only [naL, caL]
  apply relS_det (mask := [false, false, false, false, true, false, false, false, false, false, false, false, true]) (x := .bool false)
  ·rfl
  ·kernel_rfl
  ·kernel_rfl
  ·dsimp only [oblS]
   rintro w9 h9
   go_simp
   exact ⟨Below.refl _ _, rfl⟩
  dsimp only [naL, caL]
  apply relS_det (mask := [true, false, false, false, false, false, false, false, false, false, false, false, false, false])
  ·rfl
  ·kernel_rfl
  ·kernel_rfl
  ·dsimp only [oblS]
   rintro w9 h9
   go_simp
   exact ⟨Below.refl _ _, rfl⟩
  dsimp only [naL, caL]
  apply relS_det (mask := [false, false, false, false, false, false, false, false, false, false, false, false, false, true, false])
  ·rfl
  ·kernel_rfl
  ·kernel_rfl
  ·dsimp only [oblS]
   rintro w9 h9
   go_simp
   exact ⟨Below.refl _ _, rfl⟩
  dsimp only [naL, caL]
  refine relS_end (by rfl) ?_
  dsimp only [finS]
  rintro w8 hb8
  have HBe8 := hidp (HBe.out.trans (hb8.mono HBe.out.size))
  clear hb8 y0 y1 y2 y3 y4 y5 y6 y7 ly
  go_simp
  go_wp2_with fail
  go_ret2
  exact ⟨i, false, rfl, by omega, HLo.out, HHi.out, HBe8.out⟩
end
end Go.Proofs.YtbegdcjofnfkiaaGreatDoor
