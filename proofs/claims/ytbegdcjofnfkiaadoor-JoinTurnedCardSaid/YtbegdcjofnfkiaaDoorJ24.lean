/- The law's normal walked (printed by tools/gen112.py). -/
import Derived.Test.YtbegdcjofnfkiaaDoorJ24A
import Derived.Test.YtbegdcjofnfkiaaDoorRelQS
namespace Go.Proofs.YtbegdcjofnfkiaaDoor
open Go.RowKit Go.Shelf Go.Sort

theorem amInfo : (Tryd.prog.info? 46).map (fun i => (i.zero, i.size, i.bytes)) = some (some (.agg #[.int .i64 0, .bool false, .int .i64 0, .bool false, .int .i64 0, .bool false, .int .i64 0, .int .i64 0, .int .i64 0]), 9, 72) := by kernel_rfl
theorem teInfo : (Tryd.prog.info? 48).map (fun i => (i.zero, i.size, i.bytes)) = some (some (.agg #[.int .i64 0, .bool false, .int .i64 0, .bool false, .int .i64 0]), 5, 40) := by kernel_rfl
theorem sInfoJ : (Tryd.prog.info? 9).map (fun i => (i.zero, i.size, i.bytes)) = some (some (.string ⟨#[]⟩), 1, 16) := by kernel_rfl
set_option maxRecDepth 100000 in
set_option maxHeartbeats 8000000 in
theorem normal_any (q : Qu) (w : World) (hq : QuIn q w w.heap.size) (h8 : q.names.length ≤ 100 ∧ q.shows.length ≤ 100 ∧ q.atoms.length ≤ 100 ∧ q.tests.length ≤ 100) :
    Calls Tryd.prog 17 #[.agg #[.slice q.nA q.nn q.nc, .slice q.sA q.sn q.sc, .slice q.aA q.an q.ac, .slice q.tA q.tn q.tc]] w (NormPost q w) := by
  obtain ⟨i0, hi, hz, hss, hbb⟩ := info_parts iInfo
  obtain ⟨j0, hji, hjz, hjs, hjb⟩ := info_parts amInfo
  obtain ⟨t0, hti, htz, hts, htb⟩ := info_parts teInfo
  have HLen : Hid (q.nn = q.names.length ∧ q.sn = q.shows.length ∧ q.an = q.atoms.length ∧ q.tn = q.tests.length) := ⟨hq.1.1, hq.2.1.1, hq.2.2.1.1, hq.2.2.2.1⟩
  have hnc := hq.1.2.1
  have hncc := hq.1.2.2.1
  have HQu : Hid (∀ W, Below w.heap.size w W → QuIn q W W.heap.size) := fun W hb => hq.keep hb.size hb.block
  have HSz := hidp h8
  have hA := hq
  obtain ⟨b, hb⟩ : ∃ b, w.heap.size = b := ⟨_, rfl⟩
  obtain ⟨W0, hW0⟩ : ∃ W0, ((((w.alloc (.cells #[.slice q.nA q.nn q.nc, .slice q.sA q.sn q.sc, .slice q.aA q.an q.ac, .slice q.tA q.tn q.tc] 27)).alloc (.cells #[.slice none 0 0, .slice none 0 0, .slice none 0 0, .slice none 0 0] 27)).alloc (.cells #[] 3)).alloc (.cells #[.slice (some ⟨b + 1 + 1, 0, none⟩) 0 0] 23)).alloc (.cells #[] 3) = W0 := ⟨_, rfl⟩
  have hz0 : W0.heap.size = b + 5 := by rw [← hW0, ← hb]; simp
  obtain ⟨V0, hV0⟩ : ∃ V, w.alloc (.cells #[.slice q.nA q.nn q.nc, .slice q.sA q.sn q.sc, .slice q.aA q.an q.ac, .slice q.tA q.tn q.tc] 27) = V := ⟨_, rfl⟩
  obtain ⟨V1, hV1⟩ : ∃ V, V0.alloc (.cells #[.slice none 0 0, .slice none 0 0, .slice none 0 0, .slice none 0 0] 27) = V := ⟨_, rfl⟩
  obtain ⟨V2, hV2⟩ : ∃ V, V1.alloc (.cells #[] 3) = V := ⟨_, rfl⟩
  obtain ⟨V3, hV3⟩ : ∃ V, V2.alloc (.cells #[.slice (some ⟨b + 1 + 1, 0, none⟩) 0 0] 23) = V := ⟨_, rfl⟩
  have y0 : V0.heap.size = b + 1 := by rw [← hV0, ← hb]; simp
  have y1 : V1.heap.size = b + 2 := by rw [← hV1]; simp; omega
  have y2 : V2.heap.size = b + 3 := by rw [← hV2]; simp; omega
  have y3 : V3.heap.size = b + 4 := by rw [← hV3]; simp; omega
  have hW4 : V3.alloc (.cells #[] 3) = W0 := by rw [← hV3, ← hV2, ← hV1, ← hV0]; exact hW0
  have p0 : V0.heap[b]? = some (.cells #[.slice q.nA q.nn q.nc, .slice q.sA q.sn q.sc, .slice q.aA q.an q.ac, .slice q.tA q.tn q.tc] 27 (0, 0)) := by rw [← hV0, ← hb]; exact World.alloc_heap_new _ _
  have p1 : V1.heap[b + 1]? = some (.cells #[.slice none 0 0, .slice none 0 0, .slice none 0 0, .slice none 0 0] 27 (0, 0)) := by rw [← hV1, ← y0]; exact World.alloc_heap_new _ _
  have p3 : V3.heap[b + 3]? = some (.cells #[.slice (some ⟨b + 1 + 1, 0, none⟩) 0 0] 23 (0, 0)) := by rw [← hV3, ← y2]; exact World.alloc_heap_new _ _
  have o2 : V2.ownsRow (b + 2) 3 1 (.slice (some ⟨b + 2, 0, none⟩) 0 0) 0 [] := by
    have := own_empty V1 (b + 2) 1 3 (by omega)
    rw [hV2, y1] at this; exact this
  have o4 : W0.ownsRow (b + 2) 3 1 (.slice (some ⟨b + 4, 0, none⟩) 0 0) 0 [] := by
    have := own_empty V3 (b + 2) 1 3 (by omega)
    rw [hW4, y3] at this; exact this
  have n1 : Below V0.heap.size V0 V1 := by rw [← hV1]; exact (Below.refl _ _).alloc (Nat.le_refl _) _
  have n2 : Below V1.heap.size V1 V2 := by rw [← hV2]; exact (Below.refl _ _).alloc (Nat.le_refl _) _
  have n3 : Below V2.heap.size V2 V3 := by rw [← hV3]; exact (Below.refl _ _).alloc (Nat.le_refl _) _
  have n4 : Below V3.heap.size V3 W0 := by rw [← hW4]; exact (Below.refl _ _).alloc (Nat.le_refl _) _
  have n24 : Below V2.heap.size V2 W0 := n3.trans (n4.mono n3.size)
  have n14 : Below V1.heap.size V1 W0 := n2.trans (n24.mono n2.size)
  have n04 : Below V0.heap.size V0 W0 := n1.trans (n14.mono n1.size)
  have nw : Below b w W0 := by
    have : Below b w V0 := by rw [← hV0, ← hb]; exact (Below.refl _ _).alloc (Nat.le_refl _) _
    exact this.trans (n04.mono (by omega))
  have q0 : W0.heap[b]? = some (.cells #[.slice q.nA q.nn q.nc, .slice q.sA q.sn q.sc, .slice q.aA q.an q.ac, .slice q.tA q.tn q.tc] 27 (0, 0)) := (n04.block _ (by omega)).trans p0
  have q1 : W0.heap[b + 1]? = some (.cells #[.slice none 0 0, .slice none 0 0, .slice none 0 0, .slice none 0 0] 27 (0, 0)) := (n14.block _ (by omega)).trans p1
  have q3 : W0.heap[b + 3]? = some (.cells #[.slice (some ⟨b + 2, 0, none⟩) 0 0] 23 (0, 0)) := (n4.block _ (by omega)).trans p3
  have o2' : W0.ownsRow (b + 2) 3 1 (.slice (some ⟨b + 2, 0, none⟩) 0 0) 0 [] := own_keepB o2 fun g hg => n24.block g (o2.lt g hg).2
  clear hV0 hV1 hV2 hV3 hW4 y0 y1 y2 y3 p0 p1 p3 o2 n1 n2 n3 n4 n24 n14 n04
  have hb' := hb
  subst hb'
  obtain ⟨c1, c2, c3, c4⟩ := HLen.out
  obtain ⟨m1, m2, m3, m4⟩ := h8
  -- the three copies
  obtain ⟨S1, w1, hr1, ow1, g1, at1⟩ := run_append_rows (P := Tryd.prog) (ty := 23) (l := []) (enc := iEnc) Tryd.underlying23 hi hz hss hbb rfl iEnc_len (by decide) iEnc_one o4 (HQu.out W0 nw).2.1 (by omega) (by omega) (by omega)
  simp only [List.nil_append, Nat.zero_add] at ow1
  obtain ⟨AS, cS, rfl, _⟩ := own_rows iEnc_len (by decide) ow1
  have z1 := g1.size
  have k1 : ∀ x, x < W0.heap.size → x ≠ w.heap.size + 4 → w1.heap[x]? = W0.heap[x]? := fun x h1 h2 => g1.block x h1 (fun e => by simp [Value.ownBlock] at e; omega)
  obtain ⟨K1, hK1⟩ : ∃ K, w1.setCell ⟨w.heap.size, 1, none⟩ (.slice AS q.sn cS) = K := ⟨_, rfl⟩
  have zK1 : K1.heap.size = w1.heap.size := by rw [← hK1]; simp [World.setCell]
  have l1 : ∀ x, x ≠ w.heap.size → K1.heap[x]? = w1.heap[x]? := fun x h => by rw [← hK1]; exact heap_set_ne rfl h _ _
  have b1 : w1.heap[w.heap.size]? = some (.cells #[.slice q.nA q.nn q.nc, .slice q.sA q.sn q.sc, .slice q.aA q.an q.ac, .slice q.tA q.tn q.tc] 27 (0, 0)) := (k1 _ (by omega) (by omega)).trans q0
  have B1 : K1.heap[w.heap.size]? = some (.cells #[.slice q.nA q.nn q.nc, .slice AS q.sn cS, .slice q.aA q.an q.ac, .slice q.tA q.tn q.tc] 27 (0, 0)) := by rw [← hK1]; exact heap_setO b1 1 _
  have nK1 : Below w.heap.size w K1 := by rw [← hK1]; exact (nw.grown g1 (by omega) (fun g e => by simp [Value.ownBlock] at e; omega)).setCell (Nat.le_refl _) _
  obtain ⟨W2, hW2⟩ : ∃ W2, K1.alloc (.cells #[] 46) = W2 := ⟨_, rfl⟩
  have zW2 : W2.heap.size = w1.heap.size + 1 := by rw [← hW2]; simp; exact zK1
  have nW2 : Below w.heap.size w W2 := by rw [← hW2]; exact nK1.alloc nK1.size _
  have bW2 : Below K1.heap.size K1 W2 := by rw [← hW2]; exact (Below.refl _ _).alloc (Nat.le_refl _) _
  have oA : W2.ownsRow (w.heap.size + 2) 46 9 (.slice (some ⟨w1.heap.size, 0, none⟩) 0 0) 0 [] := by
    have := own_empty K1 (w.heap.size + 2) 9 46 (by omega)
    rw [hW2, zK1] at this; exact this
  obtain ⟨A1, w2, hr2, ow2, g2, at2⟩ := run_append_rows (P := Tryd.prog) (ty := 24) (l := []) (enc := amEnc) Tryd.underlying24 hji hjz hjs hjb rfl amEnc_len (by decide) amEnc_one oA (HQu.out W2 nW2).2.2.1 (by omega) (by omega) (by omega)
  simp only [List.nil_append, Nat.zero_add] at ow2
  obtain ⟨AA, cA, rfl, _⟩ := own_rows amEnc_len (by decide) ow2
  have z2 := g2.size
  have k2 : ∀ x, x < W2.heap.size → x ≠ w1.heap.size → w2.heap[x]? = W2.heap[x]? := fun x h1 h2 => g2.block x h1 (fun e => by simp [Value.ownBlock] at e; omega)
  obtain ⟨K2, hK2⟩ : ∃ K, w2.setCell ⟨w.heap.size, 2, none⟩ (.slice AA q.an cA) = K := ⟨_, rfl⟩
  have zK2 : K2.heap.size = w2.heap.size := by rw [← hK2]; simp [World.setCell]
  have l2 : ∀ x, x ≠ w.heap.size → K2.heap[x]? = w2.heap[x]? := fun x h => by rw [← hK2]; exact heap_set_ne rfl h _ _
  have b2 : w2.heap[w.heap.size]? = some (.cells #[.slice q.nA q.nn q.nc, .slice AS q.sn cS, .slice q.aA q.an q.ac, .slice q.tA q.tn q.tc] 27 (0, 0)) := (k2 _ (by omega) (by omega)).trans ((bW2.block _ (by omega)).trans B1)
  have B2 : K2.heap[w.heap.size]? = some (.cells #[.slice q.nA q.nn q.nc, .slice AS q.sn cS, .slice AA q.an cA, .slice q.tA q.tn q.tc] 27 (0, 0)) := by rw [← hK2]; exact heap_setO b2 2 _
  have nK2 : Below w.heap.size w K2 := by rw [← hK2]; exact (nW2.grown g2 (by omega) (fun g e => by simp [Value.ownBlock] at e; omega)).setCell (Nat.le_refl _) _
  obtain ⟨W3, hW3⟩ : ∃ W3, K2.alloc (.cells #[] 48) = W3 := ⟨_, rfl⟩
  have zW3 : W3.heap.size = w2.heap.size + 1 := by rw [← hW3]; simp; exact zK2
  have nW3 : Below w.heap.size w W3 := by rw [← hW3]; exact nK2.alloc nK2.size _
  have bW3 : Below K2.heap.size K2 W3 := by rw [← hW3]; exact (Below.refl _ _).alloc (Nat.le_refl _) _
  have oT : W3.ownsRow (w.heap.size + 2) 48 5 (.slice (some ⟨w2.heap.size, 0, none⟩) 0 0) 0 [] := by
    have := own_empty K2 (w.heap.size + 2) 5 48 (by omega)
    rw [hW3, zK2] at this; exact this
  obtain ⟨T1, w3, hr3, ow3, g3, at3⟩ := run_append_rows (P := Tryd.prog) (ty := 25) (l := []) (enc := teEnc) Tryd.underlying25 hti htz hts htb rfl teEnc_len (by decide) teEnc_one oT (HQu.out W3 nW3).2.2.2 (by omega) (by omega) (by omega)
  simp only [List.nil_append, Nat.zero_add] at ow3
  obtain ⟨AT, cT, rfl, _⟩ := own_rows teEnc_len (by decide) ow3
  have z3 := g3.size
  have k3 : ∀ x, x < W3.heap.size → x ≠ w2.heap.size → w3.heap[x]? = W3.heap[x]? := fun x h1 h2 => g3.block x h1 (fun e => by simp [Value.ownBlock] at e; omega)
  obtain ⟨K3, hK3⟩ : ∃ K, w3.setCell ⟨w.heap.size, 3, none⟩ (.slice AT q.tn cT) = K := ⟨_, rfl⟩
  have l3 : ∀ x, x ≠ w.heap.size → K3.heap[x]? = w3.heap[x]? := fun x h => by rw [← hK3]; exact heap_set_ne rfl h _ _
  have b3 : w3.heap[w.heap.size]? = some (.cells #[.slice q.nA q.nn q.nc, .slice AS q.sn cS, .slice AA q.an cA, .slice q.tA q.tn q.tc] 27 (0, 0)) := (k3 _ (by omega) (by omega)).trans ((bW3.block _ (by omega)).trans B2)
  have B3 : K3.heap[w.heap.size]? = some (.cells #[.slice q.nA q.nn q.nc, .slice AS q.sn cS, .slice AA q.an cA, .slice AT q.tn cT] 27 (0, 0)) := by rw [← hK3]; exact heap_setO b3 3 _
  have nK3 : Below w.heap.size w K3 := by rw [← hK3]; exact (nW3.grown g3 (by omega) (fun g e => by simp [Value.ownBlock] at e; omega)).setCell (Nat.le_refl _) _
  -- from w1 on, and from w2 on
  have s3 : ∀ x, x < W3.heap.size → x ≠ w2.heap.size → x ≠ w.heap.size → K3.heap[x]? = W3.heap[x]? := fun x h1 h2 h3 => (l3 x h3).trans (k3 x h1 h2)
  have s2 : ∀ x, x < w2.heap.size → x ≠ w.heap.size → K3.heap[x]? = w2.heap[x]? := fun x h1 h3 => (s3 x (by omega) (by omega) h3).trans ((bW3.block x (by omega)).trans (l2 x h3))
  have s1 : ∀ x, x < w1.heap.size → x ≠ w.heap.size → K3.heap[x]? = w1.heap[x]? := fun x h1 h3 => (s2 x (by omega) h3).trans ((k2 x (by omega) (by omega)).trans ((bW2.block x (by omega)).trans (l1 x h3)))
  have s0 : ∀ x, x < W0.heap.size → x ≠ w.heap.size → x ≠ w.heap.size + 4 → K3.heap[x]? = W0.heap[x]? := fun x h1 h2 h3 => (s1 x (by omega) h2).trans (k1 x h1 h3)
  have HSt : Hid (NSt w.heap.size (.slice q.nA q.nn q.nc) (.slice AS q.sn cS) (.slice AA q.an cA) (.slice AT q.tn cT) (shI q 0) (amI q 0) (teI q 0) (ordS q 0) K3) := by
    refine ⟨B3, ⟨_, (s0 _ (by omega) (by omega) (by omega)).trans q3, ?_, fun g hg hs => ?_⟩, ?_, ?_, ?_⟩
    · rw [ordS_zero]
      exact own_keepB o2' fun g hg => by
        have hg2 : w.heap.size + 2 = g := by simpa [Value.ownBlock] using hg
        exact s0 g (by omega) (by omega) (by omega)
    · have hg2 : w.heap.size + 2 = g := by simpa [Value.ownBlock] using hg
      rcases at1 with h | h
      · rw [h] at hs; simp [Value.ownBlock] at hs; omega
      · rw [h] at hs; injection hs with hs; omega
    · rw [shI_zero, ← c2]
      exact own_keepB ow1 fun g hg => s1 g (ow1.lt g hg).2 (by have := (ow1.lt g hg).1; omega)
    · rw [amI_zero, ← c3]
      exact own_keepB ow2 fun g hg => s2 g (ow2.lt g hg).2 (by have := (ow2.lt g hg).1; omega)
    · rw [teI_zero, ← c4]
      exact own_keepB ow3 fun g hg => l3 g (by have := (ow3.lt g hg).1; omega)
  have HR : Hid (K3.heap[w.heap.size + 1]? = some (.cells #[.slice none 0 0, .slice none 0 0, .slice none 0 0, .slice none 0 0] 27 (0, 0))) := (s0 _ (by omega) (by omega) (by omega)).trans q1
  have HNK := hidp nK3
  have e1 := cell_of_heap (o := 1) b1
  have e2 := cell_of_heap (o := 2) b1
  have e3 := cell_of_heap (o := 3) b1
  have f1 := cell_of_heap (o := 1) b2
  have f2 := cell_of_heap (o := 2) b2
  have f3 := cell_of_heap (o := 3) b2
  have h1 := cell_of_heap (o := 1) b3
  have h2 := cell_of_heap (o := 2) b3
  have h3 := cell_of_heap (o := 3) b3
  have fe := frozen_of_heap (o := 1) b1
  have ff := frozen_of_heap (o := 2) b2
  have fh := frozen_of_heap (o := 3) b3
  simp only [List.getElem?_toArray, List.getElem?_cons_zero, List.getElem?_cons_succ] at e1 e2 e3 f1 f2 f3 h1 h2 h3
  have le := lt_of_cell e1
  have lf := lt_of_cell f1
  have lh := lt_of_cell h1
  have HR1 := hidp hr1
  have HR2 := hidp hr2
  have HR3 := hidp hr3
  have HW0 := hidp hW0
  have HW2 : Hid ((w1.setCell ⟨w.heap.size, 1, none⟩ (.slice AS q.sn cS)).alloc (.cells #[] 46) = W2) := by show _ = _; rw [hK1]; exact hW2
  have HW3 : Hid ((w2.setCell ⟨w.heap.size, 2, none⟩ (.slice AA q.an cA)).alloc (.cells #[] 48) = W3) := by show _ = _; rw [hK2]; exact hW3
  have HK3 := hidp hK3
  clear hr1 hr2 hr3 hW0 hW2 hW3 hK1 hK2 hK3 s0 s1 s2 s3 ow1 ow2 ow3 o2' o4 oA oT g1 g2 g3 at1 at2 at3 k1 k2 k3 l1 l2 l3 b1 b2 b3 B1 B2 B3 nK1 nK2 nK3 nW2 nW3 bW2 bW3 z1 z2 z3 zK1 zK2 zW2 zW3 hz0 q0 q1 q3 nw hq hA hb c1 c2 c3 c4
  go_enter Tryd.func17, Tryd.ntmps17
  go_wp2_with (at_builtin; first
    | (rw [HW0.out]; refine wpList_append_known rfl (.tmp 13) (.tmp 15) 23 rfl rfl rfl HR1.out ?_)
    | (rw [HW2.out]; refine wpList_append_known rfl (.tmp 18) (.tmp 20) 24 rfl rfl rfl HR2.out ?_)
    | (rw [HW3.out]; refine wpList_append_known rfl (.tmp 23) (.tmp 25) 25 rfl rfl rfl HR3.out ?_))

  rw [HK3.out]
  have hnb := HNK.out.size
  have hq1 : q.sn ≤ 100 := by have := HLen.out.2.1; omega
  have hq2 : q.an ≤ 100 := by have := HLen.out.2.2.1; omega
  have hq3 : q.tn ≤ 100 := by have := HLen.out.2.2.2; omega
  clear hi hz hss hbb hji hjz hjs hjb hti htz hts htb fe ff fh e1 e2 e3 f1 f2 f3 h1 h2 h3 le lf lh HR1 HR2 HR3 HW0 HW2 HW3 HK3
  obtain ⟨b, hb⟩ : ∃ b, w.heap.size = b := ⟨_, rfl⟩
  rw [hb] at HSt HR HNK hnb ⊢
  have HBb := hidp hb
  clear hb
  go_loopw [6] (fun i wr => ∃ k : Nat, k ≤ q.sn ∧ i = .int .i64 k ∧ NSt b (.slice q.nA q.nn q.nc) (.slice AS q.sn cS) (.slice AA q.an cA) (.slice AT q.tn cT) (shI q k) (amI q 0) (teI q 0) (ordS q k) wr ∧ RBox b wr ∧ Below b w wr) (fun i _ => q.sn - (intOf i).toNat)
  case atStart => exact ⟨0, by omega, rfl, HSt.out, HR.out, HNK.out⟩
  case round =>
    obtain ⟨k, hk, rfl, hst, hrb, hbe⟩ := hrel
    have hbz : b + 4 ≤ wr.heap.size := by obtain ⟨v, h1, _⟩ := hst.ord; have := lt_of_heap h1; omega
    have xb := cell_of_heap (o := 1) hst.box
    simp only [List.getElem?_toArray, List.getElem?_cons_zero, List.getElem?_cons_succ] at xb
    have lb := lt_of_cell xb
    by_cases hks : k < q.sn
    · obtain ⟨n, hn⟩ : ∃ n, q.shows[k]? = some n := ⟨_, List.getElem?_eq_getElem (by have := HLen.out.2.1; omega)⟩
      have hso := hst.sho
      rw [shI_len q (by have := HLen.out.2.1; omega), ← HLen.out.2.1] at hso
      obtain ⟨g, rfl, hg⟩ := own_some hso (by omega)
      have d0 := own_cell1 hso (shI_get hn)
      have ld := lt_of_cell d0
      have hks' : (k : Int) < q.sn := by omega
      have hol := ordS_len q k
      have HN := hidp hn
      have HSo := hidp hso
      have HSt' := hidp hst
      have HRb := hidp hrb
      have HBe := hidp hbe
      clear hso hst hrb hbe hn
      go_wp2_with fail

      refine wp_region_QS (b + 2) (fun k => k == 10 || k == 13) (fun k => k == 10 || k == 11 || k == 13) (fun k => k == 8 || k == 10) (by omega) (by kernel_rfl) (by kernel_rfl) (by kernel_rfl) (by kernel_rfl) ?_
      apply qs_det (mask := []) (S := (Below (b + 2) wr)) (m := (fun w => w.heap.size)) (hS := by rfl) (hm := by rfl) (hg := by kernel_rfl) (hk := by kernel_rfl)
      · dsimp only [oblS]
        rintro w9 h9
        go_simp
        exact ⟨Below.refl _ _, rfl⟩
      dsimp only [List.nil_append, List.cons_append]
      apply qs_det (mask := [true]) (S := (Below (b + 2) wr)) (m := (fun w => w.heap.size)) (hS := by rfl) (hm := by rfl) (hg := by kernel_rfl) (hk := by kernel_rfl)
      · dsimp only [oblS]
        rintro w9 h9
        have hc9 := (bcell h9).1
        go_simp
        exact ⟨Below.refl _ _, rfl⟩
      dsimp only [List.nil_append, List.cons_append]
      apply qs_det (mask := [false, false]) (S := (Below (b + 2) wr)) (m := (fun w => w.heap.size)) (hS := by rfl) (hm := by rfl) (hg := by kernel_rfl) (hk := by kernel_rfl)
      · dsimp only [oblS]
        rintro w9 h9
        go_simp
        exact ⟨Below.refl _ _, rfl⟩
      dsimp only [List.nil_append, List.cons_append]
      apply qs_det (mask := [false, false, false]) (S := (Below (b + 2) wr)) (m := (fun w => w.heap.size)) (hS := by rfl) (hm := by rfl) (hg := by kernel_rfl) (hk := by kernel_rfl)
      · dsimp only [oblS]
        rintro w9 h9
        go_simp
        exact ⟨Below.refl _ _, rfl⟩
      dsimp only [List.nil_append, List.cons_append]
      apply qs_det (mask := [false, false, false, false]) (S := (Below (b + 2) wr)) (m := (fun w => w.heap.size)) (hS := by rfl) (hm := by rfl) (hg := by kernel_rfl) (hk := by kernel_rfl)
      · dsimp only [oblS]
        rintro w9 h9
        go_simp
        exact ⟨Below.refl _ _, rfl⟩
      dsimp only [List.nil_append, List.cons_append]
      apply qs_det (mask := [false, false, false, false, true]) (S := (Below (b + 2) wr)) (m := (fun w => w.heap.size)) (hS := by rfl) (hm := by rfl) (hg := by kernel_rfl) (hk := by kernel_rfl)
      · dsimp only [oblS]
        rintro w9 h9
        have hc9 := (bcell h9).1
        go_simp
        exact ⟨Below.refl _ _, rfl⟩
      dsimp only [List.nil_append, List.cons_append]
      apply qs_det (mask := [false, false, false, false, false, false]) (S := (Below (b + 2) wr)) (m := (fun w => w.heap.size)) (hS := by rfl) (hm := by rfl) (hg := by kernel_rfl) (hk := by kernel_rfl)
      · dsimp only [oblS]
        rintro w9 h9
        go_simp
        exact ⟨Below.refl _ _, rfl⟩
      dsimp only [List.nil_append, List.cons_append]
      apply qs_det (mask := [false, false, false, false, false, true, true]) (S := (Below (b + 2) wr)) (m := (fun w => w.heap.size)) (hS := by rfl) (hm := by rfl) (hg := by kernel_rfl) (hk := by kernel_rfl)
      · dsimp only [oblS]
        rintro w9 h9
        go_simp
        exact ⟨Below.refl _ _, rfl⟩
      dsimp only [List.nil_append, List.cons_append]
      apply qs_det (mask := [false, false, false, false, false, false, false, true]) (S := (Below wr.heap.size wr)) (m := (fun w => w.heap.size)) (hS := by rfl) (hm := by rfl) (hg := by kernel_rfl) (hk := by kernel_rfl)
      · dsimp only [oblS]
        rintro w9 h9
        have hc9 := (bcell h9).1
        go_simp
        exact ⟨Below.refl _ _, rfl⟩
      dsimp only [List.nil_append, List.cons_append]
      apply qs_det (mask := [false, false, false, false, false, false, false, false, true]) (S := (Below (b + 2) wr)) (m := (fun w => w.heap.size)) (hS := by rfl) (hm := by rfl) (hg := by kernel_rfl) (hk := by kernel_rfl)
      · dsimp only [oblS]
        rintro w9 h9
        go_simp
        exact ⟨Below.refl _ _, rfl⟩
      dsimp only [List.nil_append, List.cons_append]
      apply qs_any (mask := [false, false, false, true, false, false, false, false, false, true]) (S := (Below wr.heap.size wr)) (m := (fun _ => b + 2)) (T := fun v W => v = .agg #[.bool true, .int .i64 (plN (ordS q k) ⟨true, n⟩)] ∧ NSt b (.slice q.nA q.nn q.nc) (.slice (some ⟨g, 0, none⟩) q.sn cS) (.slice AA q.an cA) (.slice AT q.tn cT) (shI q k) (amI q 0) (teI q 0) (ordS q (k + 1)) W) (hT := fun v w w' hb h => ⟨h.1, h.2.keep hb⟩) (hf := by kernel_rfl) (hS := by rfl) (hm := by rfl) (hg := by kernel_rfl) (hk := by kernel_rfl)
      · dsimp only [oblS]
        rintro w9 h9 T' hT'
        go_simp
        refine ((HSt'.out.keep h9).place ⟨true, n⟩ (by omega)).mono ?_
        rintro e W5 ⟨rfl, h5, hb5⟩
        exact ⟨_, rfl, hb5, hT' _ _ ⟨rfl, by rw [ordS_step HN.out]; exact h5⟩⟩
      dsimp only [List.nil_append, List.cons_append]
      apply qs_any (mask := [false, false, false, false, false, false, false, false, false, false, true]) (S := (Below (b + 2) wr)) (m := (fun w => w.heap.size)) (T := fun v W => v = .int .i64 (plN (ordS q k) ⟨true, n⟩) ∧ NSt b (.slice q.nA q.nn q.nc) (.slice (some ⟨g, 0, none⟩) q.sn cS) (.slice AA q.an cA) (.slice AT q.tn cT) (shI q k) (amI q 0) (teI q 0) (ordS q (k + 1)) W) (hT := fun v w w' hb h => ⟨h.1, h.2.keep hb⟩) (hf := by kernel_rfl) (hS := by rfl) (hm := by rfl) (hg := by kernel_rfl) (hk := by kernel_rfl)
      · dsimp only [oblS]
        intro v46
        rintro w9 ⟨h9, t46⟩ T' hT'
        obtain ⟨rfl, t46⟩ := t46
        have T46 := hidp t46
        clear t46
        go_simp
        exact ⟨Below.refl _ _, hT' _ _ ⟨rfl, T46.out⟩⟩
      dsimp only [List.nil_append, List.cons_append]
      apply qs_det (mask := [false, true, true, false, false, false, false, false, false, false, false, false]) (S := (Below (b + 2) wr)) (m := (fun w => w.heap.size)) (hS := by rfl) (hm := by rfl) (hg := by kernel_rfl) (hk := by kernel_rfl)
      · dsimp only [oblS]
        rintro w9 h9
        go_simp
        exact ⟨Below.refl _ _, rfl⟩
      dsimp only [List.nil_append, List.cons_append]
      apply qs_any (mask := [false, false, false, false, false, false, false, false, false, false, false, true, true]) (S := (Below (b + 2) wr)) (m := (fun _ => b + 2)) (T := fun _ W => NSt b (.slice q.nA q.nn q.nc) (.slice (some ⟨g, 0, none⟩) q.sn cS) (.slice AA q.an cA) (.slice AT q.tn cT) (shI q (k + 1)) (amI q 0) (teI q 0) (ordS q (k + 1)) W) (hT := fun v w w' hb h => h.keep hb) (hf := by kernel_rfl) (hS := by rfl) (hm := by rfl) (hg := by kernel_rfl) (hk := by kernel_rfl)
      · dsimp only [oblS]
        intro v47
        rintro w9 ⟨h9, t47⟩ T' hT'
        obtain ⟨rfl, t47⟩ := t47
        have hs5 := t47.sho
        rw [shI_len q (by have := HLen.out.2.1; omega), ← HLen.out.2.1] at hs5
        have d5 := own_cell1 hs5 (shI_get HN.out)
        have f5 := own_free hs5 (o := k)
        have l5 := lt_of_cell d5
        have T47 := hidp t47
        clear t47 hs5
        go_simp
        exact ⟨(Below.refl _ _).setCell (p := ⟨g, k, none⟩) hg _, hT' _ _ (NSt.setShow HN.out T47.out)⟩
      dsimp only [List.nil_append, List.cons_append]
      refine qs_end [false, false, false, false, false, false, false, false, false, false, true, true, false, false] (by kernel_rfl) (by kernel_rfl) ?_
      dsimp only [finQ]
      -- rintro v46 v47 vn13 w8 ⟨hb, tn13⟩
      rintro v46 v47 vn13 w8 ⟨hb8, t13⟩
      have hB8 := HBe.out.trans (hb8.mono (by omega))
      have hR8 := HRb.out.keep hb8
      have H13 := hidp t13
      clear t13 hb8
      go_wp2_with fail
      go_roundw
      case rel => exact ⟨k + 1, by omega, by go_num, H13.out, hR8, hB8⟩
      case measure => simp [intOf]; omega
    · obtain rfl : k = q.sn := by omega
      have hkk : ¬ ((q.sn : Int) < q.sn) := by omega
      have HS2 : Hid (NSt b (.slice q.nA q.nn q.nc) (.slice AS q.sn cS) (.slice AA q.an cA) (.slice AT q.tn cT) (shI q q.sn) (amI q 0) (teI q 0) (ordA q 0) wr) := by
        show NSt _ _ _ _ _ _ _ _ _ _
        rw [ordA_zero, ← HLen.out.2.1]; exact hst
      have HR2 := hidp hrb
      have HB2 := hidp hbe
      clear hst hrb hbe
      go_wp2_with fail
      clear xb lb hbz
      go_loopw [7] (fun i wr => ∃ k : Nat, k ≤ q.an ∧ i = .int .i64 k ∧ NSt b (.slice q.nA q.nn q.nc) (.slice AS q.sn cS) (.slice AA q.an cA) (.slice AT q.tn cT) (shI q q.sn) (amI q k) (teI q 0) (ordA q k) wr ∧ RBox b wr ∧ Below b w wr) (fun i _ => q.an - (intOf i).toNat)
      case atStart => exact ⟨0, by omega, rfl, HS2.out, HR2.out, HB2.out⟩
      case round =>
        clear HS2 HR2 HB2
        obtain ⟨k, hk, rfl, hst, hrb, hbe⟩ := hrel
        rename World => wq
        have hbz : b + 4 ≤ wq.heap.size := by obtain ⟨v, h1, _⟩ := hst.ord; have := lt_of_heap h1; omega
        have xb := cell_of_heap (o := 2) hst.box
        simp only [List.getElem?_toArray, List.getElem?_cons_zero, List.getElem?_cons_succ] at xb
        have lb := lt_of_cell xb
        by_cases hks : k < q.an
        · obtain ⟨a, hn⟩ : ∃ a, q.atoms[k]? = some a := ⟨_, List.getElem?_eq_getElem (by have := HLen.out.2.2.1; omega)⟩
          have hao := hst.ato
          rw [amI_len q (by have := HLen.out.2.2.1; omega), ← HLen.out.2.2.1] at hao
          obtain ⟨g, rfl, hg⟩ := own_some hao (by omega)
          have hks' : (k : Int) < q.an := by omega
          have hol := ordA_len q k
          obtain ⟨a1, ha1⟩ : ∃ a1 : Am, a1 = ⟨a.kind, ⟨a.s.var, plN (ordA q k) a.s⟩, a.o, a.v, a.term, a.known⟩ := ⟨_, rfl⟩
          obtain ⟨a2, ha2⟩ : ∃ a2 : Am, a2 = ⟨a.kind, ⟨a.s.var, plN (ordA q k) a.s⟩, ⟨a.o.var, plN (plO (ordA q k) a.s) a.o⟩, a.v, a.term, a.known⟩ := ⟨_, rfl⟩
          obtain ⟨a3, ha3⟩ : ∃ a3 : Am, a3 = ⟨a.kind, ⟨a.s.var, plN (ordA q k) a.s⟩, ⟨a.o.var, plN (plO (ordA q k) a.s) a.o⟩, ⟨a.v.var, plN (plO (plO (ordA q k) a.s) a.o) a.v⟩, a.term, a.known⟩ := ⟨_, rfl⟩
          have HEnd : Hid ((amI q k).set k a3 = amI q (k + 1)) := amI_step hn (by rw [ha3]; exact renM_parts hn)
          have HOrd : Hid (ordA q (k + 1) = plO (plO (plO (ordA q k) a.s) a.o) a.v) := ordA_step hn
          have HG0 : Hid ((amI q k)[k]? = some a) := amI_get hn
          have hkl : k < (amI q k).length := (List.getElem?_eq_some_iff.1 HG0.out).1
          have HG1 : Hid (((amI q k).set k a1)[k]? = some a1) := List.getElem?_set_self hkl
          have HG2 : Hid (((amI q k).set k a2)[k]? = some a2) := List.getElem?_set_self hkl
          have HL0 : Hid ((plO (ordA q k) a.s).length ≤ 900 ∧ (plO (plO (ordA q k) a.s) a.o).length ≤ 900 ∧ (ordA q k).length ≤ 900) := by
            have h1 := plO_len (ordA q k) a.s
            have h2 := plO_len (plO (ordA q k) a.s) a.o
            exact ⟨by omega, by omega, by omega⟩
          have HA1 := hidp ha1
          have HA2 := hidp ha2
          have HA3 := hidp ha3
          have HN := hidp hn
          have HSt' := hidp hst
          have HRb := hidp hrb
          have HBe := hidp hbe
          have hOwn : Hid (∀ (am : List Am) (O : List Int) (W : World), NSt b (.slice q.nA q.nn q.nc) (.slice AS q.sn cS) (.slice (some ⟨g, 0, none⟩) q.an cA) (.slice AT q.tn cT) (shI q q.sn) am (teI q 0) O W → W.ownsRow (b + 2) 46 9 (.slice (some ⟨g, 0, none⟩) q.an cA) q.an (am.flatMap amEnc)) := fun am O W h => by
            have h2 := h.ato
            rwa [← own_eqlen h2] at h2
          have d1 := own_cell amEnc_len hao HG0.out (j := 1) rfl
          have d2 := own_cell amEnc_len hao HG0.out (j := 2) rfl
          have ld := lt_of_cell d1
          clear hao hst hrb hbe hn ha1 ha2 ha3
          go_wp2_with fail

          refine wp_region_QS (b + 2) (fun k => k == 10 || k == 13) (fun k => k == 10 || k == 13) (fun k => k == 9 || k == 10) (by omega) (by kernel_rfl) (by kernel_rfl) (by kernel_rfl) (by kernel_rfl) ?_
          apply qs_det (mask := []) (S := (Below (b + 2) wq)) (m := (fun w => w.heap.size)) (hS := by rfl) (hm := by rfl) (hg := by kernel_rfl) (hk := by kernel_rfl)
          · dsimp only [oblS]
            rintro w9 h9
            go_simp
            exact ⟨Below.refl _ _, rfl⟩
          dsimp only [List.nil_append, List.cons_append]
          apply qs_det (mask := [true]) (S := (Below (b + 2) wq)) (m := (fun w => w.heap.size)) (hS := by rfl) (hm := by rfl) (hg := by kernel_rfl) (hk := by kernel_rfl)
          · dsimp only [oblS]
            rintro w9 h9
            have hc9 := (bcell h9).1
            go_simp
            exact ⟨Below.refl _ _, rfl⟩
          dsimp only [List.nil_append, List.cons_append]
          apply qs_det (mask := [false, false]) (S := (Below (b + 2) wq)) (m := (fun w => w.heap.size)) (hS := by rfl) (hm := by rfl) (hg := by kernel_rfl) (hk := by kernel_rfl)
          · dsimp only [oblS]
            rintro w9 h9
            go_simp
            exact ⟨Below.refl _ _, rfl⟩
          dsimp only [List.nil_append, List.cons_append]
          apply qs_det (mask := [false, false, false]) (S := (Below (b + 2) wq)) (m := (fun w => w.heap.size)) (hS := by rfl) (hm := by rfl) (hg := by kernel_rfl) (hk := by kernel_rfl)
          · dsimp only [oblS]
            rintro w9 h9
            go_simp
            exact ⟨Below.refl _ _, rfl⟩
          dsimp only [List.nil_append, List.cons_append]
          apply qs_det (mask := [false, false, false, false]) (S := (Below (b + 2) wq)) (m := (fun w => w.heap.size)) (hS := by rfl) (hm := by rfl) (hg := by kernel_rfl) (hk := by kernel_rfl)
          · dsimp only [oblS]
            rintro w9 h9
            go_simp
            exact ⟨Below.refl _ _, rfl⟩
          dsimp only [List.nil_append, List.cons_append]
          apply qs_det (mask := [false, false, false, false, true]) (S := (Below (b + 2) wq)) (m := (fun w => w.heap.size)) (hS := by rfl) (hm := by rfl) (hg := by kernel_rfl) (hk := by kernel_rfl)
          · dsimp only [oblS]
            rintro w9 h9
            have hc9 := (bcell h9).1
            go_simp
            exact ⟨Below.refl _ _, rfl⟩
          dsimp only [List.nil_append, List.cons_append]
          apply qs_det (mask := [false, false, false, false, false, false]) (S := (Below (b + 2) wq)) (m := (fun w => w.heap.size)) (hS := by rfl) (hm := by rfl) (hg := by kernel_rfl) (hk := by kernel_rfl)
          · dsimp only [oblS]
            rintro w9 h9
            go_simp
            exact ⟨Below.refl _ _, rfl⟩
          dsimp only [List.nil_append, List.cons_append]
          apply qs_det (mask := [false, false, false, false, false, true, true]) (S := (Below (b + 2) wq)) (m := (fun w => w.heap.size)) (hS := by rfl) (hm := by rfl) (hg := by kernel_rfl) (hk := by kernel_rfl)
          · dsimp only [oblS]
            rintro w9 h9
            go_simp
            exact ⟨Below.refl _ _, rfl⟩
          dsimp only [List.nil_append, List.cons_append]
          apply qs_det (mask := [false, false, false, false, false, false, false, true]) (S := (Below (b + 2) wq)) (m := (fun w => w.heap.size)) (hS := by rfl) (hm := by rfl) (hg := by kernel_rfl) (hk := by kernel_rfl)
          · dsimp only [oblS]
            rintro w9 h9
            go_simp
            exact ⟨Below.refl _ _, rfl⟩
          dsimp only [List.nil_append, List.cons_append]
          apply qs_det (mask := [false, false, false, false, false, false, false, false, true]) (S := (Below wq.heap.size wq)) (m := (fun w => w.heap.size)) (hS := by rfl) (hm := by rfl) (hg := by kernel_rfl) (hk := by kernel_rfl)
          · dsimp only [oblS]
            rintro w9 h9
            have hc9 := (bcell h9).1
            go_simp
            exact ⟨Below.refl _ _, rfl⟩
          dsimp only [List.nil_append, List.cons_append]
          apply qs_any (mask := [false, false, false, true, false, false, false, false, false, true]) (S := (Below wq.heap.size wq)) (m := (fun _ => b + 2)) (T := fun v W => v = .agg #[.bool a.s.var, .int .i64 (plN (ordA q k) a.s)] ∧ NSt b (.slice q.nA q.nn q.nc) (.slice AS q.sn cS) (.slice (some ⟨g, 0, none⟩) q.an cA) (.slice AT q.tn cT) (shI q q.sn) (amI q k) (teI q 0) (plO (ordA q k) a.s) W) (hT := fun v w w' hb h => ⟨h.1, h.2.keep hb⟩) (hf := by kernel_rfl) (hS := by rfl) (hm := by rfl) (hg := by kernel_rfl) (hk := by kernel_rfl)
          · dsimp only [oblS]
            rintro w9 h9 T' hT'
            go_simp
            refine ((HSt'.out.keep h9).place a.s (by have := HL0.out; omega)).mono ?_
            rintro e W5 ⟨rfl, h5, hb5⟩
            exact ⟨_, rfl, hb5, hT' _ _ ⟨rfl, h5⟩⟩
          dsimp only [List.nil_append, List.cons_append]
          apply qs_det (mask := [false, true, true, false, false, false, false, false, false, false, false]) (S := (Below (b + 2) wq)) (m := (fun w => w.heap.size)) (hS := by rfl) (hm := by rfl) (hg := by kernel_rfl) (hk := by kernel_rfl)
          · dsimp only [oblS]
            rintro w9 h9
            go_simp
            exact ⟨Below.refl _ _, rfl⟩
          dsimp only [List.nil_append, List.cons_append]
          apply qs_det (mask := [false, false, false, false, false, false, false, false, false, false, false, true]) (S := (Below (b + 2) wq)) (m := (fun w => w.heap.size)) (hS := by rfl) (hm := by rfl) (hg := by kernel_rfl) (hk := by kernel_rfl)
          · dsimp only [oblS]
            rintro w9 h9
            go_simp
            exact ⟨Below.refl _ _, rfl⟩
          dsimp only [List.nil_append, List.cons_append]
          apply qs_any (mask := [false, false, false, false, false, false, false, false, false, false, true, false, true]) (S := (Below (b + 2) wq)) (m := (fun _ => b + 2)) (T := fun _ W => NSt b (.slice q.nA q.nn q.nc) (.slice AS q.sn cS) (.slice (some ⟨g, 0, none⟩) q.an cA) (.slice AT q.tn cT) (shI q q.sn) ((amI q k).set k a1) (teI q 0) (plO (ordA q k) a.s) W) (hT := fun v w w' hb h => h.keep hb) (hf := by kernel_rfl) (hS := by rfl) (hm := by rfl) (hg := by kernel_rfl) (hk := by kernel_rfl)
          · dsimp only [oblS]
            intro v66
            rintro w9 ⟨h9, t66⟩ T' hT'
            have e5 := t66.1
            have t5 := t66.2
            subst e5
            have hs5 := hOwn.out _ _ _ t5
            have d5 := own_cell amEnc_len hs5 HG0.out (j := 1) rfl
            have d6 := own_cell amEnc_len hs5 HG0.out (j := 2) rfl
            have f5 := own_free hs5 (o := k * 9 + 1)
            have f6 := own_free hs5 (o := k * 9 + 2)
            have l5 := lt_of_cell d5
            have T5 := hidp t5
            clear t5 hs5
            go_simp
            have h6 := T5.out.setArg (i := k) (j := 1) (x := a) (y := a1) (vr := a.s.var) (n := plN (ordA q k) a.s) HG0.out (by decide) (by rfl) (by rw [HA1.out]; rfl)
            exact ⟨((Below.refl _ _).setCell (p := ⟨g, k * 9 + 1, none⟩) hg _).setCell (p := ⟨g, k * 9 + 2, none⟩) hg _, hT' _ _ h6⟩
          dsimp only [List.nil_append, List.cons_append]
          refine qs_end [false, false, false, false, false, false, false, false, false, false, true, false, false, false] (by kernel_rfl) (by kernel_rfl) ?_
          dsimp only [finQ]
          -- rintro v66 vn13 w8 ⟨hb, tn13⟩
          rintro v66 vn13 w8 ⟨hb8, t13⟩
          have hB8 := HBe.out.trans (hb8.mono (by omega))
          have hR8 := HRb.out.keep hb8
          clear HSt' HRb HBe xb lb hbz
          have HSt' := hidp t13
          have HRb := hidp hR8
          have HBe := hidp hB8
          clear t13 hb8 hR8 hB8
          have hbz : b + 4 ≤ w8.heap.size := by obtain ⟨v, h1, _⟩ := HSt'.out.ord; have := lt_of_heap h1; omega
          have xb := cell_of_heap (o := 2) HSt'.out.box
          simp only [List.getElem?_toArray, List.getElem?_cons_zero, List.getElem?_cons_succ] at xb
          have lb := lt_of_cell xb
          have d1 := own_cell amEnc_len (hOwn.out _ _ _ HSt'.out) HG1.out (j := 3) (u := .bool a.o.var) (by rw [HA1.out]; rfl)
          have d2 := own_cell amEnc_len (hOwn.out _ _ _ HSt'.out) HG1.out (j := 4) (u := .int .i64 a.o.n) (by rw [HA1.out]; rfl)
          have ld := lt_of_cell d1
          go_wp2_with fail
          refine wp_region_QS (b + 2) (fun k => k == 10 || k == 13) (fun k => k == 10 || k == 13) (fun k => k == 9 || k == 10) (by omega) (by kernel_rfl) (by kernel_rfl) (by kernel_rfl) (by kernel_rfl) ?_
          apply qs_det (mask := []) (S := (Below (b + 2) w8)) (m := (fun w => w.heap.size)) (hS := by rfl) (hm := by rfl) (hg := by kernel_rfl) (hk := by kernel_rfl)
          · dsimp only [oblS]
            rintro w9 h9
            go_simp
            exact ⟨Below.refl _ _, rfl⟩
          dsimp only [List.nil_append, List.cons_append]
          apply qs_det (mask := [true]) (S := (Below (b + 2) w8)) (m := (fun w => w.heap.size)) (hS := by rfl) (hm := by rfl) (hg := by kernel_rfl) (hk := by kernel_rfl)
          · dsimp only [oblS]
            rintro w9 h9
            have hc9 := (bcell h9).1
            go_simp
            exact ⟨Below.refl _ _, rfl⟩
          dsimp only [List.nil_append, List.cons_append]
          apply qs_det (mask := [false, false]) (S := (Below (b + 2) w8)) (m := (fun w => w.heap.size)) (hS := by rfl) (hm := by rfl) (hg := by kernel_rfl) (hk := by kernel_rfl)
          · dsimp only [oblS]
            rintro w9 h9
            go_simp
            exact ⟨Below.refl _ _, rfl⟩
          dsimp only [List.nil_append, List.cons_append]
          apply qs_det (mask := [false, false, false]) (S := (Below (b + 2) w8)) (m := (fun w => w.heap.size)) (hS := by rfl) (hm := by rfl) (hg := by kernel_rfl) (hk := by kernel_rfl)
          · dsimp only [oblS]
            rintro w9 h9
            go_simp
            exact ⟨Below.refl _ _, rfl⟩
          dsimp only [List.nil_append, List.cons_append]
          apply qs_det (mask := [false, false, false, false]) (S := (Below (b + 2) w8)) (m := (fun w => w.heap.size)) (hS := by rfl) (hm := by rfl) (hg := by kernel_rfl) (hk := by kernel_rfl)
          · dsimp only [oblS]
            rintro w9 h9
            go_simp
            exact ⟨Below.refl _ _, rfl⟩
          dsimp only [List.nil_append, List.cons_append]
          apply qs_det (mask := [false, false, false, false, true]) (S := (Below (b + 2) w8)) (m := (fun w => w.heap.size)) (hS := by rfl) (hm := by rfl) (hg := by kernel_rfl) (hk := by kernel_rfl)
          · dsimp only [oblS]
            rintro w9 h9
            have hc9 := (bcell h9).1
            go_simp
            exact ⟨Below.refl _ _, rfl⟩
          dsimp only [List.nil_append, List.cons_append]
          apply qs_det (mask := [false, false, false, false, false, false]) (S := (Below (b + 2) w8)) (m := (fun w => w.heap.size)) (hS := by rfl) (hm := by rfl) (hg := by kernel_rfl) (hk := by kernel_rfl)
          · dsimp only [oblS]
            rintro w9 h9
            go_simp
            exact ⟨Below.refl _ _, rfl⟩
          dsimp only [List.nil_append, List.cons_append]
          apply qs_det (mask := [false, false, false, false, false, true, true]) (S := (Below (b + 2) w8)) (m := (fun w => w.heap.size)) (hS := by rfl) (hm := by rfl) (hg := by kernel_rfl) (hk := by kernel_rfl)
          · dsimp only [oblS]
            rintro w9 h9
            go_simp
            exact ⟨Below.refl _ _, rfl⟩
          dsimp only [List.nil_append, List.cons_append]
          apply qs_det (mask := [false, false, false, false, false, false, false, true]) (S := (Below (b + 2) w8)) (m := (fun w => w.heap.size)) (hS := by rfl) (hm := by rfl) (hg := by kernel_rfl) (hk := by kernel_rfl)
          · dsimp only [oblS]
            rintro w9 h9
            go_simp
            exact ⟨Below.refl _ _, rfl⟩
          dsimp only [List.nil_append, List.cons_append]
          apply qs_det (mask := [false, false, false, false, false, false, false, false, true]) (S := (Below w8.heap.size w8)) (m := (fun w => w.heap.size)) (hS := by rfl) (hm := by rfl) (hg := by kernel_rfl) (hk := by kernel_rfl)
          · dsimp only [oblS]
            rintro w9 h9
            have hc9 := (bcell h9).1
            go_simp
            exact ⟨Below.refl _ _, rfl⟩
          dsimp only [List.nil_append, List.cons_append]
          apply qs_any (mask := [false, false, false, true, false, false, false, false, false, true]) (S := (Below w8.heap.size w8)) (m := (fun _ => b + 2)) (T := fun v W => v = .agg #[.bool a.o.var, .int .i64 (plN (plO (ordA q k) a.s) a.o)] ∧ NSt b (.slice q.nA q.nn q.nc) (.slice AS q.sn cS) (.slice (some ⟨g, 0, none⟩) q.an cA) (.slice AT q.tn cT) (shI q q.sn) ((amI q k).set k a1) (teI q 0) (plO (plO (ordA q k) a.s) a.o) W) (hT := fun v w w' hb h => ⟨h.1, h.2.keep hb⟩) (hf := by kernel_rfl) (hS := by rfl) (hm := by rfl) (hg := by kernel_rfl) (hk := by kernel_rfl)
          · dsimp only [oblS]
            rintro w9 h9 T' hT'
            go_simp
            refine ((HSt'.out.keep h9).place a.o (by have := HL0.out; omega)).mono ?_
            rintro e W5 ⟨rfl, h5, hb5⟩
            exact ⟨_, rfl, hb5, hT' _ _ ⟨rfl, h5⟩⟩
          dsimp only [List.nil_append, List.cons_append]
          apply qs_det (mask := [false, true, true, false, false, false, false, false, false, false, false]) (S := (Below (b + 2) w8)) (m := (fun w => w.heap.size)) (hS := by rfl) (hm := by rfl) (hg := by kernel_rfl) (hk := by kernel_rfl)
          · dsimp only [oblS]
            rintro w9 h9
            go_simp
            exact ⟨Below.refl _ _, rfl⟩
          dsimp only [List.nil_append, List.cons_append]
          apply qs_det (mask := [false, false, false, false, false, false, false, false, false, false, false, true]) (S := (Below (b + 2) w8)) (m := (fun w => w.heap.size)) (hS := by rfl) (hm := by rfl) (hg := by kernel_rfl) (hk := by kernel_rfl)
          · dsimp only [oblS]
            rintro w9 h9
            go_simp
            exact ⟨Below.refl _ _, rfl⟩
          dsimp only [List.nil_append, List.cons_append]
          apply qs_any (mask := [false, false, false, false, false, false, false, false, false, false, true, false, true]) (S := (Below (b + 2) w8)) (m := (fun _ => b + 2)) (T := fun _ W => NSt b (.slice q.nA q.nn q.nc) (.slice AS q.sn cS) (.slice (some ⟨g, 0, none⟩) q.an cA) (.slice AT q.tn cT) (shI q q.sn) ((amI q k).set k a2) (teI q 0) (plO (plO (ordA q k) a.s) a.o) W) (hT := fun v w w' hb h => h.keep hb) (hf := by kernel_rfl) (hS := by rfl) (hm := by rfl) (hg := by kernel_rfl) (hk := by kernel_rfl)
          · dsimp only [oblS]
            intro v79
            rintro w9 ⟨h9, t79⟩ T' hT'
            have e5 := t79.1
            have t5 := t79.2
            subst e5
            have hs5 := hOwn.out _ _ _ t5
            have d5 := own_cell amEnc_len hs5 HG1.out (j := 3) rfl
            have d6 := own_cell amEnc_len hs5 HG1.out (j := 4) rfl
            have f5 := own_free hs5 (o := k * 9 + 3)
            have f6 := own_free hs5 (o := k * 9 + 4)
            have l5 := lt_of_cell d5
            have T5 := hidp t5
            clear t5 hs5
            go_simp
            have h6 := T5.out.setArg (i := k) (j := 3) (x := a1) (y := a2) (vr := a.o.var) (n := plN (plO (ordA q k) a.s) a.o) HG1.out (by decide) (by rw [HA1.out]; rfl) (by rw [HA2.out, HA1.out]; rfl)
            exact ⟨((Below.refl _ _).setCell (p := ⟨g, k * 9 + 3, none⟩) hg _).setCell (p := ⟨g, k * 9 + 4, none⟩) hg _, hT' _ _ (by rw [List.set_set] at h6; exact h6)⟩
          dsimp only [List.nil_append, List.cons_append]
          refine qs_end [false, false, false, false, false, false, false, false, false, false, true, false, false, false] (by kernel_rfl) (by kernel_rfl) ?_
          dsimp only [finQ]
          -- rintro v79 vn13 w8 ⟨hb, tn13⟩
          rintro v79 vn13 w9b ⟨hb8, t13⟩
          have hB8 := HBe.out.trans (hb8.mono (by omega))
          have hR8 := HRb.out.keep hb8
          clear HSt' HRb HBe xb lb hbz
          have HSt' := hidp t13
          have HRb := hidp hR8
          have HBe := hidp hB8
          clear t13 hb8 hR8 hB8
          have hbz : b + 4 ≤ w9b.heap.size := by obtain ⟨v, h1, _⟩ := HSt'.out.ord; have := lt_of_heap h1; omega
          have xb := cell_of_heap (o := 2) HSt'.out.box
          simp only [List.getElem?_toArray, List.getElem?_cons_zero, List.getElem?_cons_succ] at xb
          have lb := lt_of_cell xb
          have d1 := own_cell amEnc_len (hOwn.out _ _ _ HSt'.out) HG2.out (j := 5) (u := .bool a.v.var) (by rw [HA2.out]; rfl)
          have d2 := own_cell amEnc_len (hOwn.out _ _ _ HSt'.out) HG2.out (j := 6) (u := .int .i64 a.v.n) (by rw [HA2.out]; rfl)
          have ld := lt_of_cell d1
          go_wp2_with fail
          refine wp_region_QS (b + 2) (fun k => k == 10 || k == 13) (fun k => k == 10 || k == 13) (fun k => k == 9 || k == 10) (by omega) (by kernel_rfl) (by kernel_rfl) (by kernel_rfl) (by kernel_rfl) ?_
          apply qs_det (mask := []) (S := (Below (b + 2) w9b)) (m := (fun w => w.heap.size)) (hS := by rfl) (hm := by rfl) (hg := by kernel_rfl) (hk := by kernel_rfl)
          · dsimp only [oblS]
            rintro w9 h9
            go_simp
            exact ⟨Below.refl _ _, rfl⟩
          dsimp only [List.nil_append, List.cons_append]
          apply qs_det (mask := [true]) (S := (Below (b + 2) w9b)) (m := (fun w => w.heap.size)) (hS := by rfl) (hm := by rfl) (hg := by kernel_rfl) (hk := by kernel_rfl)
          · dsimp only [oblS]
            rintro w9 h9
            have hc9 := (bcell h9).1
            go_simp
            exact ⟨Below.refl _ _, rfl⟩
          dsimp only [List.nil_append, List.cons_append]
          apply qs_det (mask := [false, false]) (S := (Below (b + 2) w9b)) (m := (fun w => w.heap.size)) (hS := by rfl) (hm := by rfl) (hg := by kernel_rfl) (hk := by kernel_rfl)
          · dsimp only [oblS]
            rintro w9 h9
            go_simp
            exact ⟨Below.refl _ _, rfl⟩
          dsimp only [List.nil_append, List.cons_append]
          apply qs_det (mask := [false, false, false]) (S := (Below (b + 2) w9b)) (m := (fun w => w.heap.size)) (hS := by rfl) (hm := by rfl) (hg := by kernel_rfl) (hk := by kernel_rfl)
          · dsimp only [oblS]
            rintro w9 h9
            go_simp
            exact ⟨Below.refl _ _, rfl⟩
          dsimp only [List.nil_append, List.cons_append]
          apply qs_det (mask := [false, false, false, false]) (S := (Below (b + 2) w9b)) (m := (fun w => w.heap.size)) (hS := by rfl) (hm := by rfl) (hg := by kernel_rfl) (hk := by kernel_rfl)
          · dsimp only [oblS]
            rintro w9 h9
            go_simp
            exact ⟨Below.refl _ _, rfl⟩
          dsimp only [List.nil_append, List.cons_append]
          apply qs_det (mask := [false, false, false, false, true]) (S := (Below (b + 2) w9b)) (m := (fun w => w.heap.size)) (hS := by rfl) (hm := by rfl) (hg := by kernel_rfl) (hk := by kernel_rfl)
          · dsimp only [oblS]
            rintro w9 h9
            have hc9 := (bcell h9).1
            go_simp
            exact ⟨Below.refl _ _, rfl⟩
          dsimp only [List.nil_append, List.cons_append]
          apply qs_det (mask := [false, false, false, false, false, false]) (S := (Below (b + 2) w9b)) (m := (fun w => w.heap.size)) (hS := by rfl) (hm := by rfl) (hg := by kernel_rfl) (hk := by kernel_rfl)
          · dsimp only [oblS]
            rintro w9 h9
            go_simp
            exact ⟨Below.refl _ _, rfl⟩
          dsimp only [List.nil_append, List.cons_append]
          apply qs_det (mask := [false, false, false, false, false, true, true]) (S := (Below (b + 2) w9b)) (m := (fun w => w.heap.size)) (hS := by rfl) (hm := by rfl) (hg := by kernel_rfl) (hk := by kernel_rfl)
          · dsimp only [oblS]
            rintro w9 h9
            go_simp
            exact ⟨Below.refl _ _, rfl⟩
          dsimp only [List.nil_append, List.cons_append]
          apply qs_det (mask := [false, false, false, false, false, false, false, true]) (S := (Below (b + 2) w9b)) (m := (fun w => w.heap.size)) (hS := by rfl) (hm := by rfl) (hg := by kernel_rfl) (hk := by kernel_rfl)
          · dsimp only [oblS]
            rintro w9 h9
            go_simp
            exact ⟨Below.refl _ _, rfl⟩
          dsimp only [List.nil_append, List.cons_append]
          apply qs_det (mask := [false, false, false, false, false, false, false, false, true]) (S := (Below w9b.heap.size w9b)) (m := (fun w => w.heap.size)) (hS := by rfl) (hm := by rfl) (hg := by kernel_rfl) (hk := by kernel_rfl)
          · dsimp only [oblS]
            rintro w9 h9
            have hc9 := (bcell h9).1
            go_simp
            exact ⟨Below.refl _ _, rfl⟩
          dsimp only [List.nil_append, List.cons_append]
          apply qs_any (mask := [false, false, false, true, false, false, false, false, false, true]) (S := (Below w9b.heap.size w9b)) (m := (fun _ => b + 2)) (T := fun v W => v = .agg #[.bool a.v.var, .int .i64 (plN (plO (plO (ordA q k) a.s) a.o) a.v)] ∧ NSt b (.slice q.nA q.nn q.nc) (.slice AS q.sn cS) (.slice (some ⟨g, 0, none⟩) q.an cA) (.slice AT q.tn cT) (shI q q.sn) ((amI q k).set k a2) (teI q 0) (plO (plO (plO (ordA q k) a.s) a.o) a.v) W) (hT := fun v w w' hb h => ⟨h.1, h.2.keep hb⟩) (hf := by kernel_rfl) (hS := by rfl) (hm := by rfl) (hg := by kernel_rfl) (hk := by kernel_rfl)
          · dsimp only [oblS]
            rintro w9 h9 T' hT'
            go_simp
            refine ((HSt'.out.keep h9).place a.v (by have := HL0.out; omega)).mono ?_
            rintro e W5 ⟨rfl, h5, hb5⟩
            exact ⟨_, rfl, hb5, hT' _ _ ⟨rfl, h5⟩⟩
          dsimp only [List.nil_append, List.cons_append]
          apply qs_det (mask := [false, true, true, false, false, false, false, false, false, false, false]) (S := (Below (b + 2) w9b)) (m := (fun w => w.heap.size)) (hS := by rfl) (hm := by rfl) (hg := by kernel_rfl) (hk := by kernel_rfl)
          · dsimp only [oblS]
            rintro w9 h9
            go_simp
            exact ⟨Below.refl _ _, rfl⟩
          dsimp only [List.nil_append, List.cons_append]
          apply qs_det (mask := [false, false, false, false, false, false, false, false, false, false, false, true]) (S := (Below (b + 2) w9b)) (m := (fun w => w.heap.size)) (hS := by rfl) (hm := by rfl) (hg := by kernel_rfl) (hk := by kernel_rfl)
          · dsimp only [oblS]
            rintro w9 h9
            go_simp
            exact ⟨Below.refl _ _, rfl⟩
          dsimp only [List.nil_append, List.cons_append]
          apply qs_any (mask := [false, false, false, false, false, false, false, false, false, false, true, false, true]) (S := (Below (b + 2) w9b)) (m := (fun _ => b + 2)) (T := fun _ W => NSt b (.slice q.nA q.nn q.nc) (.slice AS q.sn cS) (.slice (some ⟨g, 0, none⟩) q.an cA) (.slice AT q.tn cT) (shI q q.sn) ((amI q k).set k a3) (teI q 0) (plO (plO (plO (ordA q k) a.s) a.o) a.v) W) (hT := fun v w w' hb h => h.keep hb) (hf := by kernel_rfl) (hS := by rfl) (hm := by rfl) (hg := by kernel_rfl) (hk := by kernel_rfl)
          · dsimp only [oblS]
            intro v92
            rintro w9 ⟨h9, t92⟩ T' hT'
            have e5 := t92.1
            have t5 := t92.2
            subst e5
            have hs5 := hOwn.out _ _ _ t5
            have d5 := own_cell amEnc_len hs5 HG2.out (j := 5) rfl
            have d6 := own_cell amEnc_len hs5 HG2.out (j := 6) rfl
            have f5 := own_free hs5 (o := k * 9 + 5)
            have f6 := own_free hs5 (o := k * 9 + 6)
            have l5 := lt_of_cell d5
            have T5 := hidp t5
            clear t5 hs5
            go_simp
            have h6 := T5.out.setArg (i := k) (j := 5) (x := a2) (y := a3) (vr := a.v.var) (n := plN (plO (plO (ordA q k) a.s) a.o) a.v) HG2.out (by decide) (by rw [HA2.out]; rfl) (by rw [HA3.out, HA2.out]; rfl)
            exact ⟨((Below.refl _ _).setCell (p := ⟨g, k * 9 + 5, none⟩) hg _).setCell (p := ⟨g, k * 9 + 6, none⟩) hg _, hT' _ _ (by rw [List.set_set] at h6; exact h6)⟩
          dsimp only [List.nil_append, List.cons_append]
          refine qs_end [false, false, false, false, false, false, false, false, false, false, true, false, false, false] (by kernel_rfl) (by kernel_rfl) ?_
          dsimp only [finQ]
          -- rintro v92 vn13 w8 ⟨hb, tn13⟩
          rintro v92 vn13 w10 ⟨hb8, t13⟩
          have hB8 := HBe.out.trans (hb8.mono (by omega))
          have hR8 := HRb.out.keep hb8
          clear HSt' HRb HBe xb lb hbz
          have HSt' := hidp t13
          have HRb := hidp hR8
          have HBe := hidp hB8
          clear t13 hb8 hR8 hB8
          rw [HEnd.out, ← HOrd.out] at HSt'
          go_wp2_with fail
          go_roundw
          case rel => exact ⟨k + 1, by omega, by go_num, HSt'.out, HRb.out, HBe.out⟩
          case measure => simp [intOf]; omega
        · obtain rfl : k = q.an := by omega
          have hkk : ¬ ((q.an : Int) < q.an) := by omega
          have HS2 : Hid (NSt b (.slice q.nA q.nn q.nc) (.slice AS q.sn cS) (.slice AA q.an cA) (.slice AT q.tn cT) (shI q q.sn) (amI q q.an) (teI q 0) (ordT q 0) wq) := by
            show NSt _ _ _ _ _ _ _ _ _ _
            rw [ordT_zero, ← HLen.out.2.2.1]; exact hst
          have HR2 := hidp hrb
          have HB2 := hidp hbe
          clear hst hrb hbe
          go_wp2_with fail
          clear xb lb hbz
          go_loopw [8] (fun i wr => ∃ k : Nat, k ≤ q.tn ∧ i = .int .i64 k ∧ NSt b (.slice q.nA q.nn q.nc) (.slice AS q.sn cS) (.slice AA q.an cA) (.slice AT q.tn cT) (shI q q.sn) (amI q q.an) (teI q k) (ordT q k) wr ∧ RBox b wr ∧ Below b w wr) (fun i _ => q.tn - (intOf i).toNat)
          case atStart => exact ⟨0, by omega, rfl, HS2.out, HR2.out, HB2.out⟩
          case round =>
            clear HS2 HR2 HB2
            obtain ⟨k, hk, rfl, hst, hrb, hbe⟩ := hrel
            rename World => wt
            have hbz : b + 4 ≤ wt.heap.size := by obtain ⟨v, h1, _⟩ := hst.ord; have := lt_of_heap h1; omega
            have xb := cell_of_heap (o := 3) hst.box
            simp only [List.getElem?_toArray, List.getElem?_cons_zero, List.getElem?_cons_succ] at xb
            have lb := lt_of_cell xb
            by_cases hks : k < q.tn
            · obtain ⟨a, hn⟩ : ∃ a, q.tests[k]? = some a := ⟨_, List.getElem?_eq_getElem (by have := HLen.out.2.2.2; omega)⟩
              have hao := hst.tes
              rw [teI_len q (by have := HLen.out.2.2.2; omega), ← HLen.out.2.2.2] at hao
              obtain ⟨g, rfl, hg⟩ := own_some hao (by omega)
              have hks' : (k : Int) < q.tn := by omega
              have hol := ordT_len q k
              obtain ⟨a1, ha1⟩ : ∃ a1 : Te, a1 = ⟨a.op, ⟨a.a.var, plN (ordT q k) a.a⟩, a.b⟩ := ⟨_, rfl⟩
              obtain ⟨a2, ha2⟩ : ∃ a2 : Te, a2 = ⟨a.op, ⟨a.a.var, plN (ordT q k) a.a⟩, ⟨a.b.var, plN (plO (ordT q k) a.a) a.b⟩⟩ := ⟨_, rfl⟩
              have HEnd : Hid ((teI q k).set k a2 = teI q (k + 1)) := teI_step hn (by rw [ha2]; exact renT_parts hn)
              have HOrd : Hid (ordT q (k + 1) = plO (plO (ordT q k) a.a) a.b) := ordT_step hn
              have HG0 : Hid ((teI q k)[k]? = some a) := teI_get hn
              have hkl : k < (teI q k).length := (List.getElem?_eq_some_iff.1 HG0.out).1
              have HG1 : Hid (((teI q k).set k a1)[k]? = some a1) := List.getElem?_set_self hkl
              have HL0 : Hid ((plO (ordT q k) a.a).length ≤ 900 ∧ (ordT q k).length ≤ 900) := by
                have h1 := plO_len (ordT q k) a.a
                exact ⟨by omega, by omega⟩
              have HA1 := hidp ha1
              have HA2 := hidp ha2
              have HN := hidp hn
              have HSt' := hidp hst
              have HRb := hidp hrb
              have HBe := hidp hbe
              have hOwn : Hid (∀ (te : List Te) (O : List Int) (W : World), NSt b (.slice q.nA q.nn q.nc) (.slice AS q.sn cS) (.slice AA q.an cA) (.slice (some ⟨g, 0, none⟩) q.tn cT) (shI q q.sn) (amI q q.an) te O W → W.ownsRow (b + 2) 48 5 (.slice (some ⟨g, 0, none⟩) q.tn cT) q.tn (te.flatMap teEnc)) := fun te O W h => by
                have h2 := h.tes
                rwa [← own_eqlen h2] at h2
              have d1 := own_cell teEnc_len hao HG0.out (j := 1) rfl
              have d2 := own_cell teEnc_len hao HG0.out (j := 2) rfl
              have ld := lt_of_cell d1
              clear hao hst hrb hbe hn ha1 ha2
              go_wp2_with fail

              refine wp_region_QS (b + 2) (fun k => k == 10 || k == 13) (fun k => k == 10 || k == 13) (fun k => k == 9 || k == 10) (by omega) (by kernel_rfl) (by kernel_rfl) (by kernel_rfl) (by kernel_rfl) ?_
              apply qs_det (mask := []) (S := (Below (b + 2) wt)) (m := (fun w => w.heap.size)) (hS := by rfl) (hm := by rfl) (hg := by kernel_rfl) (hk := by kernel_rfl)
              · dsimp only [oblS]
                rintro w9 h9
                go_simp
                exact ⟨Below.refl _ _, rfl⟩
              dsimp only [List.nil_append, List.cons_append]
              apply qs_det (mask := [true]) (S := (Below (b + 2) wt)) (m := (fun w => w.heap.size)) (hS := by rfl) (hm := by rfl) (hg := by kernel_rfl) (hk := by kernel_rfl)
              · dsimp only [oblS]
                rintro w9 h9
                have hc9 := (bcell h9).1
                go_simp
                exact ⟨Below.refl _ _, rfl⟩
              dsimp only [List.nil_append, List.cons_append]
              apply qs_det (mask := [false, false]) (S := (Below (b + 2) wt)) (m := (fun w => w.heap.size)) (hS := by rfl) (hm := by rfl) (hg := by kernel_rfl) (hk := by kernel_rfl)
              · dsimp only [oblS]
                rintro w9 h9
                go_simp
                exact ⟨Below.refl _ _, rfl⟩
              dsimp only [List.nil_append, List.cons_append]
              apply qs_det (mask := [false, false, false]) (S := (Below (b + 2) wt)) (m := (fun w => w.heap.size)) (hS := by rfl) (hm := by rfl) (hg := by kernel_rfl) (hk := by kernel_rfl)
              · dsimp only [oblS]
                rintro w9 h9
                go_simp
                exact ⟨Below.refl _ _, rfl⟩
              dsimp only [List.nil_append, List.cons_append]
              apply qs_det (mask := [false, false, false, false]) (S := (Below (b + 2) wt)) (m := (fun w => w.heap.size)) (hS := by rfl) (hm := by rfl) (hg := by kernel_rfl) (hk := by kernel_rfl)
              · dsimp only [oblS]
                rintro w9 h9
                go_simp
                exact ⟨Below.refl _ _, rfl⟩
              dsimp only [List.nil_append, List.cons_append]
              apply qs_det (mask := [false, false, false, false, true]) (S := (Below (b + 2) wt)) (m := (fun w => w.heap.size)) (hS := by rfl) (hm := by rfl) (hg := by kernel_rfl) (hk := by kernel_rfl)
              · dsimp only [oblS]
                rintro w9 h9
                have hc9 := (bcell h9).1
                go_simp
                exact ⟨Below.refl _ _, rfl⟩
              dsimp only [List.nil_append, List.cons_append]
              apply qs_det (mask := [false, false, false, false, false, false]) (S := (Below (b + 2) wt)) (m := (fun w => w.heap.size)) (hS := by rfl) (hm := by rfl) (hg := by kernel_rfl) (hk := by kernel_rfl)
              · dsimp only [oblS]
                rintro w9 h9
                go_simp
                exact ⟨Below.refl _ _, rfl⟩
              dsimp only [List.nil_append, List.cons_append]
              apply qs_det (mask := [false, false, false, false, false, true, true]) (S := (Below (b + 2) wt)) (m := (fun w => w.heap.size)) (hS := by rfl) (hm := by rfl) (hg := by kernel_rfl) (hk := by kernel_rfl)
              · dsimp only [oblS]
                rintro w9 h9
                go_simp
                exact ⟨Below.refl _ _, rfl⟩
              dsimp only [List.nil_append, List.cons_append]
              apply qs_det (mask := [false, false, false, false, false, false, false, true]) (S := (Below (b + 2) wt)) (m := (fun w => w.heap.size)) (hS := by rfl) (hm := by rfl) (hg := by kernel_rfl) (hk := by kernel_rfl)
              · dsimp only [oblS]
                rintro w9 h9
                go_simp
                exact ⟨Below.refl _ _, rfl⟩
              dsimp only [List.nil_append, List.cons_append]
              apply qs_det (mask := [false, false, false, false, false, false, false, false, true]) (S := (Below wt.heap.size wt)) (m := (fun w => w.heap.size)) (hS := by rfl) (hm := by rfl) (hg := by kernel_rfl) (hk := by kernel_rfl)
              · dsimp only [oblS]
                rintro w9 h9
                have hc9 := (bcell h9).1
                go_simp
                exact ⟨Below.refl _ _, rfl⟩
              dsimp only [List.nil_append, List.cons_append]
              apply qs_any (mask := [false, false, false, true, false, false, false, false, false, true]) (S := (Below wt.heap.size wt)) (m := (fun _ => b + 2)) (T := fun v W => v = .agg #[.bool a.a.var, .int .i64 (plN (ordT q k) a.a)] ∧ NSt b (.slice q.nA q.nn q.nc) (.slice AS q.sn cS) (.slice AA q.an cA) (.slice (some ⟨g, 0, none⟩) q.tn cT) (shI q q.sn) (amI q q.an) (teI q k) (plO (ordT q k) a.a) W) (hT := fun v w w' hb h => ⟨h.1, h.2.keep hb⟩) (hf := by kernel_rfl) (hS := by rfl) (hm := by rfl) (hg := by kernel_rfl) (hk := by kernel_rfl)
              · dsimp only [oblS]
                rintro w9 h9 T' hT'
                go_simp
                refine ((HSt'.out.keep h9).place a.a (by have := HL0.out; omega)).mono ?_
                rintro e W5 ⟨rfl, h5, hb5⟩
                exact ⟨_, rfl, hb5, hT' _ _ ⟨rfl, h5⟩⟩
              dsimp only [List.nil_append, List.cons_append]
              apply qs_det (mask := [false, true, true, false, false, false, false, false, false, false, false]) (S := (Below (b + 2) wt)) (m := (fun w => w.heap.size)) (hS := by rfl) (hm := by rfl) (hg := by kernel_rfl) (hk := by kernel_rfl)
              · dsimp only [oblS]
                rintro w9 h9
                go_simp
                exact ⟨Below.refl _ _, rfl⟩
              dsimp only [List.nil_append, List.cons_append]
              apply qs_det (mask := [false, false, false, false, false, false, false, false, false, false, false, true]) (S := (Below (b + 2) wt)) (m := (fun w => w.heap.size)) (hS := by rfl) (hm := by rfl) (hg := by kernel_rfl) (hk := by kernel_rfl)
              · dsimp only [oblS]
                rintro w9 h9
                go_simp
                exact ⟨Below.refl _ _, rfl⟩
              dsimp only [List.nil_append, List.cons_append]
              apply qs_any (mask := [false, false, false, false, false, false, false, false, false, false, true, false, true]) (S := (Below (b + 2) wt)) (m := (fun _ => b + 2)) (T := fun _ W => NSt b (.slice q.nA q.nn q.nc) (.slice AS q.sn cS) (.slice AA q.an cA) (.slice (some ⟨g, 0, none⟩) q.tn cT) (shI q q.sn) (amI q q.an) ((teI q k).set k a1) (plO (ordT q k) a.a) W) (hT := fun v w w' hb h => h.keep hb) (hf := by kernel_rfl) (hS := by rfl) (hm := by rfl) (hg := by kernel_rfl) (hk := by kernel_rfl)
              · dsimp only [oblS]
                intro v112
                rintro w9 ⟨h9, t112⟩ T' hT'
                have e5 := t112.1
                have t5 := t112.2
                subst e5
                have hs5 := hOwn.out _ _ _ t5
                have d5 := own_cell teEnc_len hs5 HG0.out (j := 1) rfl
                have d6 := own_cell teEnc_len hs5 HG0.out (j := 2) rfl
                have f5 := own_free hs5 (o := k * 5 + 1)
                have f6 := own_free hs5 (o := k * 5 + 2)
                have l5 := lt_of_cell d5
                have T5 := hidp t5
                clear t5 hs5
                go_simp
                have h6 := T5.out.setArgT (i := k) (j := 1) (x := a) (y := a1) (vr := a.a.var) (n := plN (ordT q k) a.a) HG0.out (by decide) (by rfl) (by rw [HA1.out]; rfl)
                exact ⟨((Below.refl _ _).setCell (p := ⟨g, k * 5 + 1, none⟩) hg _).setCell (p := ⟨g, k * 5 + 2, none⟩) hg _, hT' _ _ h6⟩
              dsimp only [List.nil_append, List.cons_append]
              refine qs_end [false, false, false, false, false, false, false, false, false, false, true, false, false, false] (by kernel_rfl) (by kernel_rfl) ?_
              dsimp only [finQ]
              -- rintro v112 vn13 w8 ⟨hb, tn13⟩
              rintro v112 vn13 w8 ⟨hb8, t13⟩
              have hB8 := HBe.out.trans (hb8.mono (by omega))
              have hR8 := HRb.out.keep hb8
              clear HSt' HRb HBe xb lb hbz
              have HSt' := hidp t13
              have HRb := hidp hR8
              have HBe := hidp hB8
              clear t13 hb8 hR8 hB8
              have hbz : b + 4 ≤ w8.heap.size := by obtain ⟨v, h1, _⟩ := HSt'.out.ord; have := lt_of_heap h1; omega
              have xb := cell_of_heap (o := 3) HSt'.out.box
              simp only [List.getElem?_toArray, List.getElem?_cons_zero, List.getElem?_cons_succ] at xb
              have lb := lt_of_cell xb
              have d1 := own_cell teEnc_len (hOwn.out _ _ _ HSt'.out) HG1.out (j := 3) (u := .bool a.b.var) (by rw [HA1.out]; rfl)
              have d2 := own_cell teEnc_len (hOwn.out _ _ _ HSt'.out) HG1.out (j := 4) (u := .int .i64 a.b.n) (by rw [HA1.out]; rfl)
              have ld := lt_of_cell d1
              go_wp2_with fail
              refine wp_region_QS (b + 2) (fun k => k == 10 || k == 13) (fun k => k == 10 || k == 13) (fun k => k == 9 || k == 10) (by omega) (by kernel_rfl) (by kernel_rfl) (by kernel_rfl) (by kernel_rfl) ?_
              apply qs_det (mask := []) (S := (Below (b + 2) w8)) (m := (fun w => w.heap.size)) (hS := by rfl) (hm := by rfl) (hg := by kernel_rfl) (hk := by kernel_rfl)
              · dsimp only [oblS]
                rintro w9 h9
                go_simp
                exact ⟨Below.refl _ _, rfl⟩
              dsimp only [List.nil_append, List.cons_append]
              apply qs_det (mask := [true]) (S := (Below (b + 2) w8)) (m := (fun w => w.heap.size)) (hS := by rfl) (hm := by rfl) (hg := by kernel_rfl) (hk := by kernel_rfl)
              · dsimp only [oblS]
                rintro w9 h9
                have hc9 := (bcell h9).1
                go_simp
                exact ⟨Below.refl _ _, rfl⟩
              dsimp only [List.nil_append, List.cons_append]
              apply qs_det (mask := [false, false]) (S := (Below (b + 2) w8)) (m := (fun w => w.heap.size)) (hS := by rfl) (hm := by rfl) (hg := by kernel_rfl) (hk := by kernel_rfl)
              · dsimp only [oblS]
                rintro w9 h9
                go_simp
                exact ⟨Below.refl _ _, rfl⟩
              dsimp only [List.nil_append, List.cons_append]
              apply qs_det (mask := [false, false, false]) (S := (Below (b + 2) w8)) (m := (fun w => w.heap.size)) (hS := by rfl) (hm := by rfl) (hg := by kernel_rfl) (hk := by kernel_rfl)
              · dsimp only [oblS]
                rintro w9 h9
                go_simp
                exact ⟨Below.refl _ _, rfl⟩
              dsimp only [List.nil_append, List.cons_append]
              apply qs_det (mask := [false, false, false, false]) (S := (Below (b + 2) w8)) (m := (fun w => w.heap.size)) (hS := by rfl) (hm := by rfl) (hg := by kernel_rfl) (hk := by kernel_rfl)
              · dsimp only [oblS]
                rintro w9 h9
                go_simp
                exact ⟨Below.refl _ _, rfl⟩
              dsimp only [List.nil_append, List.cons_append]
              apply qs_det (mask := [false, false, false, false, true]) (S := (Below (b + 2) w8)) (m := (fun w => w.heap.size)) (hS := by rfl) (hm := by rfl) (hg := by kernel_rfl) (hk := by kernel_rfl)
              · dsimp only [oblS]
                rintro w9 h9
                have hc9 := (bcell h9).1
                go_simp
                exact ⟨Below.refl _ _, rfl⟩
              dsimp only [List.nil_append, List.cons_append]
              apply qs_det (mask := [false, false, false, false, false, false]) (S := (Below (b + 2) w8)) (m := (fun w => w.heap.size)) (hS := by rfl) (hm := by rfl) (hg := by kernel_rfl) (hk := by kernel_rfl)
              · dsimp only [oblS]
                rintro w9 h9
                go_simp
                exact ⟨Below.refl _ _, rfl⟩
              dsimp only [List.nil_append, List.cons_append]
              apply qs_det (mask := [false, false, false, false, false, true, true]) (S := (Below (b + 2) w8)) (m := (fun w => w.heap.size)) (hS := by rfl) (hm := by rfl) (hg := by kernel_rfl) (hk := by kernel_rfl)
              · dsimp only [oblS]
                rintro w9 h9
                go_simp
                exact ⟨Below.refl _ _, rfl⟩
              dsimp only [List.nil_append, List.cons_append]
              apply qs_det (mask := [false, false, false, false, false, false, false, true]) (S := (Below (b + 2) w8)) (m := (fun w => w.heap.size)) (hS := by rfl) (hm := by rfl) (hg := by kernel_rfl) (hk := by kernel_rfl)
              · dsimp only [oblS]
                rintro w9 h9
                go_simp
                exact ⟨Below.refl _ _, rfl⟩
              dsimp only [List.nil_append, List.cons_append]
              apply qs_det (mask := [false, false, false, false, false, false, false, false, true]) (S := (Below w8.heap.size w8)) (m := (fun w => w.heap.size)) (hS := by rfl) (hm := by rfl) (hg := by kernel_rfl) (hk := by kernel_rfl)
              · dsimp only [oblS]
                rintro w9 h9
                have hc9 := (bcell h9).1
                go_simp
                exact ⟨Below.refl _ _, rfl⟩
              dsimp only [List.nil_append, List.cons_append]
              apply qs_any (mask := [false, false, false, true, false, false, false, false, false, true]) (S := (Below w8.heap.size w8)) (m := (fun _ => b + 2)) (T := fun v W => v = .agg #[.bool a.b.var, .int .i64 (plN (plO (ordT q k) a.a) a.b)] ∧ NSt b (.slice q.nA q.nn q.nc) (.slice AS q.sn cS) (.slice AA q.an cA) (.slice (some ⟨g, 0, none⟩) q.tn cT) (shI q q.sn) (amI q q.an) ((teI q k).set k a1) (plO (plO (ordT q k) a.a) a.b) W) (hT := fun v w w' hb h => ⟨h.1, h.2.keep hb⟩) (hf := by kernel_rfl) (hS := by rfl) (hm := by rfl) (hg := by kernel_rfl) (hk := by kernel_rfl)
              · dsimp only [oblS]
                rintro w9 h9 T' hT'
                go_simp
                refine ((HSt'.out.keep h9).place a.b (by have := HL0.out; omega)).mono ?_
                rintro e W5 ⟨rfl, h5, hb5⟩
                exact ⟨_, rfl, hb5, hT' _ _ ⟨rfl, h5⟩⟩
              dsimp only [List.nil_append, List.cons_append]
              apply qs_det (mask := [false, true, true, false, false, false, false, false, false, false, false]) (S := (Below (b + 2) w8)) (m := (fun w => w.heap.size)) (hS := by rfl) (hm := by rfl) (hg := by kernel_rfl) (hk := by kernel_rfl)
              · dsimp only [oblS]
                rintro w9 h9
                go_simp
                exact ⟨Below.refl _ _, rfl⟩
              dsimp only [List.nil_append, List.cons_append]
              apply qs_det (mask := [false, false, false, false, false, false, false, false, false, false, false, true]) (S := (Below (b + 2) w8)) (m := (fun w => w.heap.size)) (hS := by rfl) (hm := by rfl) (hg := by kernel_rfl) (hk := by kernel_rfl)
              · dsimp only [oblS]
                rintro w9 h9
                go_simp
                exact ⟨Below.refl _ _, rfl⟩
              dsimp only [List.nil_append, List.cons_append]
              apply qs_any (mask := [false, false, false, false, false, false, false, false, false, false, true, false, true]) (S := (Below (b + 2) w8)) (m := (fun _ => b + 2)) (T := fun _ W => NSt b (.slice q.nA q.nn q.nc) (.slice AS q.sn cS) (.slice AA q.an cA) (.slice (some ⟨g, 0, none⟩) q.tn cT) (shI q q.sn) (amI q q.an) ((teI q k).set k a2) (plO (plO (ordT q k) a.a) a.b) W) (hT := fun v w w' hb h => h.keep hb) (hf := by kernel_rfl) (hS := by rfl) (hm := by rfl) (hg := by kernel_rfl) (hk := by kernel_rfl)
              · dsimp only [oblS]
                intro v125
                rintro w9 ⟨h9, t125⟩ T' hT'
                have e5 := t125.1
                have t5 := t125.2
                subst e5
                have hs5 := hOwn.out _ _ _ t5
                have d5 := own_cell teEnc_len hs5 HG1.out (j := 3) rfl
                have d6 := own_cell teEnc_len hs5 HG1.out (j := 4) rfl
                have f5 := own_free hs5 (o := k * 5 + 3)
                have f6 := own_free hs5 (o := k * 5 + 4)
                have l5 := lt_of_cell d5
                have T5 := hidp t5
                clear t5 hs5
                go_simp
                have h6 := T5.out.setArgT (i := k) (j := 3) (x := a1) (y := a2) (vr := a.b.var) (n := plN (plO (ordT q k) a.a) a.b) HG1.out (by decide) (by rw [HA1.out]; rfl) (by rw [HA2.out, HA1.out]; rfl)
                exact ⟨((Below.refl _ _).setCell (p := ⟨g, k * 5 + 3, none⟩) hg _).setCell (p := ⟨g, k * 5 + 4, none⟩) hg _, hT' _ _ (by rw [List.set_set] at h6; exact h6)⟩
              dsimp only [List.nil_append, List.cons_append]
              refine qs_end [false, false, false, false, false, false, false, false, false, false, true, false, false, false] (by kernel_rfl) (by kernel_rfl) ?_
              dsimp only [finQ]
              -- rintro v125 vn13 w8 ⟨hb, tn13⟩
              rintro v125 vn13 w9b ⟨hb8, t13⟩
              have hB8 := HBe.out.trans (hb8.mono (by omega))
              have hR8 := HRb.out.keep hb8
              clear HSt' HRb HBe xb lb hbz
              have HSt' := hidp t13
              have HRb := hidp hR8
              have HBe := hidp hB8
              clear t13 hb8 hR8 hB8
              rw [HEnd.out, ← HOrd.out] at HSt'
              go_wp2_with fail
              go_roundw
              case rel => exact ⟨k + 1, by omega, by go_num, HSt'.out, HRb.out, HBe.out⟩
              case measure => simp [intOf]; omega
            · obtain rfl : k = q.tn := by omega
              have hkk : ¬ ((q.tn : Int) < q.tn) := by omega
              obtain ⟨O, hO⟩ : ∃ O, ordT q q.tn = O := ⟨_, rfl⟩
              have HO : Hid (O = orderJ (varsJ q)) := by show _ = _; rw [← hO, HLen.out.2.2.2]; exact ordT_all q
              have hOl : O.length ≤ 1000 := by have := ordT_len q q.tn; rw [hO] at this; omega
              rw [hO] at hst
              obtain ⟨ot, hot⟩ : ∃ n, O.length = n := ⟨_, rfl⟩
              rw [hot] at hOl
              have HOt := hidp hot
              obtain ⟨vo, xo, hoo, _⟩ := hst.ord
              obtain ⟨AO, cO, rfl, _⟩ := own_rows iEnc_len (by decide) hoo
              rw [hot] at xo
              have fo := frozen_of_heap (o := 0) hst.box
              have hsz : (wt.setCell ⟨b, 0, none⟩ (.slice (some ⟨wt.heap.size, 0, none⟩) 0 0)).heap.size = wt.heap.size := by simp [World.setCell]
              have ho1 := own_empty (wt.setCell ⟨b, 0, none⟩ (.slice (some ⟨wt.heap.size, 0, none⟩) 0 0)) (b + 2) 1 9 (by omega)
              rw [hsz] at ho1
              have HN0 : Hid (NSt b (.slice (some ⟨wt.heap.size, 0, none⟩) 0 0) (.slice AS q.sn cS) (.slice AA q.an cA) (.slice AT q.tn cT) (shI q q.sn) (amI q q.an) (teI q q.tn) O ((wt.setCell ⟨b, 0, none⟩ (.slice (some ⟨wt.heap.size, 0, none⟩) 0 0)).alloc (.cells #[] 9))) := hst.setN.keep ((Below.refl _ _).alloc (Nat.le_refl _) _)
              have HNo : Hid (((wt.setCell ⟨b, 0, none⟩ (.slice (some ⟨wt.heap.size, 0, none⟩) 0 0)).alloc (.cells #[] 9)).ownsRow (b + 2) 9 1 (.slice (some ⟨wt.heap.size, 0, none⟩) 0 0) 0 []) := ho1
              have HR2 : Hid (RBox b ((wt.setCell ⟨b, 0, none⟩ (.slice (some ⟨wt.heap.size, 0, none⟩) 0 0)).alloc (.cells #[] 9))) := (Below.heap_alloc _ _ _ (by omega)).trans (heap_set_ne hrb (by omega) _ _)
              have HB2 : Hid (Below b w ((wt.setCell ⟨b, 0, none⟩ (.slice (some ⟨wt.heap.size, 0, none⟩) 0 0)).alloc (.cells #[] 9))) := (hbe.setCell (p := ⟨b, 0, none⟩) (Nat.le_refl _) _).alloc (by omega) _
              have xb0 := cell_of_heap (o := 0) hst.box
              simp only [List.getElem?_toArray, List.getElem?_cons_zero] at xb0
              clear hst hrb hbe ho1 hoo xo hO hot hsz
              go_wp2_with fail
              clear xb lb hbz xb0 fo
              go_loopw [9] (fun i wr => ∃ (k : Nat) (Nv : Value), k ≤ ot ∧ i = .int .i64 k ∧ NSt b Nv (.slice AS q.sn cS) (.slice AA q.an cA) (.slice AT q.tn cT) (shI q q.sn) (amI q q.an) (teI q q.tn) O wr ∧ wr.ownsRow (b + 2) 9 1 Nv (pickN q.names (O.take k)).length ((pickN q.names (O.take k)).flatMap sEnc) ∧ RBox b wr ∧ Below b w wr) (fun i _ => ot - (intOf i).toNat)
              case atStart => exact ⟨0, _, by omega, rfl, HN0.out, HNo.out, HR2.out, HB2.out⟩
              case round =>
                clear HN0 HNo HR2 HB2
                obtain ⟨k, Nv, hk, rfl, hst, hns, hrb, hbe⟩ := hrel
                rename World => wn
                obtain ⟨vo, xo, hoo, _⟩ := hst.ord
                obtain ⟨AP, cP, rfl, hro⟩ := own_rows iEnc_len (by decide) hoo
                rw [HOt.out] at hro xo
                obtain ⟨NA, cN, rfl, _⟩ := own_rows sEnc_len (by decide) hns
                have x3 := cell_of_heap (o := 0) xo
                simp only [List.getElem?_toArray, List.getElem?_cons_zero] at x3
                have l3 := lt_of_cell x3
                by_cases hks : k < ot
                · obtain ⟨bo, oo, n, rfl, hbo, hn, d0⟩ := iSl.get hro hks
                  have ld := lt_of_cell d0
                  have hks' : (k : Int) < ot := by omega
                  have HN := hidp hn
                  have HSt' := hidp hst
                  have HNs := hidp hns
                  have HRb := hidp hrb
                  have HBe := hidp hbe
                  have HNN := hidp HLen.out.1
                  have HTk : Hid (O.take (k + 1) = O.take k ++ [n]) := take_snoc hn
                  clear hst hns hrb hbe hn hro hoo xo
                  by_cases hin : 0 ≤ n ∧ n < q.names.length
                  · obtain ⟨h0, h1⟩ := hin
                    obtain ⟨nn, rfl⟩ : ∃ m : Nat, n = m := ⟨n.toNat, by omega⟩
                    have hnl : nn < q.nn := by have := HNN.out; omega
                    have hnl' : (nn : Int) < q.nn := by omega
                    have hbw : Below w.heap.size w wn := by rw [HBb.out]; exact HBe.out
                    obtain ⟨bn, off, s, hA, hbn, hs, d1⟩ := nSl.get (HQu.out wn hbw).1 hnl
                    have ls := lt_of_cell d1
                    have hixs := fun W => ix_strs (c := q.nc) hA hnl W
                    have HP : Hid (pickN q.names (O.take (k + 1)) = pickN q.names (O.take k) ++ [s]) := by show _ = _; rw [HTk.out]; exact pickN_in _ h0 (by rw [Int.toNat_natCast]; exact hs)
                    have hpl : (pickN q.names (O.take k)).length ≤ 1000 := by
                      have h2 := pickN_len q.names (O.take k)
                      have h3 : (O.take k).length ≤ k := List.length_take_le _ _
                      omega
                    have xb := cell_of_heap (o := 0) HSt'.out.box
                    simp only [List.getElem?_toArray, List.getElem?_cons_zero] at xb
                    have lb := lt_of_cell xb
                    have hbz : b ≤ wn.heap.size := by omega
                    obtain ⟨pn, hpn⟩ : ∃ pn, (pickN q.names (O.take k)).length = pn := ⟨_, rfl⟩
                    have HPn := hidp hpn
                    obtain ⟨s0, hsi, hsz, hss, hsb⟩ := info_parts sInfoJ
                    rw [hpn] at xb HSt' HNs hpl
                    clear hA hs hbw hpn
                    go_wp2_with fail

                    refine wp_region_QS (b) (fun k => k == 10 || k == 12) (fun k => k == 9 || k == 10 || k == 12) (fun k => k == 1 || k == 2 || k == 3 || k == 4 || k == 5 || k == 6 || k == 7 || k == 8 || k == 9 || k == 10) (hbz) (by kernel_rfl) (by kernel_rfl) (by kernel_rfl) (by kernel_rfl) ?_
                    apply qs_det (mask := []) (S := (Below (b) wn)) (m := (fun w => w.heap.size)) (hS := by rfl) (hm := by rfl) (hg := by kernel_rfl) (hk := by kernel_rfl)
                    · dsimp only [oblS]
                      rintro w9 h9
                      go_simp
                      exact ⟨Below.refl _ _, rfl⟩
                    dsimp only [List.nil_append, List.cons_append]
                    apply qs_det (mask := [true]) (S := (Below wn.heap.size wn)) (m := (fun w => w.heap.size)) (hS := by rfl) (hm := by rfl) (hg := by kernel_rfl) (hk := by kernel_rfl)
                    · dsimp only [oblS]
                      rintro w9 h9
                      have hc9 := (bcell h9).1
                      go_simp
                      exact ⟨Below.refl _ _, rfl⟩
                    dsimp only [List.nil_append, List.cons_append]
                    apply qs_det (mask := [false, false]) (S := (Below wn.heap.size wn)) (m := (fun w => w.heap.size)) (hS := by rfl) (hm := by rfl) (hg := by kernel_rfl) (hk := by kernel_rfl)
                    · dsimp only [oblS]
                      rintro w9 h9
                      go_simp
                      exact ⟨Below.refl _ _, rfl⟩
                    dsimp only [List.nil_append, List.cons_append]
                    apply qs_det (mask := [false, false, false]) (S := (Below wn.heap.size wn)) (m := (fun w => w.heap.size)) (hS := by rfl) (hm := by rfl) (hg := by kernel_rfl) (hk := by kernel_rfl)
                    · dsimp only [oblS]
                      rintro w9 h9
                      have hc9 := (bcell h9).1
                      go_simp
                      exact ⟨Below.refl _ _, rfl⟩
                    dsimp only [List.nil_append, List.cons_append]
                    apply qs_det (mask := [false, false, false, false]) (S := (Below wn.heap.size wn)) (m := (fun w => w.heap.size)) (hS := by rfl) (hm := by rfl) (hg := by kernel_rfl) (hk := by kernel_rfl)
                    · dsimp only [oblS]
                      rintro w9 h9
                      go_simp
                      exact ⟨Below.refl _ _, rfl⟩
                    dsimp only [List.nil_append, List.cons_append]
                    apply qs_det (mask := [false, false, false, true, true]) (S := (Below wn.heap.size wn)) (m := (fun w => w.heap.size)) (hS := by rfl) (hm := by rfl) (hg := by kernel_rfl) (hk := by kernel_rfl)
                    · dsimp only [oblS]
                      rintro w9 h9
                      go_simp
                      exact ⟨Below.refl _ _, rfl⟩
                    dsimp only [List.nil_append, List.cons_append]
                    apply qs_det (mask := [false, false, false, false, false, true]) (S := (Below wn.heap.size wn)) (m := (fun w => w.heap.size)) (hS := by rfl) (hm := by rfl) (hg := by kernel_rfl) (hk := by kernel_rfl)
                    · dsimp only [oblS]
                      rintro w9 h9
                      have hc9 := (bcell h9).1
                      go_simp
                      exact ⟨Below.refl _ _, rfl⟩
                    dsimp only [List.nil_append, List.cons_append]
                    apply qs_det (mask := [false, false, true, false, false, false, true]) (S := (Below wn.heap.size wn)) (m := (fun w => w.heap.size)) (hS := by rfl) (hm := by rfl) (hg := by kernel_rfl) (hk := by kernel_rfl)
                    · dsimp only [oblS]
                      rintro w9 h9
                      go_simp
                      exact ⟨Below.refl _ _, rfl⟩
                    dsimp only [List.nil_append, List.cons_append]
                    apply qs_det (mask := [false, false, false, false, false, false, false, true]) (S := (Below wn.heap.size wn)) (m := (fun w => w.heap.size)) (hS := by rfl) (hm := by rfl) (hg := by kernel_rfl) (hk := by kernel_rfl)
                    · dsimp only [oblS]
                      rintro w9 h9
                      have hc9 := (bcell h9).1
                      go_simp
                      exact ⟨Below.refl _ _, rfl⟩
                    dsimp only [List.nil_append, List.cons_append]
                    apply qs_any (mask := [false, false, false, false, false, false, false, false, true]) (S := (Below wn.heap.size wn)) (m := (fun w => w.heap.size)) (T := fun v W => ∃ g2, v = .slice (some ⟨g2, 0, none⟩) 1 1 ∧ W.heap[g2]? = some (.cells #[.string s] 9 (0, 0))) (hT := fun v w w' hb ⟨g2, hv, hh⟩ => ⟨g2, hv, (hb.block _ (lt_of_heap hh)).trans hh⟩) (hf := by kernel_rfl) (hS := by rfl) (hm := by rfl) (hg := by kernel_rfl) (hk := by kernel_rfl)
                    · dsimp only [oblS]
                      rintro w9 h9 T' hT'
                      go_simp
                      exact ⟨(Below.refl _ w9).alloc (Nat.le_refl _) _, hT' _ _ ⟨_, rfl, World.alloc_heap_new w9 _⟩⟩
                    dsimp only [List.nil_append, List.cons_append]
                    apply qs_any (mask := [false, true, false, false, false, false, false, false, false, true]) (S := (Below wn.heap.size wn)) (m := (fun _ => b)) (T := fun v W => ∃ A c, v = .slice A (pn + 1) c ∧ NFull b (.slice NA pn cN) v (pn + 1) (pickN q.names (O.take k) ++ [s]) (.slice AS q.sn cS) (.slice AA q.an cA) (.slice AT q.tn cT) (shI q q.sn) (amI q q.an) (teI q q.tn) O w W) (hT := fun v w w' hb h => by obtain ⟨A, c, hv, hf⟩ := h; exact ⟨A, c, hv, hf.keep hb⟩) (hf := by kernel_rfl) (hS := by rfl) (hm := by rfl) (hg := by kernel_rfl) (hk := by kernel_rfl)
                    · dsimp only [oblS]
                      intro v159
                      rintro w9 ⟨h9, t159⟩ T' hT'
                      obtain ⟨g2, e2, hg2⟩ := t159
                      subst e2
                      have hst9 := HSt'.out.keep h9
                      have hns9 := own_keepB HNs.out fun g hg => h9.block g (HNs.out.lt g hg).2
                      have rw9 : nSl w9 w9.heap.size (some ⟨g2, 0, none⟩) 1 1 [s] := rows_of_heap (l := [s]) sEnc_len hg2 (Nat.le_refl _) (by decide) rfl
                      obtain ⟨v', w', hrun, hown', hg', hat⟩ := run_append_rows (P := Tryd.prog) (ty := 22) (enc := sEnc) Tryd.underlying22 hsi hsz hss hsb rfl sEnc_len (by decide) sEnc_one hns9 rw9 (by omega) (by omega) (by have := h9.size; omega)
                      obtain ⟨A, c, rfl, _⟩ := own_rows sEnc_len (by decide) hown'
                      exact relUpon_append (.tmp 151) (.tmp 159) 22 rfl rfl rfl hrun ((Below.refl _ _).grown hg' (by have := h9.size; omega) fun g e => by have := (hns9.lt g e).1; omega) (hT' _ _ ⟨A, c, rfl, NFull.grown hst9 ((h9.block _ (lt_of_heap HRb.out)).trans HRb.out) (HBe.out.trans (h9.mono hbz)) hns9 hg' hown'⟩)
                    dsimp only [List.nil_append, List.cons_append]
                    apply qs_det (mask := [false, false, false, false, false, false, false, false, false, false, false]) (S := (Below (b) wn)) (m := (fun w => w.heap.size)) (hS := by rfl) (hm := by rfl) (hg := by kernel_rfl) (hk := by kernel_rfl)
                    · dsimp only [oblS]
                      rintro w9 h9
                      go_simp
                      exact ⟨Below.refl _ _, rfl⟩
                    dsimp only [List.nil_append, List.cons_append]
                    apply qs_any (mask := [false, false, false, false, false, false, false, false, false, false, true, true]) (S := (Below (b) wn)) (m := (fun _ => b)) (T := fun _ W => ∃ A c, NFull b (.slice A (pn + 1) c) (.slice A (pn + 1) c) (pn + 1) (pickN q.names (O.take k) ++ [s]) (.slice AS q.sn cS) (.slice AA q.an cA) (.slice AT q.tn cT) (shI q q.sn) (amI q q.an) (teI q q.tn) O w W) (hT := fun v w w' hb h => by obtain ⟨A, c, hf⟩ := h; exact ⟨A, c, hf.keep hb⟩) (hf := by kernel_rfl) (hS := by rfl) (hm := by rfl) (hg := by kernel_rfl) (hk := by kernel_rfl)
                    · dsimp only [oblS]
                      intro v160
                      rintro w9 ⟨h9, t160⟩ T' hT'
                      obtain ⟨A, c, e2, hf⟩ := t160
                      subst e2
                      have x9 := cell_of_heap (o := 0) hf.st.box
                      have f9 := frozen_of_heap (o := 0) hf.st.box
                      simp only [List.getElem?_toArray, List.getElem?_cons_zero] at x9
                      have l9 := lt_of_cell x9
                      have HF := hidp hf
                      clear hf
                      go_simp
                      exact ⟨(Below.refl _ _).setCell (p := ⟨b, 0, none⟩) (Nat.le_refl _) _, hT' _ _ ⟨A, c, HF.out.setN⟩⟩
                    dsimp only [List.nil_append, List.cons_append]
                    refine qs_end [false, false, false, false, false, false, false, false, false, true, true, false, false] (by kernel_rfl) (by kernel_rfl) ?_
                    dsimp only [finQ]
                    -- rintro v159 v160 vn12 w8 ⟨hb, tn12⟩
                    rintro v159 v160 vn12 w8 ⟨hb8, A8, c8, hf8⟩
                    have HF8 := hidp hf8
                    clear hb8 hf8
                    go_wp2_with fail
                    go_roundw
                    case rel => exact ⟨k + 1, .slice A8 (pn + 1) c8, by omega, by go_num, HF8.out.st, by rw [HP.out, List.length_append, List.length_singleton, HPn.out]; exact HF8.out.nam, HF8.out.rb, HF8.out.bel⟩
                    case measure => simp [intOf]; omega
                  · have HP : Hid (pickN q.names (O.take (k + 1)) = pickN q.names (O.take k)) := by show _ = _; rw [HTk.out]; exact pickN_out _ hin
                    rcases Int.lt_or_le n 0 with h0 | h0
                    · clear hin
                      go_wp2_with fail
                      go_roundw
                      case rel => exact ⟨k + 1, .slice NA (pickN q.names (O.take k)).length cN, by omega, by go_num, HSt'.out, by rw [HP.out]; exact HNs.out, HRb.out, HBe.out⟩
                      case measure => simp [intOf]; omega
                    · have h1 : ¬ (n < q.nn) := by rw [HNN.out]; exact fun h => hin ⟨h0, h⟩
                      clear hin
                      go_wp2_with fail
                      go_roundw
                      case rel => exact ⟨k + 1, .slice NA (pickN q.names (O.take k)).length cN, by omega, by go_num, HSt'.out, by rw [HP.out]; exact HNs.out, HRb.out, HBe.out⟩
                      case measure => simp [intOf]; omega
                · obtain rfl : k = ot := by omega
                  have hkk : ¬ ((k : Int) < k) := by omega
                  obtain ⟨pn, hpn⟩ : ∃ pn, (pickN q.names (O.take k)).length = pn := ⟨_, rfl⟩
                  rw [hpn] at hst hns
                  have hT : O.take k = orderJ (varsJ q) := by rw [List.take_of_length_le (by rw [HOt.out]; exact Nat.le_refl _)]; exact HO.out
                  rw [hT] at hns
                  have HFull : Hid (NFull b (.slice NA pn cN) (.slice NA pn cN) pn (pickN q.names (orderJ (varsJ q))) (.slice AS q.sn cS) (.slice AA q.an cA) (.slice AT q.tn cT) (shI q q.sn) (amI q q.an) (teI q q.tn) (orderJ (varsJ q)) w wn) := by
                    have h2 : NSt _ _ _ _ _ _ _ _ O wn := hst
                    rw [HO.out] at h2
                    exact ⟨h2, hrb, hbe, hns⟩
                  have x0 := cell_of_heap (o := 0) hst.box
                  have x1 := cell_of_heap (o := 1) hst.box
                  have x2 := cell_of_heap (o := 2) hst.box
                  have x4 := cell_of_heap (o := 3) hst.box
                  have y0 := cell_of_heap (o := 0) hrb
                  have y1 := cell_of_heap (o := 1) hrb
                  have y2 := cell_of_heap (o := 2) hrb
                  have y4 := cell_of_heap (o := 3) hrb
                  have f0 := frozen_of_heap (o := 0) hrb
                  have f1 := frozen_of_heap (o := 1) hrb
                  have f2 := frozen_of_heap (o := 2) hrb
                  have f4 := frozen_of_heap (o := 3) hrb
                  simp only [List.getElem?_toArray, List.getElem?_cons_zero, List.getElem?_cons_succ] at x0 x1 x2 x4 y0 y1 y2 y4
                  have lx := lt_of_cell x0
                  have ly := lt_of_cell y0
                  clear hst hns hrb hbe hro hoo xo hpn hT
                  go_wp2_with fail
                  refine bodyPost_ret (v := .agg #[.slice NA pn cN, .slice AS q.sn cS, .slice AA q.an cA, .slice AT q.tn cT]) ?_ rfl (norm_end HBb.out ⟨HLen.out.2.1, HLen.out.2.2.1, HLen.out.2.2.2⟩ HFull.out (by simp [World.setCell]) (fun x hx => ?_) ⟨rfl, rfl, rfl⟩)
                  · simp [results, Tryd.f17, go_sem, y0, y1, y2, y4]
                  · exact heap_set_ne (heap_set_ne (heap_set_ne (heap_set_ne rfl hx _ _) hx _ _) hx _ _) hx _ _
end Go.Proofs.YtbegdcjofnfkiaaDoor
