/- facts.values walked. -/
import Derived.Test.YtoalmffhiinbbaaF15
namespace Go.Proofs.Ytoalmffhiinbbaa
open Go.RowKit Go.Shelf
attribute [local go_sem] Oper.semAt_some

/-- What the row holds at a term. -/
def rowAt (b : Option Fc) : Int := match b with | none => -1 | some f => max f.val (-1)
theorem rowAt_val (l : List Fc) (k : Ky) (t known : Int) : rowAt (bestF (ofF l k known) t) = valF l k t known := by
  unfold valF atF rowAt
  cases bestF (ofF l k known) t with
  | none => rfl
  | some f =>
    simp only []
    split
    · simp; omega
    · simp; omega
def rowV (l : List Fc) (k : Ky) (known : Int) : Array Value := ((rowF l k known).map (Value.int .i64)).toArray
theorem rowF_at (l : List Fc) (k : Ky) (known : Int) {j : Nat} (hj : j < 1024) : (rowF l k known)[j]? = some (valF l k j known) := by
  simp [rowF, terms, List.getElem?_map, List.getElem?_range hj]
theorem rowF_len (l : List Fc) (k : Ky) (known : Int) : (rowF l k known).length = 1024 := by simp [rowF, terms]
theorem rowV_eq {l : List Fc} {k : Ky} {known : Int} {cs : Array Value} (hz : cs.size = 1024) (h : ∀ j, j < 1024 → cs[j]? = some (.int .i64 (valF l k j known))) : cs = rowV l k known := by
  apply Array.ext_getElem?
  intro j
  rcases Nat.lt_or_ge j 1024 with hj | hj
  · rw [h j hj]
    simp [rowV, List.getElem?_map, rowF_at l k known hj]
  · rw [Array.getElem?_eq_none (by omega)]
    simp only [rowV, List.getElem?_toArray]
    rw [List.getElem?_eq_none (by rw [List.length_map, rowF_len]; exact hj)]
theorem zeros_one : ∀ v ∈ Try.zeroCells70, v.oneCell' = true := by
  intro v hv
  obtain ⟨j, hj, rfl⟩ := Array.mem_iff_getElem.1 hv
  have := zeros_row.2 j (by rw [← zeros_row.1]; exact hj)
  rw [Array.getElem?_eq_getElem hj] at this
  injection this with this
  rw [this]; rfl
theorem one_set {cs : Array Value} (h : ∀ v ∈ cs, v.oneCell' = true) {u : Value} (hu : u.oneCell' = true) (k : Nat) : ∀ v ∈ cs.setIfInBounds k u, v.oneCell' = true := by
  intro v hv
  rcases Array.mem_or_eq_of_mem_setIfInBounds hv with h1 | h1
  · exact h v h1
  · rw [h1]; exact hu
theorem row_other {cs : Array Value} (k : Nat) (u : Value) {j : Nat} (h : j ≠ k) : (cs.setIfInBounds k u)[j]? = cs[j]? := by
  simp [Ne.symm h]
theorem row_set {cs : Array Value} {k : Nat} {r : Nat → Int} {z : Int} (hz : cs.size = 1024) (hk : k < 1024) (h : ∀ j, j < k → cs[j]? = some (.int .i64 (r j))) (hr : r k = z) : ∀ j, j < k + 1 → (cs.setIfInBounds k (.int .i64 z))[j]? = some (.int .i64 (r j)) := by
  intro j hj
  by_cases hjk : j = k
  · subst hjk
    simp [hz, hk, hr]
  · rw [row_other _ _ hjk]
    exact h j (by omega)
theorem putAt_self (cs : Array Value) : putAt cs 0 cs.toList = cs := by
  have h : List.drop cs.size cs.toList = [] := List.drop_of_length_le (by simp)
  simp [putAt, h]
theorem rowInfo : (Try.prog.info? 70).map (·.size) = some 1024 := by kernel_rfl
/-- Behind the terms below z the fact x has been looked at. -/
def upTo (pre : List Fc) (x : Fc) (z : Int) (j : Nat) : Option Fc := if (j : Int) < z then bestF (pre ++ [x]) j else bestF pre j
theorem upTo_start (pre : List Fc) (x : Fc) (j : Nat) : upTo pre x (max 0 x.fr) j = bestF pre j := by
  unfold upTo
  split
  · rw [bestF_snoc, better_no]
    have : ¬ x.fr ≤ (j : Int) := by omega
    simp [Fc.at, this]
  · rfl
theorem upTo_end (pre : List Fc) (x : Fc) (z : Int) (j : Nat) (hj : j < 1024) (hz : ¬ z < min x.to 1024) : upTo pre x z j = bestF (pre ++ [x]) j := by
  unfold upTo
  split
  · rfl
  · rw [bestF_snoc, better_no]
    have : ¬ (j : Int) < x.to := by omega
    simp [Fc.at, this]
theorem upTo_step (pre : List Fc) (x : Fc) (k : Nat) (hx : x.at k = true) (j : Nat) {b : Option Fc} (hb : better k (bestF pre k) x = b) : upTo pre x ((k : Int) + 1) j = if j = k then b else upTo pre x k j := by
  unfold upTo
  by_cases hjk : j = k
  · subst hjk
    rw [if_pos (by omega), if_pos rfl, bestF_snoc, hb]
  · rw [if_neg hjk]
    by_cases h : (j : Int) < k
    · rw [if_pos (by omega), if_pos h]
    · rw [if_neg (by omega), if_neg h]
theorem upTo_at (pre : List Fc) (x : Fc) (k : Nat) : upTo pre x k k = bestF pre k := by unfold upTo; rw [if_neg (by omega)]
theorem at_of {x : Fc} {k : Nat} {z : Int} (hz : z = k) (h1 : max 0 x.fr ≤ z) (h2 : z < min x.to 1024) : x.at k = true := by
  subst hz
  have e1 : x.fr ≤ (k : Int) := by omega
  have e2 : (k : Int) < x.to := by omega
  simp [Fc.at, e1, e2]

set_option maxRecDepth 100000 in
set_option maxHeartbeats 2000000 in
theorem fvalues_any (A : Option Addr) (n c : Nat) (l : List Fc) (kk : Ky) (known : Int) (w : World) (hl : fSl w w.heap.size A n c l) :
    Calls Try.prog 39 #[.slice A n c, .agg #[.int .i64 kk.kind, .int .i64 kk.subj, .int .i64 kk.obj], .int .i64 known] w fun e w' => e = .returned (.agg (rowV l kk known)) ∧ Below w.heap.size w w' := by
  refine calls_of_wp_marks Try.func39 rfl ?_
  simp only [Try.ntmps39, List.size_toArray, List.length_cons, List.length_nil, Nat.reduceAdd, Nat.reduceSub, Array.replicate_succ, Array.replicate_zero, List.push_toArray, List.append_toArray, List.nil_append, List.cons_append]
  obtain ⟨W0, hW0⟩ : ∃ W0, (((w.alloc (.cells #[.int .i64 kk.kind, .int .i64 kk.subj, .int .i64 kk.obj] 24)).alloc (.cells Try.zeroCells70 70)).alloc (.cells Try.zeroCells84 84)).alloc (.cells Try.zeroCells85 85) = W0 := ⟨_, rfl⟩
  have hBW : Below w.heap.size w W0 := by rw [← hW0]; exact ((((Below.refl _ w).alloc (Nat.le_refl _) _).alloc (by simp) _).alloc (by simp; omega) _).alloc (by simp; omega) _
  have hz0 : W0.heap.size = w.heap.size + 4 := by rw [← hW0]; simp
  obtain ⟨B6, hB6⟩ : ∃ b, w.heap.size + 1 = b := ⟨_, rfl⟩
  obtain ⟨B7, hB7⟩ : ∃ b, B6 + 1 = b := ⟨_, rfl⟩
  obtain ⟨B8, hB8⟩ : ∃ b, B7 + 1 = b := ⟨_, rfl⟩
  have g1 : W0.heap[B6]? = some (.cells Try.zeroCells70 70 (0, 0)) := by
    rw [← hW0, Below.heap_alloc _ _ _ (by simp; omega), Below.heap_alloc _ _ _ (by simp; omega)]
    have := World.alloc_heap_new (w.alloc (.cells #[.int .i64 kk.kind, .int .i64 kk.subj, .int .i64 kk.obj] 24)) (.cells Try.zeroCells70 70)
    rwa [World.size_alloc, hB6] at this
  have g2 : W0.heap[B7]? = some (.cells Try.zeroCells84 84 (0, 0)) := by
    rw [← hW0, Below.heap_alloc _ _ _ (by simp; omega)]
    have := World.alloc_heap_new ((w.alloc (.cells #[.int .i64 kk.kind, .int .i64 kk.subj, .int .i64 kk.obj] 24)).alloc (.cells Try.zeroCells70 70)) (.cells Try.zeroCells84 84)
    rwa [World.size_alloc, World.size_alloc, hB6, hB7] at this
  have g3 : W0.heap[B8]? = some (.cells Try.zeroCells85 85 (0, 0)) := by
    rw [← hW0]
    have := World.alloc_heap_new (((w.alloc (.cells #[.int .i64 kk.kind, .int .i64 kk.subj, .int .i64 kk.obj] 24)).alloc (.cells Try.zeroCells70 70)).alloc (.cells Try.zeroCells84 84)) (.cells Try.zeroCells85 85)
    rwa [World.size_alloc, World.size_alloc, World.size_alloc, hB6, hB7, hB8] at this
  have HW0 := hidp hW0
  have HZ0 := hidp hz0
  have G1 := hidp g1
  have G2 := hidp g2
  have G3 := hidp g3
  have HB6 := hidp hB6
  have HB7 := hidp hB7
  have HB8 := hidp hB8
  clear hW0 hz0 g1 g2 g3 hB6 hB7 hB8
  go_wp2_with fail
  rw [HW0.out, HB6.out, HB7.out, HB8.out]
  refine (of_any A n c kk known W0).mono ?_
  rintro e w1 ⟨rfl, hw1⟩
  go_wp2_with fail
  have hb1 : w1.heap[W0.heap.size]? = some (.cells #[.slice A n c] 22 (0, 0)) := by
    rw [← hw1, Below.heap_alloc _ _ _ (by simp; omega), Below.heap_alloc _ _ _ (by simp)]; exact World.alloc_heap_new _ _
  have hb2 : w1.heap[W0.heap.size + 1]? = some (.cells #[.int .i64 kk.kind, .int .i64 kk.subj, .int .i64 kk.obj] 24 (0, 0)) := by
    rw [← hw1, Below.heap_alloc _ _ _ (by simp)]
    have := World.alloc_heap_new (W0.alloc (.cells #[.slice A n c] 22)) (.cells #[.int .i64 kk.kind, .int .i64 kk.subj, .int .i64 kk.obj] 24)
    rwa [World.size_alloc] at this
  have hb3 : w1.heap[W0.heap.size + 2]? = some (.cells #[.int .i64 known] 3 (0, 0)) := by
    rw [← hw1]
    have := World.alloc_heap_new ((W0.alloc (.cells #[.slice A n c] 22)).alloc (.cells #[.int .i64 kk.kind, .int .i64 kk.subj, .int .i64 kk.obj] 24)) (.cells #[.int .i64 known] 3)
    rwa [World.size_alloc, World.size_alloc] at this
  have hBe : Below W0.heap.size W0 w1 := by rw [← hw1]; exact (((Below.refl _ W0).alloc (Nat.le_refl _) _).alloc (by simp) _).alloc (by simp; omega) _
  have hz1 : w1.heap.size = W0.heap.size + 3 := by rw [← hw1]; simp
  have k1 := (hBe.block _ (lt_of_heap G1.out)).trans G1.out
  have k2 := (hBe.block _ (lt_of_heap G2.out)).trans G2.out
  have k3 := (hBe.block _ (lt_of_heap G3.out)).trans G3.out
  have hB1w : Below w.heap.size w w1 := hBW.trans (hBe.mono hBW.size)
  have hseq := of1_seq W0.heap.size (W0.heap.size + 1) (W0.heap.size + 2) w.heap.size A n c l kk known w1 (cell_of_heap hb1) hb2 (cell_of_heap hb3) (hl.below fStable hB1w)
  obtain ⟨z0, z0'⟩ : W0.heap.size ≤ w.heap.size + 4 ∧ w.heap.size + 4 ≤ W0.heap.size := by have := HZ0.out; omega
  obtain ⟨y1, y1'⟩ : w.heap.size + 1 ≤ B6 ∧ B6 ≤ w.heap.size + 1 := by have := HB6.out; omega
  obtain ⟨y2, y2'⟩ : B6 + 1 ≤ B7 ∧ B7 ≤ B6 + 1 := by have := HB7.out; omega
  obtain ⟨y3, y3'⟩ : B7 + 1 ≤ B8 ∧ B8 ≤ B7 + 1 := by have := HB8.out; omega
  have K1 := hidp k1
  have hT0 : Tab w1 B7 B8 (fun j => bestF [] j) := Tab.start k2 k3
  clear hb1 hb2 hb3 hw1 k1 k2 k3 G1 G2 G3 HW0
  refine wp_rangeM (gf := 53) (lb := #[.pointer (some ⟨W0.heap.size, 0, none⟩), .pointer (some ⟨W0.heap.size + 1, 0, none⟩), .pointer (some ⟨W0.heap.size + 2, 0, none⟩)]) rfl (enters_of Try.func53 (by kernel_rfl) rfl) hseq (fun b => b = B7 ∨ b = B8) ?S (fun _ => rfl) ?M
    (fun pre W => W.heap[B6]? = some (.cells Try.zeroCells70 70 (0, 0)) ∧ Tab W B7 B8 (fun j => bestF pre j) ∧ Below w.heap.size w W)
    (fun _ _ => False)
    ?hI ?hIx ?h0 (fun ll pre x a' W => ∃ B9 : Nat, W.heap[B6]? = some (.cells Try.zeroCells70 70 (0, 0)) ∧ Tab W B7 B8 (fun j => bestF pre j) ∧ Below w.heap.size w W ∧
        B9 ≠ ll ∧ B8 < B9 ∧ W.heap[B9]? = some (.cells #[.int .i64 x.key.kind, .int .i64 x.key.subj, .int .i64 x.key.obj, .int .i64 x.val, .int .i64 x.fr, .int .i64 x.to, .int .i64 x.known, .int .i64 x.no] 28 (0, 0)) ∧
        a' = { tmps := #[.slice A n c, .agg #[.int .i64 kk.kind, .int .i64 kk.subj, .int .i64 kk.obj], .int .i64 known, undef, .pointer (some ⟨w.heap.size, 0, none⟩), undef, .pointer (some ⟨B6, 0, none⟩), .pointer (some ⟨B7, 0, none⟩), .pointer (some ⟨B8, 0, none⟩), .pointer (some ⟨B9, 0, none⟩), undef, undef, .slice A n c, .agg #[.int .i64 kk.kind, .int .i64 kk.subj, .int .i64 kk.obj], .int .i64 known,
          .func (.func 53) #[] #[.pointer (some ⟨W0.heap.size, 0, none⟩), .pointer (some ⟨W0.heap.size + 1, 0, none⟩), .pointer (some ⟨W0.heap.size + 2, 0, none⟩)], .agg #[.int .i64 x.key.kind, .int .i64 x.key.subj, .int .i64 x.key.obj, .int .i64 x.val, .int .i64 x.fr, .int .i64 x.to, .int .i64 x.known, .int .i64 x.no], undef, undef, undef, undef, undef, undef, undef, undef, undef, undef, undef, undef, undef, undef, undef, undef, undef, undef, undef, undef, undef, undef, undef, undef, undef, undef, undef, undef, undef, undef, undef, undef, undef, undef, undef, undef, undef, undef, undef, undef, undef, undef, undef, undef, undef, undef], defers := [] })
    ?hAx ?assign ?body ?done ?stop
  case S =>
    have z1 := hz1
    have hs := hBW.size
    rintro b (hb | rfl | rfl | rfl) <;> exact ⟨by omega, rfl, by omega⟩
  case M => rintro b (rfl | rfl) <;> omega
  case hI =>
    rintro pre W1 W2 ⟨h1, h2, h3⟩ hk
    exact ⟨(hk.block _ (lt_of_heap h1) (by omega)).trans h1, h2.keep (hk.block _ h2.lt.1 (by omega)) (hk.block _ h2.lt.2 (by omega)), h3.trans (hk.toBelow h3.size (by omega))⟩
  case hIx => rintro cd W1 W2 h; exact h.elim
  case h0 => exact ⟨K1.out, hT0, hB1w⟩
  case hAx =>
    rintro ll pre x a' W2 W3 hll ⟨B9, h1, h2, h3, h6, h7, h8, rfl⟩ _ hk
    exact ⟨B9, (hk.block _ (lt_of_heap h1) (by omega)).trans h1, h2.keep (hk.block _ h2.lt.1 (by omega)) (hk.block _ h2.lt.2 (by omega)), h3.trans (hk.toBelow h3.size (by omega)), h6, h7, (hk.block _ (lt_of_heap h8) h6).trans h8, rfl⟩
  case assign =>
    rintro ll m pre x suf W1 K hll hlt _ ⟨h1, h2, h3⟩ hK
    have l1 := lt_of_heap h1
    have l2 := h2.lt
    gi_wp2
    refine hK _ _ ((Kept.refl _ _).alloc _) ⟨W1.heap.size, (Below.heap_alloc _ _ _ l1).trans h1, h2.keep (Below.heap_alloc _ _ _ l2.1) (Below.heap_alloc _ _ _ l2.2), h3.alloc h3.size _, by omega, by omega, World.alloc_heap_new _ _, rfl⟩
  case body =>
    rintro ll m pre x suf a' W2 hll hxs ⟨B9, h1, h2, h3, h6, h7, h8, rfl⟩ _
    obtain ⟨i0, hiE, _, hsE, _⟩ := info_parts fInfo
    have x0 := cell_of_heap (o := 0) h8
    have x1 := cell_of_heap (o := 1) h8
    have x2 := cell_of_heap (o := 2) h8
    have x3 := cell_of_heap (o := 3) h8
    have x4 := cell_of_heap (o := 4) h8
    have x5 := cell_of_heap (o := 5) h8
    have x6 := cell_of_heap (o := 6) h8
    have x7 := cell_of_heap (o := 7) h8
    simp only [List.getElem?_toArray, List.getElem?_cons_zero, List.getElem?_cons_succ] at x0 x1 x2 x3 x4 x5 x6 x7
    have hT1 : ∀ z, max 0 x.fr = z → Tab W2 B7 B8 (upTo pre x z) := fun z e => h2.congr fun j _ => by rw [← e]; exact upTo_start pre x j
    have HT1 := hidp hT1
    have HX2 := hidp h8
    have H62 := hidp h1
    have HB2 := hidp h3
    clear h1 h2 h3 h8 hxs hseq hT0 hT1
    gi_wp2_with fail
    all_goals
      gi_loopw [10] (fun t wr => ∃ z : Int, t = .int .i64 z ∧ max 0 x.fr ≤ z ∧ Tab wr B7 B8 (upTo pre x z) ∧ Kept (fun b => b = B7 ∨ b = B8) W2 wr ∧ wr.heap[B6]? = some (.cells Try.zeroCells70 70 (0, 0)) ∧ wr.heap[B9]? = some (.cells #[.int .i64 x.key.kind, .int .i64 x.key.subj, .int .i64 x.key.obj, .int .i64 x.val, .int .i64 x.fr, .int .i64 x.to, .int .i64 x.known, .int .i64 x.no] 28 (0, 0)) ∧ Below w.heap.size w wr) (fun t _ => (1024 - intOf t).toNat)
      case atStart => exact ⟨_, rfl, by omega, HT1.out _ (by omega), Kept.refl _ _, H62.out, HX2.out, HB2.out⟩
      case round =>
        obtain ⟨z, rfl, hz, hT, hkp, h6b, hxb, hbw⟩ := hrel
        clear x0 x1 x2 x3 x4 x5 x6 x7
        rcases Int.lt_or_le 1024 x.to with ho | ho
        all_goals
          have x0 := cell_of_heap (o := 0) hxb
          have x1 := cell_of_heap (o := 1) hxb
          have x2 := cell_of_heap (o := 2) hxb
          have x3 := cell_of_heap (o := 3) hxb
          have x4 := cell_of_heap (o := 4) hxb
          have x5 := cell_of_heap (o := 5) hxb
          have x6 := cell_of_heap (o := 6) hxb
          have x7 := cell_of_heap (o := 7) hxb
          simp only [List.getElem?_toArray, List.getElem?_cons_zero, List.getElem?_cons_succ] at x0 x1 x2 x3 x4 x5 x6 x7
          by_cases hlt : z < min x.to 1024
          · obtain ⟨k, rfl⟩ : ∃ k : Nat, z = k := ⟨z.toNat, by omega⟩
            have hk3 : (k : Int) < 1024 := by omega
            have hk5 : (k : Int) < x.to := by omega
            have hk4 : k < 1024 := by omega
            have HAt : Hid (x.at k = true) := at_of rfl hz hlt
            clear hlt
            obtain ⟨sm, f, hst, d8, d0, d1, d2, d3, d4, d5, d6, d7⟩ := hT.get hk4
            rw [upTo_at] at hst
            have HS := hidp hst
            have hl7 := hT.lt.1
            have hl8 := hT.lt.2
            have lx := lt_of_heap hxb
            have l6 := lt_of_heap h6b
            have HT := hidp hT
            have HX := hidp hxb
            have H6 := hidp h6b
            have HK := hidp hkp
            have HBw := hidp hbw
            clear hT hxb h6b hkp hbw hst
            cases sm
            · have hbn : bestF pre k = none := by
                rcases HS.out with ⟨_, h⟩ | ⟨h, _⟩
                · exact h
                · cases h
              have HBn := hidp hbn
              clear hbn
              gi_wp2_with fail
              refine wpIn_region_below ll m wr.heap.size (by kernel_rfl) (by kernel_rfl) ?_
              repeat
                first
                | go_big_quiet_skip
                | (refine q_step (by rfl) ?_
                   apply Exists.intro
                   refine ⟨fun w9 h9 => ?_, ?_⟩
                   · have hc9 := (bcell h9).1
                     go_simp
                     first | done | rfl 
                   go_simp)
              refine wpQuiet_nil ?_
              intro w9 hb9
              have hb9z := hb9.size
              have hB9' := HBw.out.trans (hb9.mono HBw.out.size)
              have hT9 := HT.out.keep (hb9.block _ hl7) (hb9.block _ hl8)
              have h9x := (hb9.block _ lx).trans HX.out
              have h96 := (hb9.block _ l6).trans H6.out
              have hk9 := HK.out.trans (kept_of_below (M := fun b => b = B7 ∨ b = B8) hb9 (by omega))
              clear d0 d1 d2 d3 d4 d5 d6 d7 d8 x0 x1 x2 x3 x4 x5 x6 x7
              obtain ⟨cs7, cs8, k7, k8, z7, z8, _⟩ := id hT9
              have hfz8 := hT9.frozen.2
              obtain ⟨_, _, _, e8, _⟩ := hT9.get hk4
              have x0 := cell_of_heap (o := 0) h9x
              have x1 := cell_of_heap (o := 1) h9x
              have x2 := cell_of_heap (o := 2) h9x
              have x3 := cell_of_heap (o := 3) h9x
              have x4 := cell_of_heap (o := 4) h9x
              have x5 := cell_of_heap (o := 5) h9x
              have x6 := cell_of_heap (o := 6) h9x
              have x7 := cell_of_heap (o := 7) h9x
              simp only [List.getElem?_toArray, List.getElem?_cons_zero, List.getElem?_cons_succ] at x0 x1 x2 x3 x4 x5 x6 x7
              have e8' : (w9.setRow B7 (putAt cs7 (k * 8) (fEnc x))).cell? ⟨B8, k, none⟩ = some (.bool _) := (World.cell?_of_block (w := w9) (a := ⟨B8, k, none⟩) (setRow_other _ _ _ _ (by show B8 ≠ B7; omega))).trans e8
              have f8' : (w9.setRow B7 (putAt cs7 (k * 8) (fEnc x))).frozen? ⟨B8, k, none⟩ = false := (World.frozen?_of_block (w := w9) (a := ⟨B8, k, none⟩) (setRow_other _ _ _ _ (by show B8 ≠ B7; omega))).trans (hfz8 _)
              have hput := hT9.put hk4 x (by omega) k7
              have hkp : Kept (fun b => b = B7 ∨ b = B8) W2 ((w9.setRow B7 (putAt cs7 (k * 8) (fEnc x))).setCell ⟨B8, k, none⟩ (.bool true)) := (kept_setRow hk9 (.inl rfl) _).setCell (p := ⟨B8, k, none⟩) (.inl (.inr rfl)) _
              have hbp : Below w.heap.size w ((w9.setRow B7 (putAt cs7 (k * 8) (fEnc x))).setCell ⟨B8, k, none⟩ (.bool true)) := (below_setRow hB9' (by omega) _).setCell (p := ⟨B8, k, none⟩) (by show w.heap.size ≤ B8; omega) _
              have HP := hidp hput
              have HKp := hidp hkp
              have HBp := hidp hbp
              have h6p : ((w9.setRow B7 (putAt cs7 (k * 8) (fEnc x))).setCell ⟨B8, k, none⟩ (.bool true)).heap[B6]? = some (.cells Try.zeroCells70 70 (0, 0)) := heap_set_ne ((setRow_other _ _ _ _ (by omega)).trans h96) (by omega) _ _
              have hxp : ((w9.setRow B7 (putAt cs7 (k * 8) (fEnc x))).setCell ⟨B8, k, none⟩ (.bool true)).heap[B9]? = some (.cells #[.int .i64 x.key.kind, .int .i64 x.key.subj, .int .i64 x.key.obj, .int .i64 x.val, .int .i64 x.fr, .int .i64 x.to, .int .i64 x.known, .int .i64 x.no] 28 (0, 0)) := heap_set_ne ((setRow_other _ _ _ _ (by omega)).trans h9x) (by omega) _ _
              have H6p := hidp h6p
              have Hxp := hidp hxp
              clear hput hkp hbp h6p hxp hT9 h96 h9x hk9 hB9'
              gi_wp2_with (first | (refine wpListIn_store_at (vs := fEnc x) 28 (.tmp 44) (.tmp 43) rfl rfl rfl rfl k7 (by rw [hiE]; simp [hsE, fEnc_len]) (by rw [fEnc_len]; omega) (fEnc_one x) ?_))
              go_roundw
              case rel => exact ⟨(k : Int) + 1, rfl, by omega, HP.out.congr (fun j _ => upTo_step pre x k HAt.out j (by rw [HBn.out]; exact better_new HAt.out)), HKp.out, H6p.out, Hxp.out, HBp.out⟩
              case measure => simp [intOf]; omega
            · have hbs : bestF pre k = some f := by
                rcases HS.out with ⟨h, _⟩ | ⟨_, h⟩
                · cases h
                · exact h
              have HBs := hidp hbs
              obtain ⟨zb, hzb⟩ : ∃ z, x.bef f = z := ⟨_, rfl⟩
              have HV := hidp hzb
              have HW := hidp (bef_cmp hzb)
              clear hbs hzb
              gi_wp2_with fail
              refine wpIn_region_below ll m wr.heap.size (by kernel_rfl) (by kernel_rfl) ?_
              repeat
                first
                | go_big_quiet_skip
                | (refine q_step (by rfl) ?_
                   apply Exists.intro
                   refine ⟨fun w9 h9 => ?_, ?_⟩
                   · have hc9 := (bcell h9).1
                     go_simp
                     first | done | rfl | exact calls_below h9 (Nat.le_refl _) ((fcmp_any x f w9).mono fun _ _ ⟨he, hd⟩ => ⟨he, hd.b⟩)
                   go_simp)
              refine wpQuiet_nil ?_
              intro w9 hb9
              have hb9z := hb9.size
              have hB9' := HBw.out.trans (hb9.mono HBw.out.size)
              have hT9 := HT.out.keep (hb9.block _ hl7) (hb9.block _ hl8)
              have h9x := (hb9.block _ lx).trans HX.out
              have h96 := (hb9.block _ l6).trans H6.out
              have hk9 := HK.out.trans (kept_of_below (M := fun b => b = B7 ∨ b = B8) hb9 (by omega))
              clear d0 d1 d2 d3 d4 d5 d6 d7 d8 x0 x1 x2 x3 x4 x5 x6 x7
              rw [HW.out]
              cases zb
              · skip
                obtain ⟨cs7, cs8, k7, k8, z7, z8, _⟩ := id hT9
                have hfz8 := hT9.frozen.2
                obtain ⟨_, _, _, e8, _⟩ := hT9.get hk4
                have x0 := cell_of_heap (o := 0) h9x
                have x1 := cell_of_heap (o := 1) h9x
                have x2 := cell_of_heap (o := 2) h9x
                have x3 := cell_of_heap (o := 3) h9x
                have x4 := cell_of_heap (o := 4) h9x
                have x5 := cell_of_heap (o := 5) h9x
                have x6 := cell_of_heap (o := 6) h9x
                have x7 := cell_of_heap (o := 7) h9x
                simp only [List.getElem?_toArray, List.getElem?_cons_zero, List.getElem?_cons_succ] at x0 x1 x2 x3 x4 x5 x6 x7
                have e8' : (w9.setRow B7 (putAt cs7 (k * 8) (fEnc x))).cell? ⟨B8, k, none⟩ = some (.bool _) := (World.cell?_of_block (w := w9) (a := ⟨B8, k, none⟩) (setRow_other _ _ _ _ (by show B8 ≠ B7; omega))).trans e8
                have f8' : (w9.setRow B7 (putAt cs7 (k * 8) (fEnc x))).frozen? ⟨B8, k, none⟩ = false := (World.frozen?_of_block (w := w9) (a := ⟨B8, k, none⟩) (setRow_other _ _ _ _ (by show B8 ≠ B7; omega))).trans (hfz8 _)
                have hput := hT9.put hk4 x (by omega) k7
                have hkp : Kept (fun b => b = B7 ∨ b = B8) W2 ((w9.setRow B7 (putAt cs7 (k * 8) (fEnc x))).setCell ⟨B8, k, none⟩ (.bool true)) := (kept_setRow hk9 (.inl rfl) _).setCell (p := ⟨B8, k, none⟩) (.inl (.inr rfl)) _
                have hbp : Below w.heap.size w ((w9.setRow B7 (putAt cs7 (k * 8) (fEnc x))).setCell ⟨B8, k, none⟩ (.bool true)) := (below_setRow hB9' (by omega) _).setCell (p := ⟨B8, k, none⟩) (by show w.heap.size ≤ B8; omega) _
                have HP := hidp hput
                have HKp := hidp hkp
                have HBp := hidp hbp
                have h6p : ((w9.setRow B7 (putAt cs7 (k * 8) (fEnc x))).setCell ⟨B8, k, none⟩ (.bool true)).heap[B6]? = some (.cells Try.zeroCells70 70 (0, 0)) := heap_set_ne ((setRow_other _ _ _ _ (by omega)).trans h96) (by omega) _ _
                have hxp : ((w9.setRow B7 (putAt cs7 (k * 8) (fEnc x))).setCell ⟨B8, k, none⟩ (.bool true)).heap[B9]? = some (.cells #[.int .i64 x.key.kind, .int .i64 x.key.subj, .int .i64 x.key.obj, .int .i64 x.val, .int .i64 x.fr, .int .i64 x.to, .int .i64 x.known, .int .i64 x.no] 28 (0, 0)) := heap_set_ne ((setRow_other _ _ _ _ (by omega)).trans h9x) (by omega) _ _
                have H6p := hidp h6p
                have Hxp := hidp hxp
                clear hput hkp hbp h6p hxp hT9 h96 h9x hk9 hB9'
                gi_wp2_with (first | (refine wpListIn_store_at (vs := fEnc x) 28 (.tmp 44) (.tmp 43) rfl rfl rfl rfl k7 (by rw [hiE]; simp [hsE, fEnc_len]) (by rw [fEnc_len]; omega) (fEnc_one x) ?_))
                go_roundw
                case rel => exact ⟨(k : Int) + 1, rfl, by omega, HP.out.congr (fun j _ => upTo_step pre x k HAt.out j (by rw [HBs.out]; exact better_up HAt.out HV.out)), HKp.out, H6p.out, Hxp.out, HBp.out⟩
                case measure => simp [intOf]; omega
              · gi_wp2_with fail
                go_roundw
                case rel =>
                  refine ⟨(k : Int) + 1, rfl, by omega, hT9.congr (fun j _ => ?_), hk9, h96, h9x, hB9'⟩
                  rw [upTo_step pre x k HAt.out j (b := some f) (by rw [HBs.out]; exact better_old HAt.out HV.out)]
                  split
                  · rename_i hjk; rw [hjk, upTo_at, HBs.out]
                  · rfl
                case measure => simp [intOf]; omega
          · try have hge1 : 1024 ≤ z := by omega
            try have hge2 : x.to ≤ z := by omega
            have hTe := hT.congr (fun j hj => (upTo_end pre x z j hj hlt).symm)
            have HTe := hidp hTe
            clear hlt hTe hT
            gi_wp2
            exact ⟨hkp, h6b, HTe.out, hbw⟩
  case done =>
    rintro D W hD hlt ⟨h1, h2, h3⟩ hk
    obtain ⟨L, hL⟩ : ∃ L, ofF l kk known = L := ⟨_, rfl⟩
    have HL := hidp hL
    rw [hL] at h2
    have HT1 := hidp h2
    have HK1 := hidp hk
    have H61 := hidp h1
    clear hk h1 h2 hseq hL hT0
    go_wp2_with fail
    go_loopw [11, 46] (fun _ i wr => ∃ k : Nat, k ≤ 1024 ∧ i = .int .i64 k ∧ (∃ cs6, wr.heap[B6]? = some (.cells cs6 70 (0, 0)) ∧ cs6.size = 1024 ∧ (∀ v ∈ cs6, v.oneCell' = true) ∧ ∀ j, j < k → cs6[j]? = some (.int .i64 (rowAt (bestF L j)))) ∧ Tab wr B7 B8 (fun j => bestF L j) ∧ Below w.heap.size w wr ∧ wr.heap[D]? = some (.deferred (some []))) (fun _ i _ => 1024 - (intOf i).toNat)
    case atStart => exact ⟨0, by omega, rfl, ⟨_, H61.out, zeros_row.1, zeros_one, fun j hj => by omega⟩, HT1.out, h3, HK1.out⟩
    case round =>
      obtain ⟨k, hk, rfl, ⟨cs6, h6, z6, ho6, hr6⟩, hT, hbe, hDk⟩ := hrel
      have HR6 := hidp hr6
      have H6 := hidp h6
      have HT := hidp hT
      have HD := hidp hDk
      have HO := hidp ho6
      have l6 := lt_of_heap h6
      have lT := hT.lt
      have lD := lt_of_heap hDk
      clear hr6 hDk ho6
      by_cases hlt : k < 1024
      · have hlt' : (k : Int) < 1024 := by omega
        obtain ⟨v6, hv6⟩ : ∃ v, cs6[k]? = some v := ⟨cs6[k], Array.getElem?_eq_getElem (by omega)⟩
        have c6 := (cell_of_heap (o := k) h6).trans hv6
        have f6 := frozen_of_heap (o := k) h6
        obtain ⟨sm, f, hst, e8, e0, e1, e2, e3, e4, e5, e6, e7⟩ := hT.get hlt
        have HS := hidp hst
        have n8 : B8 ≠ B6 := by omega
        have n7 : B7 ≠ B6 := by omega
        clear hst h6 hT hv6
        cases sm
        · have hv : rowAt (bestF L k) = -1 := by
            rcases HS.out with ⟨_, h⟩ | ⟨h, _⟩
            · rw [h]; rfl
            · cases h
          have HV := hidp hv
          clear hv
          go_wp2_with fail
          go_roundw
          case rel =>
            refine ⟨k + 1, by omega, by go_num, ⟨_, heap_set H6.out k _, by simpa using z6, ?_, ?_⟩, HT.out.keep (Below.heap_setCell _ _ _ _ (by show B7 ≠ B6; omega)) (Below.heap_setCell _ _ _ _ (by show B8 ≠ B6; omega)), hbe.setCell (p := ⟨B6, k, none⟩) (by show w.heap.size ≤ B6; omega) _, (Below.heap_setCell _ _ _ _ (by show D ≠ B6; omega)).trans HD.out⟩
            · exact one_set HO.out rfl k
            · exact row_set z6 (by omega) HR6.out HV.out
          case measure => simp [intOf]; omega
        · have hv : rowAt (bestF L k) = max f.val (-1) := by
            rcases HS.out with ⟨h, _⟩ | ⟨_, h⟩
            · cases h
            · rw [h]; rfl
          have HV := hidp hv
          clear hv
          rcases Int.lt_or_le f.val (-1) with hn | hn
          · have hm : max f.val (-1) = -1 := by omega
            have HM := hidp hm
            clear hm
            go_wp2_with fail
            go_roundw
            case rel =>
              refine ⟨k + 1, by omega, by go_num, ⟨_, heap_set (heap_set H6.out k _) k _, by simpa using z6, ?_, ?_⟩, HT.out.keep ?_ ?_, (hbe.setCell (p := ⟨B6, k, none⟩) (by show w.heap.size ≤ B6; omega) _).setCell (p := ⟨B6, k, none⟩) (by show w.heap.size ≤ B6; omega) _, ?_⟩
              · exact one_set (one_set HO.out rfl k) rfl k
              · exact row_set (by simpa using z6) (by omega) (fun j hj => by rw [row_other _ _ (by omega)]; exact HR6.out j hj) (HV.out.trans HM.out)
              · rw [Below.heap_setCell _ _ _ _ (by show B7 ≠ B6; omega), Below.heap_setCell _ _ _ _ (by show B7 ≠ B6; omega)]
              · rw [Below.heap_setCell _ _ _ _ (by show B8 ≠ B6; omega), Below.heap_setCell _ _ _ _ (by show B8 ≠ B6; omega)]
              · rw [Below.heap_setCell _ _ _ _ (by show D ≠ B6; omega), Below.heap_setCell _ _ _ _ (by show D ≠ B6; omega)]; exact HD.out
            case measure => simp [intOf]; omega
          · have hm : max f.val (-1) = f.val := by omega
            have HM := hidp hm
            clear hm
            go_wp2_with fail
            go_roundw
            case rel =>
              refine ⟨k + 1, by omega, by go_num, ⟨_, heap_set (heap_set H6.out k _) k _, by simpa using z6, ?_, ?_⟩, HT.out.keep ?_ ?_, (hbe.setCell (p := ⟨B6, k, none⟩) (by show w.heap.size ≤ B6; omega) _).setCell (p := ⟨B6, k, none⟩) (by show w.heap.size ≤ B6; omega) _, ?_⟩
              · exact one_set (one_set HO.out rfl k) rfl k
              · exact row_set (by simpa using z6) (by omega) (fun j hj => by rw [row_other _ _ (by omega)]; exact HR6.out j hj) (HV.out.trans HM.out)
              · rw [Below.heap_setCell _ _ _ _ (by show B7 ≠ B6; omega), Below.heap_setCell _ _ _ _ (by show B7 ≠ B6; omega)]
              · rw [Below.heap_setCell _ _ _ _ (by show B8 ≠ B6; omega), Below.heap_setCell _ _ _ _ (by show B8 ≠ B6; omega)]
              · rw [Below.heap_setCell _ _ _ _ (by show D ≠ B6; omega), Below.heap_setCell _ _ _ _ (by show D ≠ B6; omega)]; exact HD.out
            case measure => simp [intOf]; omega
      · obtain rfl : k = 1024 := by omega
        have hcs : cs6 = rowV l kk known := rowV_eq z6 fun j hj => by rw [HR6.out j hj, ← HL.out, rowAt_val]
        have hput : putAt cs6 0 cs6.toList = cs6 := putAt_self cs6
        have HCs := hidp hcs
        have HPut := hidp hput
        clear hcs hput hT
        go_wp2_with (first | (refine wpList_load_row rfl 70 (.tmp 6) rfl B6 rfl 70 cs6 (0, 0) _ h6 Try.underlying70 rfl (by rw [z6]; exact rowInfo) ?_) | (refine wpList_store_at (vs := cs6.toList) 70 (.tmp 6) (.tmp 62) rfl rfl rfl rfl h6 (by rw [Array.length_toList, z6]; exact rowInfo) (by rw [Array.length_toList]; omega) (fun v hv => HO.out v (by simpa using hv)) ?_))
        have hB' : Below w.heap.size w (wr.setRow B6 (putAt cs6 0 cs6.toList)) := below_setRow hbe (by omega) _
        have hD' : (wr.setRow B6 (putAt cs6 0 cs6.toList)).heap[D]? = some (.deferred (some [])) := (setRow_other _ _ _ _ (by omega)).trans HD.out
        have h6' : ((wr.setRow B6 (putAt cs6 0 cs6.toList)).putObj D (.deferred none)).heap[B6]? = some (.cells cs6 70 (0, 0)) := by
          rw [World.putObj_heap_other (by omega), HPut.out]
          exact setRow_heap wr B6 cs6 _ _ _ h6
        have hBD := hB'.trans (((Kept.refl (fun b => b = D) (wr.setRow B6 (putAt cs6 0 cs6.toList))).putObj (r := D) (.inl rfl) (.deferred none)).toBelow hB'.size (by omega))
        refine leave_mark (.inl rfl) (D := D) hD' rfl (v := .agg cs6) ?_ ⟨by rw [HCs.out], hBD⟩
        exact results_cell_row (P := Try.prog) (fn := Try.f39) rfl _ _ B6 70 cs6 (0, 0) _ rfl h6' Try.underlying70 rfl (by rw [z6]; exact rowInfo)
  case stop => rintro D cd W hD hlt h; exact h.elim
end Go.Proofs.Ytoalmffhiinbbaa
