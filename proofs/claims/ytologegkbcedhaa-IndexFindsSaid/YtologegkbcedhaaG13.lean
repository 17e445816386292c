/- index.Affected walked (printed by tools/gen55.py). -/
import Derived.Test.YtologegkbcedhaaG11
import Derived.Test.YtologegkbcedhaaG12
import Derived.Test.YtologegkbcedhaaMarks
namespace Go.Proofs.Ytologegkbcedhaa
open Go.RowKit Go.Shelf
attribute [local go_sem] Oper.semAt_some

theorem kept_trans2 {M N : Nat → Prop} {A B C : World} (h : Kept M A B) (k : Kept N B C) (hN : ∀ b, b < A.heap.size → N b → M b) : Kept M A C :=
  ⟨k.os.trans h.os, k.tape.trans h.tape, k.output.trans h.output, Nat.le_trans h.size k.size, fun b hb hm => (k.block b (Nat.lt_of_lt_of_le hb h.size) fun h' => hm (hN b hb h')).trans (h.block b hb hm)⟩
def hitsC (X : List Lk) (ch : Ch) : List Int := ((ofL X ch.1).filter fun x => touchS x.1 ch.2).map (·.2)
def hitsTo (X : List Lk) (cs : List Ch) : List Int := cs.flatMap (hitsC X)
def addAll (ks l : List Int) : List Int := l.foldl addKey ks
theorem hitsTo_step {X : List Lk} {cs : List Ch} {k : Nat} {ch : Ch} (h : cs[k]? = some ch) : hitsTo X (cs.take (k + 1)) = hitsTo X (cs.take k) ++ hitsC X ch := by
  rw [take_snoc h, hitsTo, List.flatMap_append]; simp [hitsTo]
theorem hitsC_len (X : List Lk) (ch : Ch) : (hitsC X ch).length ≤ X.length := by
  rw [hitsC, List.length_map]
  exact Nat.le_trans (List.length_filter_le _ _) (List.length_filter_le _ _)
theorem hitsTo_len (X : List Lk) (cs : List Ch) : (hitsTo X cs).length ≤ cs.length * X.length := by
  induction cs with
  | nil => simp [hitsTo]
  | cons ch cs ih =>
    have := hitsC_len X ch
    rw [hitsTo, List.flatMap_cons, List.length_append, List.length_cons, Nat.add_mul, Nat.one_mul]
    rw [hitsTo] at ih
    omega
theorem addAll_len (l : List Int) : ∀ ks : List Int, (addAll ks l).length ≤ ks.length + l.length := by
  induction l with
  | nil => simp [addAll]
  | cons x l ih =>
    intro ks
    have h1 := ih (addKey ks x)
    have h2 : (addKey ks x).length ≤ ks.length + 1 := by unfold addKey; split <;> simp
    simp only [addAll, List.foldl_cons, List.length_cons] at h1 ⊢
    omega
theorem addAll_mem (l : List Int) (v : Int) : ∀ ks : List Int, v ∈ addAll ks l ↔ v ∈ ks ∨ v ∈ l := by
  induction l with
  | nil => simp [addAll]
  | cons x l ih =>
    intro ks
    have h1 := ih (addKey ks x)
    have h2 : v ∈ addKey ks x ↔ v ∈ ks ∨ v = x := by
      unfold addKey
      split
      · rename_i h
        constructor
        · exact .inl
        · rintro (h' | rfl)
          · exact h'
          · exact h
      · simp
    simp only [addAll, List.foldl_cons] at h1 ⊢
    rw [h1, h2, List.mem_cons, or_assoc]
theorem hitsTo_mem (X : List Lk) (cs : List Ch) (v : Int) : v ∈ hitsTo X cs ↔ v ∈ hitL X cs := by
  simp only [hitsTo, hitsC, hitL, ofL, List.mem_flatMap, List.mem_map, List.mem_filter, List.any_eq_true, touchC, Bool.and_eq_true, decide_eq_true_iff]
  constructor
  · rintro ⟨ch, hc, x, ⟨⟨hx, hk⟩, ht⟩, rfl⟩
    exact ⟨x, ⟨hx, ch, hc, hk, ht⟩, rfl⟩
  · rintro ⟨x, ⟨hx, ch, hc, hk, ht⟩, rfl⟩
    exact ⟨ch, hc, x, ⟨⟨hx, hk⟩, ht⟩, rfl⟩
theorem KM.nodup {α : Type} {K : α → Value} {W : World} {b : Nat} {ks : List α} (h : KM K W b ks) : ks.Nodup := by
  obtain ⟨_, _, _, _, h, _⟩ := h; exact h
theorem sorted_aff {X : List Lk} {cs : List Ch} {xs : List Int} (hn : xs.Nodup) (hm : ∀ v, v ∈ xs ↔ v ∈ hitL X cs) : (xs.mergeSort fun x y => decide (x ≤ y)) = affL X cs := by
  have hp := List.mergeSort_perm xs fun x y => decide (x ≤ y)
  have hs := List.pairwise_mergeSort (le := fun x y : Int => decide (x ≤ y)) (fun a b c h1 h2 => by simp at *; omega) (fun a b => by simp; omega) xs
  refine str_ext linI ?_ (ordOf_str linI _) fun v => by rw [hp.mem_iff, hm, affL, ordOf_mem]
  have hnd : (xs.mergeSort fun x y => decide (x ≤ y)).Nodup := hp.nodup_iff.2 hn
  refine (List.Pairwise.and hs hnd).imp fun {a b} h => ?_
  have h1 := h.1
  have h2 := h.2
  simp at h1 ⊢
  omega
/-- What Affected hands back. -/
def AffPost (l : List Int) (w : World) (e : Ending) (w' : World) : Prop := ∃ A n c, e = .returned (.slice A n c) ∧ iSl w' w'.heap.size A n c l ∧ Below w.heap.size w w'

set_option maxRecDepth 100000 in
set_option maxHeartbeats 4000000 in
theorem xAffected_any (A : Option Addr) (n c : Nat) (X : List Lk) (A' : Option Addr) (n' c' : Nat) (raw : List Cr) (cs : List Ch) (w : World) (hl : lSl w w.heap.size A n c X) (hc : cSl w w.heap.size A' n' c' raw) (hcs : ChOks w raw cs) (hn : n ≤ 1000) (hn' : n' ≤ 1000) :
    Calls Try.prog 21 #[.agg #[.slice A n c], .slice A' n' c'] w (AffPost (affL X cs) w) := by
  have HN := hidp hl.1
  have HN' := hidp hc.1
  have hcap := hl.2.2.1
  have hlen := hl.2.1
  have hcap' := hc.2.2.1
  have hlen' := hc.2.1
  have hmm := @run_makeMap Try.prog
  refine calls_of_wp_marks Try.func21 rfl ?_
  simp only [Try.ntmps21, List.size_toArray, List.length_cons, List.length_nil, Nat.reduceAdd, Nat.reduceSub, Array.replicate_succ, Array.replicate_zero, List.push_toArray, List.append_toArray, List.nil_append, List.cons_append]
  obtain ⟨W0, hW0⟩ : ∃ W0, ((w.alloc (.cells #[.slice A n c] 28)).alloc (.map #[] 0)).alloc (.cells #[.map (some (w.heap.size + 1))] 76) = W0 := ⟨_, rfl⟩
  have hBW : Below w.heap.size w W0 := by rw [← hW0]; exact (((Below.refl _ w).alloc (Nat.le_refl _) _).alloc (by simp) _).alloc (by simp only [World.size_alloc]; omega) _
  have hz0 : W0.heap.size = w.heap.size + 1 + 1 + 1 := by rw [← hW0]; simp only [World.size_alloc]
  have g0 : W0.heap[w.heap.size]? = some (.cells #[.slice A n c] 28 (0, 0)) := by
    rw [← hW0]
    exact (Below.heap_alloc _ _ _ (by simp only [World.size_alloc]; omega)).trans ((Below.heap_alloc _ _ _ (by simp)).trans (World.alloc_heap_new w _))
  have g1 : KM iV W0 (w.heap.size + 1) ([] : List Int) := by
    rw [← hW0]
    have := KM.made (K := iV) (w.alloc (.cells #[.slice A n c] 28))
    rw [World.size_alloc] at this
    exact this.keep (Below.heap_alloc _ _ _ (by simp))
  have g2 : W0.heap[w.heap.size + 1 + 1]? = some (.cells #[.map (some (w.heap.size + 1))] 76 (0, 0)) := by
    rw [← hW0]
    have := World.alloc_heap_new ((w.alloc (.cells #[.slice A n c] 28)).alloc (.map #[] 0)) (.cells #[.map (some (w.heap.size + 1))] 76)
    simp only [World.size_alloc] at this
    exact this
  have HW0 := hidp hW0
  have G0 := hidp g0
  have G1 := hidp g1
  have G2 := hidp g2
  have HBW := hidp hBW
  clear hW0 g0 g1 g2 hBW
  go_wp2_with fail
  rw [HW0.out]
  refine wp_loop (fun a' wr => ∃ (k : Nat) (Ds : List Nat) (u7 u13 u14 u15 u16 u17 u18 u19 u29 : Value), k ≤ n' ∧ wr.heap[w.heap.size]? = some (.cells #[.slice A n c] 28 (0, 0)) ∧ wr.heap[w.heap.size + 1 + 1]? = some (.cells #[.map (some (w.heap.size + 1))] 76 (0, 0)) ∧ KM iV wr (w.heap.size + 1) (addAll [] (hitsTo X (cs.take k))) ∧ Marks (w.heap.size + 1 + 1 + 1) Ds wr ∧ Below w.heap.size w wr ∧ a' = { tmps := #[.agg #[.slice A n c], .slice A' n' c', .pointer (some ⟨w.heap.size, 0, none⟩), undef, .slice none 0 0, .pointer (some ⟨w.heap.size + 1 + 1, 0, none⟩), undef, u7, undef, .map (some (w.heap.size + 1)), .slice A' n' c', .int .i64 n', .int .i64 k, u13, u14, u15, u16, u17, u18, u19, undef, undef, undef, undef, undef, undef, undef, undef, undef, u29, undef, undef, undef], defers := Ds.map markOf }) (fun a' _ => n' - (intOf (a'.tmps.getD 12 undef)).toNat) ?start ?round
  case start => exact ⟨0, [], undef, undef, undef, undef, undef, undef, undef, undef, undef, by omega, G0.out, G2.out, G1.out, Marks.nil _ _, HBW.out, rfl⟩
  case round =>
    rintro a' wr ⟨k, Ds, u7, u13, u14, u15, u16, u17, u18, u19, u29, hk, e0, e2, hkm, hmk, hbe, rfl⟩
    have E0 := hidp e0
    have E2 := hidp e2
    have HKM := hidp hkm
    have HMK := hidp hmk
    have l0 := lt_of_heap e0
    have l2 := lt_of_heap e2
    clear e0 e2 hkm hmk
    by_cases hlt : k < n'
    · obtain ⟨b, off, r, rfl, hb, hzr, c0, c1, c2, c3⟩ := cSl.get (hc.keep cStable (Nat.le_refl _) hbe.block) hlt
      obtain ⟨ch, hch⟩ : ∃ ch, cs[k]? = some ch := by
        have h1 := (List.getElem?_eq_some_iff.1 hzr).1
        rw [hcs.1] at h1
        exact ⟨_, List.getElem?_eq_getElem h1⟩
      obtain ⟨hkey, hterms⟩ := (hcs.below hbe).2 k r ch hzr hch
      have HCH := hidp hch
      have HKEY := hidp hkey
      have HTE := hidp hterms
      have HST : Hid (hitsTo X (cs.take (k + 1)) = hitsTo X (cs.take k) ++ hitsC X ch) := hitsTo_step hch
      have hkn : (k : Int) < n' := by omega
      have lb := lt_of_cell c0
      obtain ⟨wk, hwk⟩ : ∃ wk, wr.alloc (.cells #[.int .i64 r.1.kind, .int .i64 r.1.subj, .int .i64 r.1.obj, .slice r.2.1 r.2.2.1 r.2.2.2] 63) = wk := ⟨_, rfl⟩
      have hbk : Below wr.heap.size wr wk := hwk ▸ (Below.refl _ wr).alloc (Nat.le_refl _) _
      have hkb : wk.heap[wr.heap.size]? = some (.cells #[.int .i64 r.1.kind, .int .i64 r.1.subj, .int .i64 r.1.obj, .slice r.2.1 r.2.2.1 r.2.2.2] 63 (0, 0)) := hwk ▸ World.alloc_heap_new _ _
      have HWK := hidp hwk
      have x0 := cell_of_heap (o := 0) hkb
      have x1 := cell_of_heap (o := 1) hkb
      have x2 := cell_of_heap (o := 2) hkb
      have e0k := cell_of_heap (o := 0) ((hbk.block _ l0).trans E0.out)
      have e0r := cell_of_heap (o := 0) E0.out
      simp only [List.getElem?_toArray, List.getElem?_cons_zero, List.getElem?_cons_succ] at x0 x1 x2 e0k e0r
      have hwz := lt_of_heap hkb
      have l0k := lt_of_cell e0k
      have HKB := hidp hkb
      have HBK := hidp hbk
      have HBE := hidp hbe
      have hbz := hbe.size
      clear hwk hkb hbk hzr hch hkey hterms hbe
      go_wp2_with fail
      rw [HWK.out]
      go_wp2_with fail
      refine (xof_any A n c r.1 wk).mono ?_
      rintro e w1 ⟨rfl, hw1⟩
      have m1 : w1.heap[wk.heap.size]? = some (.cells #[.slice A n c] 28 (0, 0)) := by rw [← hw1]; exact (Below.heap_alloc _ _ _ (by simp)).trans (World.alloc_heap_new _ _)
      have m2 : w1.heap[wk.heap.size + 1]? = some (.cells #[.int .i64 r.1.kind, .int .i64 r.1.subj, .int .i64 r.1.obj] 45 (0, 0)) := by rw [← hw1]; have := World.alloc_heap_new (wk.alloc (.cells #[.slice A n c] 28)) (.cells #[.int .i64 r.1.kind, .int .i64 r.1.subj, .int .i64 r.1.obj] 45); rwa [World.size_alloc] at this
      have hb1 : Below wk.heap.size wk w1 := by rw [← hw1]; exact ((Below.refl _ wk).alloc (Nat.le_refl _) _).alloc (by simp) _
      have hz1 : wk.heap.size + 2 ≤ w1.heap.size := by rw [← hw1]; simp
      have hBr1 : Below wr.heap.size wr w1 := HBK.out.trans (hb1.mono HBK.out.size)
      have hB1 : Below w.heap.size w w1 := HBE.out.trans (hBr1.mono HBE.out.size)
      have hseq := xof1_seq wk.heap.size (wk.heap.size + 1) w.heap.size A n c X r.1 w1 (by rw [cell_of_heap m1]; rfl) m2 (hl.keep lStable (Nat.le_refl _) hB1.block)
      have HSq := hidp hseq
      have E01 := hidp ((hBr1.block _ l0).trans E0.out)
      have E21 := hidp ((hBr1.block _ l2).trans E2.out)
      have KM1 := hidp (HKM.out.keep (hBr1.block _ HKM.out.lt))
      have MK1 := hidp (HMK.out.keep fun D hD => hBr1.block _ (HMK.out.lt D hD))
      have KB1 := hidp ((hb1.block _ hwz).trans HKB.out)
      have HTE1 : Hid (sSl w1 wr.heap.size r.2.1 r.2.2.1 r.2.2.2 ch.2) := HTE.out.keep sStable (Nat.le_refl _) hBr1.block
      have HB1 := hidp hB1
      have HBr1 := hidp hBr1
      have hsz1 := hB1.size
      have hszr := HBr1.out.size
      clear hw1 m1 m2 hb1 hseq hB1 hBr1 x0 x1 x2 e0k e0r
      go_wp2_with fail
      refine wp_rangeM (gf := 56) (lb := #[.pointer (some ⟨wk.heap.size, 0, none⟩), .pointer (some ⟨wk.heap.size + 1, 0, none⟩)]) rfl (enters_of Try.func56 (by kernel_rfl) rfl) HSq.out (fun b => b = w.heap.size + 1) ?S (fun _ => rfl) ?M
        (fun pre W => KM iV W (w.heap.size + 1) (addAll (addAll [] (hitsTo X (cs.take k))) ((pre.filter fun x => touchS x.1 ch.2).map (·.2))) ∧ Kept (fun b => b = w.heap.size + 1) w1 W)
        (fun _ _ => False)
        ?hI ?hIx ?h0 (fun ll pre x a' W => ∃ (B8 : Nat), KM iV W (w.heap.size + 1) (addAll (addAll [] (hitsTo X (cs.take k))) ((pre.filter fun x => touchS x.1 ch.2).map (·.2))) ∧ Kept (fun b => b = w.heap.size + 1) w1 W ∧ B8 ≠ ll ∧ w1.heap.size ≤ B8 ∧ W.heap[B8]? = some (.cells #[.int .i64 x.1.1.kind, .int .i64 x.1.1.subj, .int .i64 x.1.1.obj, .int .i64 x.1.2.1, .int .i64 x.1.2.2, .int .i64 x.2] 49 (0, 0)) ∧
          a' = { tmps := #[.agg #[.slice A n c], .slice (some ⟨b, off, none⟩) n' c', .pointer (some ⟨w.heap.size, 0, none⟩), undef, .slice none 0 0, .pointer (some ⟨w.heap.size + 1 + 1, 0, none⟩), undef, .pointer (some ⟨wr.heap.size, 0, none⟩), .pointer (some ⟨B8, 0, none⟩), .map (some (w.heap.size + 1)), .slice (some ⟨b, off, none⟩) n' c', .int .i64 n', .int .i64 k, .bool true, .pointer (some ⟨b, off + k * 4, none⟩), .agg #[.int .i64 r.1.kind, .int .i64 r.1.subj, .int .i64 r.1.obj, .slice r.2.1 r.2.2.1 r.2.2.2], .agg #[.slice A n c], .pointer (some ⟨wr.heap.size, 0, none⟩), .agg #[.int .i64 r.1.kind, .int .i64 r.1.subj, .int .i64 r.1.obj], .func (.func 56) #[] #[.pointer (some ⟨wk.heap.size, 0, none⟩), .pointer (some ⟨wk.heap.size + 1, 0, none⟩)], .agg #[.int .i64 x.1.1.kind, .int .i64 x.1.1.subj, .int .i64 x.1.1.obj, .int .i64 x.1.2.1, .int .i64 x.1.2.2, .int .i64 x.2], undef, undef, undef, undef, undef, undef, undef, undef, u29, undef, undef, undef], defers := [] })
        ?hAx ?assign ?body ?done ?stop
      case S =>
        rintro q (hq | rfl | rfl) <;> exact ⟨by omega, rfl, by omega⟩
      case M => rintro q rfl; omega
      case hI =>
        rintro pre W1 W2 ⟨h1, h2⟩ hk
        exact ⟨h1.keep (hk.block _ h1.lt (by omega)), kept_trans2 h2 hk (fun q hq h => by omega)⟩
      case hIx => rintro cd W1 W2 h; exact h.elim
      case h0 => exact ⟨KM1.out, Kept.refl _ _⟩
      case hAx =>
        rintro ll pre x a' W2 W3 hll ⟨B8, h1, h2, h3, h4, h5, rfl⟩ _ hk
        exact ⟨B8, h1.keep (hk.block _ h1.lt (by omega)), kept_trans2 h2 hk (fun q hq h => by omega), h3, h4, (hk.block _ (lt_of_heap h5) h3).trans h5, rfl⟩
      case assign =>
        rintro ll m pre x suf W1 K hll hlt2 _ ⟨h1, h2⟩ hK
        have H1 := hidp h1
        have H2 := hidp h2
        have hs2 := h2.size
        clear h1 h2
        gi_wp2
        exact hK _ _ ((Kept.refl _ _).alloc _) ⟨W1.heap.size, H1.out.keep (Below.heap_alloc _ _ _ H1.out.lt), kept_trans2 H2.out ((Kept.refl (fun _ => False) W1).alloc _) (fun _ _ h => h.elim), by omega, by omega, World.alloc_heap_new _ _, rfl⟩
      case body =>
        rintro ll m pre x suf a' W2 hll hxs ⟨B8, h1, h2, h3, h4, h5, rfl⟩ _
        have hs2 := h2.size
        have y0 := cell_of_heap (o := 0) h5
        have y1 := cell_of_heap (o := 1) h5
        have y2 := cell_of_heap (o := 2) h5
        have y3 := cell_of_heap (o := 3) h5
        have y4 := cell_of_heap (o := 4) h5
        have hkb2 := (h2.block _ (lt_of_heap KB1.out) (by omega)).trans KB1.out
        have t3 := cell_of_heap (o := 3) hkb2
        simp only [List.getElem?_toArray, List.getElem?_cons_zero, List.getElem?_cons_succ] at y0 y1 y2 y3 y4 t3
        have l8 := lt_of_heap h5
        have lc := lt_of_heap hkb2
        have hss : sSl W2 W2.heap.size r.2.1 r.2.2.1 r.2.2.2 ch.2 := by
          refine Rows.keep sStable (W := W2) (n₀ := wr.heap.size) ?_ (by omega) (fun _ _ => rfl)
          exact ⟨HTE1.out.1, HTE1.out.2.1, HTE1.out.2.2.1, fun h0 => by
            obtain ⟨bs, os, he, hbs, hx⟩ := HTE1.out.2.2.2 h0
            refine ⟨bs, os, he, hbs, fun i y hy => ?_⟩
            obtain ⟨cs', q1, q2⟩ := hx i y hy
            refine ⟨cs', q1, fun j u hu => ?_⟩
            have hne : bs ≠ w.heap.size + 1 := by
              rintro rfl
              obtain ⟨cs0, q3, q4⟩ := hx 0 (ch.2[0]'(by have := HTE1.out.1; omega)) (List.getElem?_eq_getElem (by have := HTE1.out.1; omega))
              subst q3
              have := q4 0 _ rfl
              obtain ⟨es, clock, hmap, _⟩ := KM1.out
              simp [World.cell?, hmap] at this
            exact (World.cell?_of_block (w := w1) (a := ⟨bs, _, none⟩) (h2.block bs (by omega) hne)).trans (q2 j u hu)⟩
        have HSS := hidp hss
        have H1 := hidp h1
        have H2 := hidp h2
        have H5 := hidp h5
        obtain ⟨z, hz⟩ : ∃ z, touchS x.1 ch.2 = z := ⟨_, rfl⟩
        have HZ := hidp hz
        clear h1 h2 h5 hkb2 hss hz hxs
        gi_wp2
        refine ⟨trivial, fun h => by simp [Fence.wide] at h, (CallsIn.inRound ll (callsIn_wide.2 (xtouched_any x.1 r.2.1 r.2.2.1 r.2.2.2 ch.2 W2 HSS.out))).mono ?_⟩
        rintro e w3 ⟨rfl, hb3⟩
        rw [HZ.out]
        have hK3 : Kept (fun b => b = w.heap.size + 1) W2 w3 := kept_of_below hb3 (fun q h1 h2 => by omega)
        have KM3 := H1.out.keep (hb3.block _ H1.out.lt)
        have e23 := (hb3.block _ (by omega)).trans ((H2.out.block _ (lt_of_heap E21.out) (by omega)).trans E21.out)
        have m3 := cell_of_heap (o := 0) e23
        have e83 := (hb3.block _ l8).trans H5.out
        have y5 := cell_of_heap (o := 5) e83
        simp only [List.getElem?_toArray, List.getElem?_cons_zero, List.getElem?_cons_succ] at m3 y5
        have l23 := lt_of_heap e23
        have l83 := lt_of_heap e83
        cases z
        · have HF : Hid (((pre ++ [x]).filter fun x => touchS x.1 ch.2) = pre.filter fun x => touchS x.1 ch.2) := by show _ = _; rw [List.filter_append]; simp [HZ.out]
          have KM3' := hidp KM3
          clear KM3 e23 e83
          gi_wp2
          exact ⟨hK3, by rw [HF.out]; exact KM3'.out, kept_trans2 H2.out hK3 (fun _ _ h => h)⟩
        · have HF : Hid (((pre ++ [x]).filter fun x => touchS x.1 ch.2) = (pre.filter fun x => touchS x.1 ch.2) ++ [x]) := by show _ = _; rw [List.filter_append]; simp [HZ.out]
          obtain ⟨w4, hup, hkm4, hg4, hsz4⟩ := km_update (P := Try.prog) i_ops KM3 x.2
          have hK4 : Kept (fun b => b = w.heap.size + 1) W2 w4 := hK3.trans ((Kept.refl _ _).grown hg4 fun g e => .inl (by cases e; rfl))
          have KM4 := hidp hkm4
          clear KM3 e23 e83 hkm4 hg4
          gi_wp2
          refine ⟨hK4, ?_, kept_trans2 H2.out hK4 (fun _ _ h => h)⟩
          rw [HF.out, List.map_append, addAll, List.foldl_append]
          exact KM4.out
      case done =>
        rintro D W hD hlt2 ⟨h1, h2⟩ hm
        have h1' : KM iV W (w.heap.size + 1) (addAll [] (hitsTo X (cs.take (k + 1)))) := by
          rw [HST.out, addAll, List.foldl_append]
          have : hitsC X ch = ((ofL X r.1).filter fun x => touchS x.1 ch.2).map (·.2) := by rw [hitsC, HKEY.out]
          rw [this]
          exact h1
        have H1 := hidp h1'
        have H2 := hidp h2
        have HM := hidp hm
        clear h1 h1' h2 hm
        go_wp2_with fail
        refine ⟨⟨k + 1, D :: Ds, _, _, _, _, _, _, _, _, _, by omega, (H2.out.block _ (lt_of_heap E01.out) (by omega)).trans E01.out, (H2.out.block _ (lt_of_heap E21.out) (by omega)).trans E21.out, H1.out, ?_, HB1.out.trans (H2.out.toBelow hsz1 (fun b hb h => by omega)), rfl⟩, by simp [intOf]; omega⟩
        have hmk1 := MK1.out
        refine (hmk1.keep fun E hE => H2.out.block _ (hmk1.lt E hE) (by have := (hmk1.2 E hE).1; omega)).cons (by omega) HM.out fun hE => ?_
        have := hmk1.lt D hE
        omega
      case stop => rintro D cd W hD hlt2 h; exact h.elim
    · obtain rfl : k = n' := by omega
      have HA : Hid (cs.take k = cs) := List.take_of_length_le (by rw [← hcs.1, HN'.out]; exact Nat.le_refl _)
      have hks : (addAll [] (hitsTo X cs)).length ≤ 1000000 := by
        have h1 := addAll_len (hitsTo X cs) []
        have h2 := hitsTo_len X cs
        have h3 : cs.length * X.length ≤ 1000 * 1000 := Nat.mul_le_mul (by rw [← hcs.1, ← HN'.out]; exact hn') (by rw [← HN.out]; exact hn)
        simp at h1
        omega
      have hkm := HKM.out
      rw [HA.out] at hkm
      have HKM' := hidp hkm
      have m3 := cell_of_heap (o := 0) E2.out
      simp only [List.getElem?_toArray, List.getElem?_cons_zero] at m3
      have HBE := hidp hbe
      clear hkm hbe
      go_wp2_with fail
      refine (keysI_any _ _).mono ?_
      rintro e w1 ⟨rfl, hw1⟩
      have hm1 : w1.heap[wr.heap.size]? = some (.cells #[.map (some (w.heap.size + 1))] 76 (0, 0)) := by rw [← hw1]; exact World.alloc_heap_new _ _
      have hkm1 : KM iV w1 (w.heap.size + 1) (addAll [] (hitsTo X cs)) := by rw [← hw1]; exact HKM'.out.keep (Below.heap_alloc _ _ _ HKM'.out.lt)
      have hbw1 : Below wr.heap.size wr w1 := by rw [← hw1]; exact (Below.refl _ wr).alloc (Nat.le_refl _) _
      have hlm := lt_of_heap hm1
      have hlk := hkm1.lt
      have HSq := hidp (keysI1_seq wr.heap.size (w.heap.size + 1) _ w1 (cell_of_heap hm1) hkm1)
      have HND := hidp hkm1.nodup
      have HBw1 := hidp hbw1
      clear hw1 hm1 hkm1 hbw1 m3
      go_wp2_with fail
      refine (sortedI_any 61 _ (enters_of Try.func61 (by kernel_rfl) rfl) _ _ w1 HSq.out (fun q h => by rcases h with h | h <;> omega) (fun xs h => by rw [h.length_eq]; exact hks)).mono ?_
      rintro e w2 ⟨v, xs, rfl, hx, ho, hb2⟩
      have hd : (xs.mergeSort fun x y => decide (x ≤ y)) = affL X cs := sorted_aff (hx.nodup_iff.2 HND.out) fun v => by rw [hx.mem_iff, addAll_mem, hitsTo_mem]; simp
      rw [hd] at ho
      obtain ⟨A9, c9, rfl, _⟩ := own_rows iEnc_len (by decide) ho
      have HO := hidp ho
      have hB2 : Below wr.heap.size wr w2 := HBw1.out.trans (hb2.mono HBw1.out.size)
      have HB2 := hidp hB2
      have HMK2 := hidp (HMK.out.keep fun D hD => hB2.block _ (HMK.out.lt D hD))
      clear ho hx hd hb2 hB2
      go_wp2_with fail
      refine leave_marks (.inl rfl) HMK2.out rfl fun W' hzW hkW => ⟨.slice A9 xs.length c9, by simp [results, Try.f21, go_sem], ?_⟩
      have hoW := own_keepB HO.out (w' := W') fun g hg => hkW.block g (HO.out.lt g hg).2 fun hD => by
        have h1 := (HO.out.lt g hg).1
        have h2 := HMK.out.lt g hD
        have := HBw1.out.size
        omega
      obtain ⟨A8, c8, hA8, r8⟩ := own_rows iEnc_len (by decide) hoW
      injection hA8 with q1 q2 q3
      subst q1 q3
      exact ⟨A9, xs.length, c9, rfl, r8, (HBE.out.trans (HB2.out.mono HBE.out.size)).trans (hkW.toBelow (Nat.le_trans HBE.out.size HB2.out.size) (fun b hb hD => by have := (HMK2.out.2 b hD).1; omega))⟩
end Go.Proofs.Ytologegkbcedhaa
