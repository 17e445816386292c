/- FactsCounts: the plain law, and walked. Printed by tools/gen38.py. -/
import Derived.Test.YtoalmffhiinbbaaF37
import Derived.Test.YtoalmffhiinbbaaRelI
namespace Go.Proofs.Ytoalmffhiinbbaa
open Go.RowKit Go.Shelf

/-- Is it one of those that may count? -/
def candB (k : Ky) (t known : Int) (x : Fc) : Bool := decide (x.key = k) && decide (x.fr ≤ t) && decide (t < x.to) && decide (x.known ≤ known)
/-- y, at j, counts rather than x, at i. -/
def overB (k : Ky) (t known : Int) (x y : Fc) (i j : Nat) : Bool := candB k t known y && (x.bef y || (decide (i < j) && !y.bef x))
def lastTo (l : List Fc) (k : Ky) (t known : Int) (x : Fc) (i m : Nat) : Bool := (List.range m).all fun j => !overB k t known x (l.getD j default) i j
def someTo (l : List Fc) (k : Ky) (t known : Int) (m : Nat) : Bool := (List.range m).any fun i => candB k t known (l.getD i default)
def metTo (l : List Fc) (k : Ky) (t known : Int) (m : Nat) : Bool := (List.range m).any fun i => candB k t known (l.getD i default) && lastTo l k t known (l.getD i default) i l.length
section
variable {l : List Fc} {k : Ky} {t known : Int}
theorem getD_of {m : Nat} {x : Fc} (h : l[m]? = some x) : l.getD m default = x := by rw [List.getD_eq_getElem?_getD, h]; rfl
theorem lastTo_step {x y : Fc} {i m : Nat} (h : l[m]? = some y) : lastTo l k t known x i (m + 1) = (lastTo l k t known x i m && !overB k t known x y i m) := by
  unfold lastTo; rw [List.range_succ, List.all_append, List.all_cons, List.all_nil, getD_of h, Bool.and_true]
theorem someTo_step {x : Fc} {m : Nat} (h : l[m]? = some x) : someTo l k t known (m + 1) = (someTo l k t known m || candB k t known x) := by
  unfold someTo; rw [List.range_succ, List.any_append, List.any_cons, List.any_nil, getD_of h, Bool.or_false]
theorem metTo_step {x : Fc} {m : Nat} (h : l[m]? = some x) : metTo l k t known (m + 1) = (metTo l k t known m || (candB k t known x && lastTo l k t known x m l.length)) := by
  unfold metTo; rw [List.range_succ, List.any_append, List.any_cons, List.any_nil, getD_of h, Bool.or_false]
theorem bef_iff (a b : Fc) : a.bef b = true ↔ a.known < b.known ∨ (a.known = b.known ∧ a.no < b.no) := by simp [Fc.bef]
theorem bef_no (a b : Fc) : a.bef b = false ↔ ¬ (a.known < b.known ∨ (a.known = b.known ∧ a.no < b.no)) := by rw [← bef_iff]; simp
/-- Among the first m, if one may count, one is the last. -/
theorem last_exists (m : Nat) (hm : m ≤ l.length) (h : someTo l k t known m = true) : ∃ i x, i < m ∧ l[i]? = some x ∧ candB k t known x = true ∧ lastTo l k t known x i m = true := by
  induction m with
  | zero => simp [someTo] at h
  | succ m ih =>
    have hx : l[m]? = some l[m] := List.getElem?_eq_getElem (by omega)
    obtain ⟨z, hz⟩ : ∃ z, l[m] = z := ⟨_, rfl⟩
    rw [hz] at hx
    rw [someTo_step hx] at h
    rcases hs : someTo l k t known m with _ | _
    · rw [hs] at h
      simp at h
      refine ⟨m, z, by omega, hx, h, ?_⟩
      unfold lastTo
      rw [List.all_eq_true]
      intro j hj
      have hj' : j < m + 1 := List.mem_range.1 hj
      rcases Nat.lt_or_ge j m with hjm | hjm
      · have hc : candB k t known (l.getD j default) = false := by
          unfold someTo at hs
          rw [List.any_eq_false] at hs
          exact Bool.eq_false_iff.2 (hs j (List.mem_range.2 hjm))
        rw [overB, hc]; rfl
      · obtain rfl : j = m := by omega
        rw [getD_of hx]
        have : z.bef z = false := by rw [bef_no]; omega
        simp [overB, this]
    · obtain ⟨i, x, hi, hxi, hci, hli⟩ := ih (by omega) hs
      rcases hcz : candB k t known z with _ | _
      · exact ⟨i, x, by omega, hxi, hci, by rw [lastTo_step hx, hli]; simp [overB, hcz]⟩
      · rcases hb : z.bef x with _ | _
        · refine ⟨m, z, by omega, hx, hcz, ?_⟩
          unfold lastTo
          rw [List.all_eq_true]
          intro j hj
          have hj' : j < m + 1 := List.mem_range.1 hj
          rcases Nat.lt_or_ge j m with hjm | hjm
          · have hlj : lastTo l k t known x i m = true := hli
            unfold lastTo at hlj
            have := List.all_eq_true.1 hlj j (List.mem_range.2 hjm)
            generalize l.getD j default = y at *
            rcases hcy : candB k t known y with _ | _
            · simp [overB, hcy]
            · simp [overB, hcy] at this
              have h1 := this.1
              have h3 : z.bef y = false := by rw [bef_no] at *; omega
              simp [overB, hcy, h3]
              omega
          · obtain rfl : j = m := by omega
            rw [getD_of hx]
            have : z.bef z = false := by rw [bef_no]; omega
            simp [overB, this]
        · refine ⟨i, x, by omega, hxi, hci, ?_⟩
          rw [lastTo_step hx, hli]
          have h1 : x.bef z = false := by rw [bef_no]; rw [bef_iff] at hb; omega
          simp [overB, h1, hb]
theorem bestF_mem_step {L : List Fc} {t : Int} {x y : Fc} (ih : bestF L t = some y → y ∈ L ∧ y.at t = true) (h : bestF (L ++ [x]) t = some y) : y ∈ L ++ [x] ∧ y.at t = true := by
    rw [bestF_snoc] at h
    unfold better at h
    split at h
    · rename_i hx
      split at h
      · injection h with h
        subst h
        exact ⟨by simp, hx⟩
      · rename_i b hb
        split at h
        · obtain ⟨h1, h2⟩ := ih h
          exact ⟨by simp [h1], h2⟩
        · injection h with h
          subst h
          exact ⟨by simp, hx⟩
    · obtain ⟨h1, h2⟩ := ih h
      exact ⟨by simp [h1], h2⟩
theorem bestF_mem {L : List Fc} {t : Int} {y : Fc} (h : bestF L t = some y) : y ∈ L ∧ y.at t = true := by
  have aux : ∀ (n : Nat) (L : List Fc), L.length = n → bestF L t = some y → y ∈ L ∧ y.at t = true := by
    intro n
    induction n with
    | zero =>
      intro L hL h
      rw [List.eq_nil_of_length_eq_zero hL] at h
      cases h
    | succ n ih =>
      intro L hL h
      have hne : L ≠ [] := by rintro rfl; simp at hL
      obtain ⟨L', x, rfl⟩ : ∃ L' x, L = L' ++ [x] := ⟨L.dropLast, L.getLast hne, (List.dropLast_concat_getLast hne).symm⟩
      exact bestF_mem_step (fun h => ih L' (by simpa using hL) h) h
  exact aux L.length L rfl h
theorem cand_of (x : Fc) : candB k t known x = true ↔ (x.key = k ∧ x.known ≤ known) ∧ x.at t = true := by
  simp only [candB, Fc.at, Bool.and_eq_true, decide_eq_true_eq]
  constructor
  · rintro ⟨⟨⟨h1, h2⟩, h3⟩, h4⟩; exact ⟨⟨h1, h4⟩, h2, h3⟩
  · rintro ⟨⟨h1, h4⟩, h2, h3⟩; exact ⟨⟨⟨h1, h2⟩, h3⟩, h4⟩
theorem ofF_append (a b : List Fc) : ofF (a ++ b) k known = ofF a k known ++ ofF b k known := by simp [ofF]
/-- The last one is the best one. -/
theorem best_last {i : Nat} {x : Fc} (hx : l[i]? = some x) (hc : candB k t known x = true) (hl : lastTo l k t known x i l.length = true) : bestF (ofF l k known) t = some x := by
  have hil := (List.getElem?_eq_some_iff.1 hx).1
  have hover : ∀ j y, l[j]? = some y → candB k t known y = true → x.bef y = false ∧ (i < j → y.bef x = true) := fun j y hy hcy => by
    unfold lastTo at hl
    have := List.all_eq_true.1 hl j (List.mem_range.2 (List.getElem?_eq_some_iff.1 hy).1)
    rw [getD_of hy] at this
    simp [overB, hcy] at this
    exact ⟨this.1, fun h => this.2.resolve_left (by omega)⟩
  have hcx := (cand_of x).1 hc
  have key : ∀ m, i < m → m ≤ l.length → bestF (ofF (l.take m) k known) t = some x := by
    intro m
    induction m with
    | zero => intro h; omega
    | succ m ih =>
      intro him hml
      have hy : l[m]? = some l[m] := List.getElem?_eq_getElem (by omega)
      rw [take_snoc hy, ofF_append]
      rcases Nat.lt_or_ge i m with h1 | h1
      · have hb := ih h1 (by omega)
        by_cases hk : l[m].key = k ∧ l[m].known ≤ known
        · have e : ofF [l[m]] k known = [l[m]] := by simp [ofF, hk.1, hk.2]
          rw [e, bestF_snoc, hb]
          rcases ha : l[m].at t with _ | _
          · exact better_no ha
          · exact better_old ha ((hover m _ hy ((cand_of _).2 ⟨hk, ha⟩)).2 h1)
        · have e : ofF [l[m]] k known = [] := by
            simp only [ofF, List.filter_cons, List.filter_nil]
            rw [if_neg]
            simpa using hk
          rw [e, List.append_nil, hb]
      · obtain rfl : m = i := by omega
        rw [hx] at hy
        have hxm : l[m] = x := (Option.some.inj hy).symm
        rw [hxm]
        have e : ofF [x] k known = [x] := by simp [ofF, hcx.1.1, hcx.1.2]
        rw [e, bestF_snoc]
        rcases hb : bestF (ofF (l.take m) k known) t with _ | b
        · exact better_new hcx.2
        · obtain ⟨h2, h3⟩ := bestF_mem hb
          rw [ofF, List.mem_filter] at h2
          obtain ⟨j, hj⟩ := List.mem_iff_getElem?.1 h2.1
          rw [List.getElem?_take] at hj
          split at hj
          · have hcb : candB k t known b = true := (cand_of b).2 ⟨by simpa using h2.2, h3⟩
            exact better_up hcx.2 (hover j b hj hcb).1
          · cases hj
  have := key l.length hil (Nat.le_refl _)
  rwa [List.take_of_length_le (Nat.le_refl _)] at this
theorem at_last {i : Nat} {x : Fc} (hx : l[i]? = some x) (hc : candB k t known x = true) (hl : lastTo l k t known x i l.length = true) : atF l k t known = if x.val < 0 then none else some x.val := by
  rw [atF, best_last hx hc hl]
theorem at_none (h : someTo l k t known l.length = false) : atF l k t known = none := by
  have : bestF (ofF l k known) t = none := by
    rcases hb : bestF (ofF l k known) t with _ | b
    · rfl
    · obtain ⟨h2, h3⟩ := bestF_mem hb
      rw [ofF, List.mem_filter] at h2
      obtain ⟨j, hj⟩ := List.mem_iff_getElem?.1 h2.1
      unfold someTo at h
      rw [List.any_eq_false] at h
      have := h j (List.mem_range.2 (List.getElem?_eq_some_iff.1 hj).1)
      rw [getD_of hj] at this
      exact absurd ((cand_of b).2 ⟨by simpa using h2.2, h3⟩) this
  rw [atF, this]
theorem met_some : metTo l k t known l.length = someTo l k t known l.length := by
  rcases hs : someTo l k t known l.length with _ | _
  · unfold metTo
    rw [List.any_eq_false]
    intro i hi
    unfold someTo at hs
    rw [List.any_eq_false] at hs
    have := hs i hi
    simp at this
    simp [this]
  · obtain ⟨i, x, hi, hx, hc, hl⟩ := last_exists l.length (Nat.le_refl _) hs
    unfold metTo
    rw [List.any_eq_true]
    exact ⟨i, List.mem_range.2 hi, by rw [getD_of hx, hc, hl]; rfl⟩
end
theorem candB_not (k : Ky) (t known : Int) (x : Fc) : candB k t known x = !(!decide (x.key = k) || decide (t < x.fr) || decide (x.to ≤ t) || decide (known < x.known)) := by
  unfold candB
  by_cases h1 : x.key = k <;> by_cases h2 : x.fr ≤ t <;> by_cases h3 : t < x.to <;> by_cases h4 : x.known ≤ known <;> simp [h1, h2, h3, h4] <;> omega

set_option maxRecDepth 100000 in
set_option maxHeartbeats 16000000 in
theorem lCounts_any (A : Option Addr) (n c : Nat) (l : List Fc) (k : Ky) (term known : Int) (w : World) (hl : fSl w w.heap.size A n c l) :
    Calls Try.prog 8 #[.slice A n c, .agg (kEnc k).toArray, .int .i64 term, .int .i64 known] w fun e w' => e = .returned (.bool true) ∧ Below w.heap.size w w' := by
  show Calls Try.prog 8 #[.slice A n c, .agg #[.int .i64 k.kind, .int .i64 k.subj, .int .i64 k.obj], .int .i64 term, .int .i64 known] w _
  obtain ⟨W, hW⟩ : ∃ W, w.alloc (.cells #[.int .i64 k.kind, .int .i64 k.subj, .int .i64 k.obj] 24) = W := ⟨_, rfl⟩
  have hBW : Below w.heap.size w W := hW ▸ (Below.refl _ w).alloc (Nat.le_refl _) _
  have hbox : W.heap[w.heap.size]? = some (.cells #[.int .i64 k.kind, .int .i64 k.subj, .int .i64 k.obj] 24 (0, 0)) := hW ▸ World.alloc_heap_new _ _
  have HL : Hid (∀ W', Below w.heap.size W W' → fSl W' W'.heap.size A n c l) := fun W' h => by
    have h1 := hBW.trans h
    exact hl.keep fStable h1.size h1.block
  have HL0 : Hid (∀ W', Below w.heap.size W W' → fSl W' w.heap.size A n c l) := fun W' h => hl.keep fStable (Nat.le_refl _) (hBW.trans h).block
  have HW := hidp hW
  have HBW := hidp hBW
  have HBox := hidp hbox
  have hlen := hl.2.1
  have HLEN := hidp hl.1
  have hcap := hl.2.2.1
  clear hW hBW hbox hl
  go_enter Try.func8, Try.ntmps8
  go_wp2_with fail
  rw [HW.out]
  refine (sane07_any W).mono ?_
  rintro e w1 ⟨rfl, hb1⟩
  go_wp2_with fail
  refine (rFew_any A n c w1).mono ?_
  rintro e w2 ⟨rfl, rfl⟩
  by_cases hn : n ≤ 30
  · have hd : decide (n ≤ 30) = true := by simpa using hn
    rw [hd]
    have hb := (hb1.block _ (lt_of_heap HBox.out)).trans HBox.out
    have c0 := cell_of_heap (o := 0) hb
    have c1 := cell_of_heap (o := 1) hb
    have c2 := cell_of_heap (o := 2) hb
    have f0 := frozen_of_heap (o := 0) hb
    have f1 := frozen_of_heap (o := 1) hb
    have f2 := frozen_of_heap (o := 2) hb
    simp only [List.getElem?_toArray, List.getElem?_cons_zero, List.getElem?_cons_succ] at c0 c1 c2
    have hzz := lt_of_heap hb
    have hB1 : Below w.heap.size W w1 := hb1.mono HBW.out.size
    have HHB := hidp hb
    clear hb
    rcases Nat.eq_zero_or_pos n with h0 | h0
    · subst h0
      have hB2 := hB1
      have hk2 := HHB.out
      obtain ⟨d0, d1, d2⟩ : True ∧ True ∧ True := ⟨trivial, trivial, trivial⟩
      have hw2z : w.heap.size ≤ w1.heap.size := Nat.le_of_lt hzz
      go_wp2_with fail
      clear c0 c1 c2 f0 f1 f2 hzz HHB hb1 hB1

      refine (fAt_any _ _ _ l k term known _ (HL.out _ hB2)).mono ?_
      rintro e wq ⟨rfl, hbq⟩
      have hBq := hB2.trans (hbq.mono hw2z)
      have hbox := (hbq.block _ (lt_of_heap hk2)).trans hk2
      have HBX := hidp hbox
      have HBQ := hidp hBq
      have hwqz : w.heap.size < wq.heap.size := lt_of_heap hbox
      obtain ⟨AO, hAO⟩ : ∃ AO, atF l k term known = AO := ⟨_, rfl⟩
      rw [hAO]
      have HAO := hidp hAO
      clear hbox hB2 hk2 hbq hBq d0 d1 d2 hw2z hAO
      obtain ⟨V, hV⟩ : ∃ V, AO.getD 0 = V := ⟨_, rfl⟩
      obtain ⟨S, hS⟩ : ∃ S, AO.isSome = S := ⟨_, rfl⟩
      rw [hV, hS]
      have HV := hidp hV
      have HS := hidp hS
      clear hV hS
      go_wp2_with fail
      go_loopw [11, 12, 13] (fun me so i wr => ∃ q : Nat, q ≤ 0 ∧ i = .int .i64 q ∧ me = .bool (metTo l k term known q) ∧ so = .bool (someTo l k term known q) ∧ Below wq.heap.size wq wr) (fun _ _ i _ => 0 - (intOf i).toNat)
      case atStart => exact ⟨0, by omega, rfl, rfl, rfl, Below.refl _ _⟩
      case round =>
        obtain ⟨q, hq, rfl, rfl, rfl, hbe⟩ := hrel
        obtain ⟨mm, hmm⟩ : ∃ m, metTo l k term known q = m := ⟨_, rfl⟩
        obtain ⟨ss, hss⟩ : ∃ s, someTo l k term known q = s := ⟨_, rfl⟩
        rw [hmm, hss]
        have HMM := hidp hmm
        have HSS := hidp hss
        clear hmm hss
        by_cases hlt : q < 0
        · exact absurd hlt (by omega)
        · obtain rfl : 0 = q := by omega
          have hll : l.length = 0 := (HLEN.out).symm
          have hmeq : mm = ss := by
            have h1 := HMM.out
            have h2 := HSS.out
            rw [← hll] at h1 h2
            rw [← h1, ← h2]
            exact met_some
          subst hmeq
          have hfin := HBW.out.trans (HBQ.out.trans (hbe.mono (Nat.le_of_lt hwqz)))
          have hno : mm = false → AO = none := fun h => by
            rw [← HAO.out]
            refine at_none ?_
            rw [hll, HSS.out, h]
          have hAOc : (S = false ∧ V = 0) ∨ (S = true ∧ mm = true) := by
            rw [← HS.out, ← HV.out]
            cases hao : AO with
            | none => exact .inl ⟨rfl, rfl⟩
            | some v =>
              refine .inr ⟨rfl, ?_⟩
              cases hm : mm with
              | true => rfl
              | false => have := hno hm; rw [hao] at this; cases this
          clear hno hbe
          rcases hAOc with ⟨e1, e2⟩ | ⟨e1, e2⟩
          · subst e1 e2
            cases mm <;> (go_wp2_with fail; go_ret; exact ⟨rfl, hfin⟩)
          · subst e1 e2
            go_wp2_with fail
            go_ret
            exact ⟨rfl, hfin⟩
    · have hpd : decide (0 < n) = true := by simpa using h0
      obtain ⟨i, hi, hidx⟩ := and_rem k.subj h0
      obtain ⟨bl, ol, x0, rfl, hbl, hx, g0, g1, g2, -⟩ := fSl.get (HL0.out w1 hB1) hi
      have hi' : (i : Int) < n := by omega
      have hbl' := lt_of_cell g0
      have hb2 : ((w1.setCell ⟨w.heap.size, 0, none⟩ (.int .i64 x0.key.kind)).setCell ⟨w.heap.size, 1, none⟩ (.int .i64 x0.key.subj)).setCell ⟨w.heap.size, 2, none⟩ (.int .i64 x0.key.obj) = ((w1.setCell ⟨w.heap.size, 0, none⟩ (.int .i64 x0.key.kind)).setCell ⟨w.heap.size, 1, none⟩ (.int .i64 x0.key.subj)).setCell ⟨w.heap.size, 2, none⟩ (.int .i64 x0.key.obj) := rfl
      obtain ⟨w2, hw2⟩ : ∃ w2, ((w1.setCell ⟨w.heap.size, 0, none⟩ (.int .i64 x0.key.kind)).setCell ⟨w.heap.size, 1, none⟩ (.int .i64 x0.key.subj)).setCell ⟨w.heap.size, 2, none⟩ (.int .i64 x0.key.obj) = w2 := ⟨_, rfl⟩
      clear hb2
      have hB2 : Below w.heap.size W w2 := hw2 ▸ below_setCell (below_setCell (below_setCell hB1 (Nat.le_refl _) _) (Nat.le_refl _) _) (Nat.le_refl _) _
      have hk2 : w2.heap[w.heap.size]? = some (.cells #[.int .i64 x0.key.kind, .int .i64 x0.key.subj, .int .i64 x0.key.obj] 24 (0, 0)) := by
        rw [← hw2]
        have := heap_set (heap_set (heap_set HHB.out 0 (.int .i64 x0.key.kind)) 1 (.int .i64 x0.key.subj)) 2 (.int .i64 x0.key.obj)
        simpa using this
      have hw2z : w.heap.size ≤ w2.heap.size := Nat.le_of_lt (lt_of_heap hk2)
      have d0 := cell_of_heap (o := 0) hk2
      have d1 := cell_of_heap (o := 1) hk2
      have d2 := cell_of_heap (o := 2) hk2
      simp only [List.getElem?_toArray, List.getElem?_cons_zero, List.getElem?_cons_succ] at d0 d1 d2
      have HW2 := hidp hw2
      have HK2 := hidp hk2
      have HBB2 := hidp hB2
      have D0 := hidp d0
      have D1 := hidp d1
      have D2 := hidp d2
      have hne : bl ≠ w.heap.size := by omega
      clear hw2 hk2 hx hB2 d0 d1 d2 hw2z
      go_wp2_with fail
      rw [HW2.out]
      have hB2 := HBB2.out
      have hk2 := HK2.out
      have d0 := D0.out
      have d1 := D1.out
      have d2 := D2.out
      have hw2z : w.heap.size ≤ w2.heap.size := Nat.le_of_lt (lt_of_heap hk2)
      clear c0 c1 c2 f0 f1 f2 hzz HHB hb1 hB1 HW2 HBB2 HK2 D0 D1 D2 g0 g1 g2 hne hbl
      refine (fAt_any _ _ _ l x0.key term known _ (HL.out _ hB2)).mono ?_
      rintro e wq ⟨rfl, hbq⟩
      have hBq := hB2.trans (hbq.mono hw2z)
      have hbox := (hbq.block _ (lt_of_heap hk2)).trans hk2
      have HBX := hidp hbox
      have HBQ := hidp hBq
      have hwqz : w.heap.size < wq.heap.size := lt_of_heap hbox
      obtain ⟨AO, hAO⟩ : ∃ AO, atF l x0.key term known = AO := ⟨_, rfl⟩
      rw [hAO]
      have HAO := hidp hAO
      clear hbox hB2 hk2 hbq hBq d0 d1 d2 hw2z hAO
      obtain ⟨V, hV⟩ : ∃ V, AO.getD 0 = V := ⟨_, rfl⟩
      obtain ⟨S, hS⟩ : ∃ S, AO.isSome = S := ⟨_, rfl⟩
      rw [hV, hS]
      have HV := hidp hV
      have HS := hidp hS
      clear hV hS
      go_wp2_with fail
      go_loopw [11, 12, 13] (fun me so i wr => ∃ q : Nat, q ≤ n ∧ i = .int .i64 q ∧ me = .bool (metTo l x0.key term known q) ∧ so = .bool (someTo l x0.key term known q) ∧ Below wq.heap.size wq wr) (fun _ _ i _ => n - (intOf i).toNat)
      case atStart => exact ⟨0, by omega, rfl, rfl, rfl, Below.refl _ _⟩
      case round =>
        obtain ⟨q, hq, rfl, rfl, rfl, hbe⟩ := hrel
        obtain ⟨mm, hmm⟩ : ∃ m, metTo l x0.key term known q = m := ⟨_, rfl⟩
        obtain ⟨ss, hss⟩ : ∃ s, someTo l x0.key term known q = s := ⟨_, rfl⟩
        rw [hmm, hss]
        have HMM := hidp hmm
        have HSS := hidp hss
        clear hmm hss
        by_cases hlt : q < n
        · have hBw := HBQ.out.trans (hbe.mono (Nat.le_of_lt hwqz))
          obtain ⟨_, _, x, e, hbx, hzx, -⟩ := fSl.get (HL.out _ hBw) hlt
          cases e
          have HX := hidp hzx
          have hqn : (q : Int) < n := by omega
          have HCX : Hid (∀ W', Below wr.heap.size wr W' → W'.cell? ⟨bl, ol + q * 8, none⟩ = some (.int .i64 x.key.kind) ∧ W'.cell? ⟨bl, ol + q * 8 + 1, none⟩ = some (.int .i64 x.key.subj) ∧ W'.cell? ⟨bl, ol + q * 8 + 2, none⟩ = some (.int .i64 x.key.obj) ∧ W'.cell? ⟨bl, ol + q * 8 + 3, none⟩ = some (.int .i64 x.val) ∧ W'.cell? ⟨bl, ol + q * 8 + 4, none⟩ = some (.int .i64 x.fr) ∧ W'.cell? ⟨bl, ol + q * 8 + 5, none⟩ = some (.int .i64 x.to) ∧ W'.cell? ⟨bl, ol + q * 8 + 6, none⟩ = some (.int .i64 x.known) ∧ W'.cell? ⟨bl, ol + q * 8 + 7, none⟩ = some (.int .i64 x.no)) := fun W' h => by
            obtain ⟨_, _, m, e, _, hm, hcells⟩ := fSl.get (HL.out W' (hBw.trans (h.mono (Nat.le_of_lt (Nat.lt_of_lt_of_le hwqz hbe.size))))) hlt
            cases e
            cases HX.out.symm.trans hm
            exact hcells
          have HCK : Hid (∀ W', Below wr.heap.size wr W' → W'.cell? ⟨w.heap.size, 0, none⟩ = some (.int .i64 x0.key.kind) ∧ W'.cell? ⟨w.heap.size, 1, none⟩ = some (.int .i64 x0.key.subj) ∧ W'.cell? ⟨w.heap.size, 2, none⟩ = some (.int .i64 x0.key.obj)) := fun W' h => by
            have h1 := hbe.trans (h.mono hbe.size)
            have := (h1.block _ hwqz).trans HBX.out
            exact ⟨cell_of_heap this, cell_of_heap this, cell_of_heap this⟩
          obtain ⟨z1, hz1⟩ : ∃ z, decide (x.key = x0.key) = z := ⟨_, rfl⟩
          obtain ⟨n2, hn2⟩ : ∃ z, decide (term < x.fr) = z := ⟨_, rfl⟩
          obtain ⟨n3, hn3⟩ : ∃ z, decide (x.to ≤ term) = z := ⟨_, rfl⟩
          obtain ⟨n4, hn4⟩ : ∃ z, decide (known < x.known) = z := ⟨_, rfl⟩
          have hq1 := fun W => k_neq x.key x0.key W
          rw [hz1] at hq1
          have HCB : Hid (candB x0.key term known x = !(!z1 || n2 || n3 || n4)) := by
            show _ = _
            rw [← hz1, ← hn2, ← hn3, ← hn4]
            exact candB_not x0.key term known x
          have HZ1 := hidp hz1
          have hbx' : bl < wr.heap.size := hbx
          have hwr : w.heap.size < wr.heap.size := Nat.lt_of_lt_of_le hwqz hbe.size
          have HBE := hidp hbe
          have HBW' := hidp hBw
          clear hz1 hzx hbe hBw hbx
          go_wp2_with fail
          refine wp_region_S wr.heap.size 36 (fun _ => false) (Nat.le_refl _) (by kernel_rfl) (by kernel_rfl) (by kernel_rfl) ?_
          dsimp only [List.take, List.drop]
          apply relS_det (mask := [])
          · rfl
          · kernel_rfl
          · kernel_rfl
          · dsimp only [oblS]
            rintro w9 h9
            go_simp
            exact ⟨Below.refl _ _, rfl⟩
          dsimp only [List.nil_append, List.cons_append]
          apply relS_det (mask := [false])
          · rfl
          · kernel_rfl
          · kernel_rfl
          · dsimp only [oblS]
            rintro w9 h9
            go_simp
            exact ⟨Below.refl _ _, rfl⟩
          dsimp only [List.nil_append, List.cons_append]
          apply relS_det (mask := [true, true])
          · rfl
          · kernel_rfl
          · kernel_rfl
          · dsimp only [oblS]
            rintro w9 h9
            go_simp
            exact ⟨Below.refl _ _, rfl⟩
          dsimp only [List.nil_append, List.cons_append]
          apply relS_det (mask := [false, false, true])
          · rfl
          · kernel_rfl
          · kernel_rfl
          · dsimp only [oblS]
            rintro w9 h9
            go_simp
            exact ⟨Below.refl _ _, rfl⟩
          dsimp only [List.nil_append, List.cons_append]
          apply relS_det (mask := [false, false, false, true]) (x := .agg #[.int .i64 x.key.kind, .int .i64 x.key.subj, .int .i64 x.key.obj])
          · rfl
          · kernel_rfl
          · kernel_rfl
          · dsimp only [oblS]
            rintro w9 h9
            obtain ⟨x0, x1, x2, x3, x4, x5, x6, x7⟩ := HCX.out w9 h9
            go_simp
            exact ⟨Below.refl _ _, rfl⟩
          dsimp only [List.nil_append, List.cons_append]
          apply relS_det (mask := [false, false, false, false, false]) (x := .agg #[.int .i64 x0.key.kind, .int .i64 x0.key.subj, .int .i64 x0.key.obj])
          · rfl
          · kernel_rfl
          · kernel_rfl
          · dsimp only [oblS]
            rintro w9 h9
            obtain ⟨k0, k1, k2⟩ := HCK.out w9 h9
            go_simp
            exact ⟨Below.refl _ _, rfl⟩
          dsimp only [List.nil_append, List.cons_append]
          apply relS_det (mask := [false, false, false, false, true, true]) (x := .bool (!z1))
          · rfl
          · kernel_rfl
          · kernel_rfl
          · dsimp only [oblS]
            rintro w9 h9
            go_simp
            exact ⟨Below.refl _ _, rfl⟩
          dsimp only [List.nil_append, List.cons_append]
          apply relS_det (mask := [false, false, false, false, false, false, true]) (x := .bool (!z1))
          · rfl
          · kernel_rfl
          · kernel_rfl
          · dsimp only [oblS]
            rintro w9 h9
            go_simp
            exact ⟨Below.refl _ _, rfl⟩
          dsimp only [List.nil_append, List.cons_append]
          apply relS_if (mask := [false, false, false, false, false, false, false, true]) (t := 55) (want := false) (g := z1)
          · rfl
          · kernel_rfl
          · kernel_rfl
          · dsimp only [oblS]
            refine ⟨⟨.bool (!z1), by rfl, (guard_free (by simp)).1, (guard_free (by simp)).2⟩, ?_⟩
            intro hg
            rintro w9 h9
            go_simp
            exact ⟨Below.refl _ _, rfl⟩
          dsimp only [List.nil_append, List.cons_append]
          apply relS_if (mask := [false, false, false, false, false, false, false, true, false]) (t := 55) (want := false) (g := z1)
          · rfl
          · kernel_rfl
          · kernel_rfl
          · dsimp only [oblS]
            refine ⟨⟨.bool (!z1), by rfl, (guard_free (by simp)).1, (guard_free (by simp)).2⟩, ?_⟩
            intro hg
            rintro w9 h9
            go_simp
            exact ⟨Below.refl _ _, rfl⟩
          dsimp only [List.nil_append, List.cons_append]
          apply relS_if (mask := [false, false, false, false, false, false, false, true, true, true]) (t := 55) (want := false) (g := z1)
          · rfl
          · kernel_rfl
          · kernel_rfl
          · dsimp only [oblS]
            refine ⟨⟨.bool (!z1), by rfl, (guard_free (by simp)).1, (guard_free (by simp)).2⟩, ?_⟩
            intro hg
            rintro w9 h9
            go_simp
            exact ⟨Below.refl _ _, rfl⟩
          dsimp only [List.nil_append, List.cons_append]
          apply relS_if (mask := [false, false, false, false, false, false, false, true, false, false, true]) (t := 55) (want := false) (g := z1)
          · rfl
          · kernel_rfl
          · kernel_rfl
          · dsimp only [oblS]
            refine ⟨⟨.bool (!z1), by rfl, (guard_free (by simp)).1, (guard_free (by simp)).2⟩, ?_⟩
            intro hg
            rintro w9 h9
            go_simp
            exact ⟨Below.refl _ _, rfl⟩
          dsimp only [List.nil_append, List.cons_append]
          apply relS_if (mask := [false, false, false, false, false, false, false, true, false, false, false, true]) (t := 55) (want := false) (g := z1)
          · rfl
          · kernel_rfl
          · kernel_rfl
          · dsimp only [oblS]
            refine ⟨⟨.bool (!z1), by rfl, (guard_free (by simp)).1, (guard_free (by simp)).2⟩, ?_⟩
            intro hg
            rintro w9 h9
            go_simp
            exact ⟨Below.refl _ _, rfl⟩
          dsimp only [List.nil_append, List.cons_append]
          apply relS_if (mask := [false, false, false, false, false, false, false, true, false, false, false, false, true]) (t := 55) (want := false) (g := z1) (x := .int .i64 x.fr)
          · rfl
          · kernel_rfl
          · kernel_rfl
          · dsimp only [oblS]
            refine ⟨⟨.bool (!z1), by rfl, (guard_free (by simp)).1, (guard_free (by simp)).2⟩, ?_⟩
            intro hg
            rintro w9 h9
            obtain ⟨x0, x1, x2, x3, x4, x5, x6, x7⟩ := HCX.out w9 h9
            go_simp
            exact ⟨Below.refl _ _, rfl⟩
          dsimp only [List.nil_append, List.cons_append]
          apply relS_if (mask := [false, false, false, false, false, false, false, true, false, false, false, false, false, false]) (t := 55) (want := false) (g := z1)
          · rfl
          · kernel_rfl
          · kernel_rfl
          · dsimp only [oblS]
            refine ⟨⟨.bool (!z1), by rfl, (guard_free (by simp)).1, (guard_free (by simp)).2⟩, ?_⟩
            intro hg
            rintro w9 h9
            go_simp
            exact ⟨Below.refl _ _, rfl⟩
          dsimp only [List.nil_append, List.cons_append]
          apply relS_if (mask := [false, false, false, false, false, false, false, true, false, false, false, false, false, true, true]) (t := 55) (want := false) (g := z1) (x := .bool n2)
          · rfl
          · kernel_rfl
          · kernel_rfl
          · dsimp only [oblS]
            refine ⟨⟨.bool (!z1), by rfl, (guard_free (by simp)).1, (guard_free (by simp)).2⟩, ?_⟩
            intro hg
            rintro w9 h9
            go_simp
            exact ⟨Below.refl _ _, rfl⟩
          dsimp only [List.nil_append, List.cons_append]
          apply relS_det (mask := [false, false, false, false, false, false, false, true, false, false, false, false, false, false, false, true]) (x := .bool (!z1 || n2))
          · rfl
          · kernel_rfl
          · kernel_rfl
          · dsimp only [oblS]
            rintro w9 h9
            cases z1
            · go_simp
              exact ⟨Below.refl _ _, by simp [IsV]⟩
            · go_simp
              exact ⟨Below.refl _ _, by simp [IsV]⟩
          dsimp only [List.nil_append, List.cons_append]
          apply relS_det (mask := [false, false, false, false, false, false, false, false, false, false, false, false, false, false, false, false, true]) (x := .bool (!z1 || n2))
          · rfl
          · kernel_rfl
          · kernel_rfl
          · dsimp only [oblS]
            rintro w9 h9
            go_simp
            exact ⟨Below.refl _ _, rfl⟩
          dsimp only [List.nil_append, List.cons_append]
          apply relS_if (mask := [false, false, false, false, false, false, false, false, false, false, false, false, false, false, false, false, false, true]) (t := 65) (want := false) (g := (z1 && !n2))
          · rfl
          · kernel_rfl
          · kernel_rfl
          · dsimp only [oblS]
            refine ⟨⟨.bool (!z1 || n2), by rfl, (guard_free (by simp)).1, (guard_free (by simp)).2⟩, ?_⟩
            intro hg
            rintro w9 h9
            go_simp
            exact ⟨Below.refl _ _, rfl⟩
          dsimp only [List.nil_append, List.cons_append]
          apply relS_if (mask := [false, false, false, false, false, false, false, false, false, false, false, false, false, false, false, false, false, true, false]) (t := 65) (want := false) (g := (z1 && !n2))
          · rfl
          · kernel_rfl
          · kernel_rfl
          · dsimp only [oblS]
            refine ⟨⟨.bool (!z1 || n2), by rfl, (guard_free (by simp)).1, (guard_free (by simp)).2⟩, ?_⟩
            intro hg
            rintro w9 h9
            go_simp
            exact ⟨Below.refl _ _, rfl⟩
          dsimp only [List.nil_append, List.cons_append]
          apply relS_if (mask := [false, false, false, false, false, false, false, false, false, false, false, false, false, false, false, false, false, true, true, true]) (t := 65) (want := false) (g := (z1 && !n2))
          · rfl
          · kernel_rfl
          · kernel_rfl
          · dsimp only [oblS]
            refine ⟨⟨.bool (!z1 || n2), by rfl, (guard_free (by simp)).1, (guard_free (by simp)).2⟩, ?_⟩
            intro hg
            rintro w9 h9
            go_simp
            exact ⟨Below.refl _ _, rfl⟩
          dsimp only [List.nil_append, List.cons_append]
          apply relS_if (mask := [false, false, false, false, false, false, false, false, false, false, false, false, false, false, false, false, false, true, false, false, true]) (t := 65) (want := false) (g := (z1 && !n2))
          · rfl
          · kernel_rfl
          · kernel_rfl
          · dsimp only [oblS]
            refine ⟨⟨.bool (!z1 || n2), by rfl, (guard_free (by simp)).1, (guard_free (by simp)).2⟩, ?_⟩
            intro hg
            rintro w9 h9
            go_simp
            exact ⟨Below.refl _ _, rfl⟩
          dsimp only [List.nil_append, List.cons_append]
          apply relS_if (mask := [false, false, false, false, false, false, false, false, false, false, false, false, false, false, false, false, false, true, false, false, false, true]) (t := 65) (want := false) (g := (z1 && !n2))
          · rfl
          · kernel_rfl
          · kernel_rfl
          · dsimp only [oblS]
            refine ⟨⟨.bool (!z1 || n2), by rfl, (guard_free (by simp)).1, (guard_free (by simp)).2⟩, ?_⟩
            intro hg
            rintro w9 h9
            go_simp
            exact ⟨Below.refl _ _, rfl⟩
          dsimp only [List.nil_append, List.cons_append]
          apply relS_if (mask := [false, false, false, false, false, false, false, false, false, false, false, false, false, false, false, false, false, true, false, false, false, false, true]) (t := 65) (want := false) (g := (z1 && !n2)) (x := .int .i64 x.to)
          · rfl
          · kernel_rfl
          · kernel_rfl
          · dsimp only [oblS]
            refine ⟨⟨.bool (!z1 || n2), by rfl, (guard_free (by simp)).1, (guard_free (by simp)).2⟩, ?_⟩
            intro hg
            rintro w9 h9
            obtain ⟨x0, x1, x2, x3, x4, x5, x6, x7⟩ := HCX.out w9 h9
            go_simp
            exact ⟨Below.refl _ _, rfl⟩
          dsimp only [List.nil_append, List.cons_append]
          apply relS_if (mask := [false, false, false, false, false, false, false, false, false, false, false, false, false, false, false, false, false, true, false, false, false, false, false, false]) (t := 65) (want := false) (g := (z1 && !n2))
          · rfl
          · kernel_rfl
          · kernel_rfl
          · dsimp only [oblS]
            refine ⟨⟨.bool (!z1 || n2), by rfl, (guard_free (by simp)).1, (guard_free (by simp)).2⟩, ?_⟩
            intro hg
            rintro w9 h9
            go_simp
            exact ⟨Below.refl _ _, rfl⟩
          dsimp only [List.nil_append, List.cons_append]
          apply relS_if (mask := [false, false, false, false, false, false, false, false, false, false, false, false, false, false, false, false, false, true, false, false, false, false, false, true, true]) (t := 65) (want := false) (g := (z1 && !n2)) (x := .bool n3)
          · rfl
          · kernel_rfl
          · kernel_rfl
          · dsimp only [oblS]
            refine ⟨⟨.bool (!z1 || n2), by rfl, (guard_free (by simp)).1, (guard_free (by simp)).2⟩, ?_⟩
            intro hg
            rintro w9 h9
            go_simp
            exact ⟨Below.refl _ _, rfl⟩
          dsimp only [List.nil_append, List.cons_append]
          apply relS_det (mask := [false, false, false, false, false, false, false, false, false, false, false, false, false, false, false, false, false, true, false, false, false, false, false, false, false, true]) (x := .bool (!z1 || n2 || n3))
          · rfl
          · kernel_rfl
          · kernel_rfl
          · dsimp only [oblS]
            rintro w9 h9
            cases z1 <;> cases n2
            all_goals (go_simp; exact ⟨Below.refl _ _, by simp [IsV]⟩)
          dsimp only [List.nil_append, List.cons_append]
          apply relS_det (mask := [false, false, false, false, false, false, false, false, false, false, false, false, false, false, false, false, false, false, false, false, false, false, false, false, false, false, true]) (x := .bool (!z1 || n2 || n3))
          · rfl
          · kernel_rfl
          · kernel_rfl
          · dsimp only [oblS]
            rintro w9 h9
            go_simp
            exact ⟨Below.refl _ _, rfl⟩
          dsimp only [List.nil_append, List.cons_append]
          apply relS_if (mask := [false, false, false, false, false, false, false, false, false, false, false, false, false, false, false, false, false, false, false, false, false, false, false, false, false, false, false, true]) (t := 75) (want := false) (g := (z1 && !n2 && !n3))
          · rfl
          · kernel_rfl
          · kernel_rfl
          · dsimp only [oblS]
            refine ⟨⟨.bool (!z1 || n2 || n3), by rfl, (guard_free (by simp)).1, (guard_free (by simp)).2⟩, ?_⟩
            intro hg
            rintro w9 h9
            go_simp
            exact ⟨Below.refl _ _, rfl⟩
          dsimp only [List.nil_append, List.cons_append]
          apply relS_if (mask := [false, false, false, false, false, false, false, false, false, false, false, false, false, false, false, false, false, false, false, false, false, false, false, false, false, false, false, true, false]) (t := 75) (want := false) (g := (z1 && !n2 && !n3))
          · rfl
          · kernel_rfl
          · kernel_rfl
          · dsimp only [oblS]
            refine ⟨⟨.bool (!z1 || n2 || n3), by rfl, (guard_free (by simp)).1, (guard_free (by simp)).2⟩, ?_⟩
            intro hg
            rintro w9 h9
            go_simp
            exact ⟨Below.refl _ _, rfl⟩
          dsimp only [List.nil_append, List.cons_append]
          apply relS_if (mask := [false, false, false, false, false, false, false, false, false, false, false, false, false, false, false, false, false, false, false, false, false, false, false, false, false, false, false, true, true, true]) (t := 75) (want := false) (g := (z1 && !n2 && !n3))
          · rfl
          · kernel_rfl
          · kernel_rfl
          · dsimp only [oblS]
            refine ⟨⟨.bool (!z1 || n2 || n3), by rfl, (guard_free (by simp)).1, (guard_free (by simp)).2⟩, ?_⟩
            intro hg
            rintro w9 h9
            go_simp
            exact ⟨Below.refl _ _, rfl⟩
          dsimp only [List.nil_append, List.cons_append]
          apply relS_if (mask := [false, false, false, false, false, false, false, false, false, false, false, false, false, false, false, false, false, false, false, false, false, false, false, false, false, false, false, true, false, false, true]) (t := 75) (want := false) (g := (z1 && !n2 && !n3))
          · rfl
          · kernel_rfl
          · kernel_rfl
          · dsimp only [oblS]
            refine ⟨⟨.bool (!z1 || n2 || n3), by rfl, (guard_free (by simp)).1, (guard_free (by simp)).2⟩, ?_⟩
            intro hg
            rintro w9 h9
            go_simp
            exact ⟨Below.refl _ _, rfl⟩
          dsimp only [List.nil_append, List.cons_append]
          apply relS_if (mask := [false, false, false, false, false, false, false, false, false, false, false, false, false, false, false, false, false, false, false, false, false, false, false, false, false, false, false, true, false, false, false, true]) (t := 75) (want := false) (g := (z1 && !n2 && !n3)) (x := .int .i64 x.known)
          · rfl
          · kernel_rfl
          · kernel_rfl
          · dsimp only [oblS]
            refine ⟨⟨.bool (!z1 || n2 || n3), by rfl, (guard_free (by simp)).1, (guard_free (by simp)).2⟩, ?_⟩
            intro hg
            rintro w9 h9
            obtain ⟨x0, x1, x2, x3, x4, x5, x6, x7⟩ := HCX.out w9 h9
            go_simp
            exact ⟨Below.refl _ _, rfl⟩
          dsimp only [List.nil_append, List.cons_append]
          apply relS_if (mask := [false, false, false, false, false, false, false, false, false, false, false, false, false, false, false, false, false, false, false, false, false, false, false, false, false, false, false, true, false, false, false, false, false]) (t := 75) (want := false) (g := (z1 && !n2 && !n3))
          · rfl
          · kernel_rfl
          · kernel_rfl
          · dsimp only [oblS]
            refine ⟨⟨.bool (!z1 || n2 || n3), by rfl, (guard_free (by simp)).1, (guard_free (by simp)).2⟩, ?_⟩
            intro hg
            rintro w9 h9
            go_simp
            exact ⟨Below.refl _ _, rfl⟩
          dsimp only [List.nil_append, List.cons_append]
          apply relS_if (mask := [false, false, false, false, false, false, false, false, false, false, false, false, false, false, false, false, false, false, false, false, false, false, false, false, false, false, false, true, false, false, false, false, true, true]) (t := 75) (want := false) (g := (z1 && !n2 && !n3)) (x := .bool n4)
          · rfl
          · kernel_rfl
          · kernel_rfl
          · dsimp only [oblS]
            refine ⟨⟨.bool (!z1 || n2 || n3), by rfl, (guard_free (by simp)).1, (guard_free (by simp)).2⟩, ?_⟩
            intro hg
            rintro w9 h9
            go_simp
            exact ⟨Below.refl _ _, rfl⟩
          dsimp only [List.nil_append, List.cons_append]
          apply relS_det (mask := [false, false, false, false, false, false, false, false, false, false, false, false, false, false, false, false, false, false, false, false, false, false, false, false, false, false, false, true, false, false, false, false, false, false, true]) (x := .bool (!z1 || n2 || n3 || n4))
          · rfl
          · kernel_rfl
          · kernel_rfl
          · dsimp only [oblS]
            rintro w9 h9
            cases z1 <;> cases n2 <;> cases n3
            all_goals (go_simp; exact ⟨Below.refl _ _, by simp [IsV]⟩)
          dsimp only [List.nil_append, List.cons_append]
          refine relS_endK [false, false, false, false, false, false, false, false, false, false, false, false, false, false, false, false, false, false, false, false, false, false, false, false, false, false, false, false, false, false, false, false, false, false, false, true] (by rfl) (by rfl) ?_
          dsimp only [finK]
          intro q0 q1 q2 q3 q4 q5 q6 q7 q8 q9 q10 q11 q12 q13 q14 q15 q16 q17 q18 q19 q20 q21 q22 q23 q24 q25 q26 q27 q28 q29 q30 q31 q32 q33 q34
          -- rintro  w8 hb
          intro w8 hb8
          go_frame
          have hB8 := HBE.out.trans (hb8.mono HBE.out.size)
          obtain ⟨nb, hnb⟩ : ∃ b, (!z1 || n2 || n3 || n4) = b := ⟨_, rfl⟩
          rw [hnb]
          have HNB : Hid (candB x0.key term known x = !nb) := by show _ = _; rw [HCB.out, hnb]
          clear hnb hq1 hn2 hn3 hn4 HCB HZ1 hb8
          cases nb
          · have HCc : Hid (candB x0.key term known x = true) := HNB.out
            have hBw8 := HBQ.out.trans (hB8.mono (Nat.le_of_lt hwqz))
            have HB8 := hidp hB8
            have HBW8 := hidp hBw8
            have hw8z : w.heap.size < w8.heap.size := Nat.lt_of_lt_of_le hwqz hB8.size
            clear HNB hB8 hBw8 HCX HCK
            go_wp2_with fail
            go_loopw [14, 15] (fun la j w2 => ∃ p : Nat, p ≤ n ∧ j = .int .i64 p ∧ la = .bool (lastTo l x0.key term known x q p) ∧ Below w8.heap.size w8 w2) (fun _ j _ => n - (intOf j).toNat)
            case atStart => exact ⟨0, by omega, rfl, rfl, Below.refl _ _⟩
            case round =>
              obtain ⟨p, hp, rfl, rfl, hbe⟩ := hrel
              obtain ⟨la, hla⟩ : ∃ s, lastTo l x0.key term known x q p = s := ⟨_, rfl⟩
              rw [hla]
              have HLA := hidp hla
              clear hla
              have hBw := HBW8.out.trans (hbe.mono (Nat.le_of_lt hw8z))
              have HCX : Hid (∀ W', Below wr.heap.size wr W' → W'.cell? ⟨bl, ol + q * 8, none⟩ = some (.int .i64 x.key.kind) ∧ W'.cell? ⟨bl, ol + q * 8 + 1, none⟩ = some (.int .i64 x.key.subj) ∧ W'.cell? ⟨bl, ol + q * 8 + 2, none⟩ = some (.int .i64 x.key.obj) ∧ W'.cell? ⟨bl, ol + q * 8 + 3, none⟩ = some (.int .i64 x.val) ∧ W'.cell? ⟨bl, ol + q * 8 + 4, none⟩ = some (.int .i64 x.fr) ∧ W'.cell? ⟨bl, ol + q * 8 + 5, none⟩ = some (.int .i64 x.to) ∧ W'.cell? ⟨bl, ol + q * 8 + 6, none⟩ = some (.int .i64 x.known) ∧ W'.cell? ⟨bl, ol + q * 8 + 7, none⟩ = some (.int .i64 x.no)) := fun W' h => by
                obtain ⟨_, _, m, e, _, hm, hcells⟩ := fSl.get (HL.out W' (hBw.trans (h.mono (Nat.le_of_lt (Nat.lt_of_lt_of_le hw8z hbe.size))))) hlt
                cases e
                cases HX.out.symm.trans hm
                exact hcells
              by_cases hltp : p < n
              · obtain ⟨_, _, y, e, hby, hzy, -⟩ := fSl.get (HL.out _ hBw) hltp
                cases e
                have HY := hidp hzy
                have hpn : (p : Int) < n := by omega
                have HCY : Hid (∀ W', Below wr.heap.size wr W' → W'.cell? ⟨bl, ol + p * 8, none⟩ = some (.int .i64 y.key.kind) ∧ W'.cell? ⟨bl, ol + p * 8 + 1, none⟩ = some (.int .i64 y.key.subj) ∧ W'.cell? ⟨bl, ol + p * 8 + 2, none⟩ = some (.int .i64 y.key.obj) ∧ W'.cell? ⟨bl, ol + p * 8 + 3, none⟩ = some (.int .i64 y.val) ∧ W'.cell? ⟨bl, ol + p * 8 + 4, none⟩ = some (.int .i64 y.fr) ∧ W'.cell? ⟨bl, ol + p * 8 + 5, none⟩ = some (.int .i64 y.to) ∧ W'.cell? ⟨bl, ol + p * 8 + 6, none⟩ = some (.int .i64 y.known) ∧ W'.cell? ⟨bl, ol + p * 8 + 7, none⟩ = some (.int .i64 y.no)) := fun W' h => by
                  obtain ⟨_, _, m, e, _, hm, hcells⟩ := fSl.get (HL.out W' (hBw.trans (h.mono (Nat.le_of_lt (Nat.lt_of_lt_of_le hw8z hbe.size))))) hltp
                  cases e
                  cases HY.out.symm.trans hm
                  exact hcells
                have HCK : Hid (∀ W', Below wr.heap.size wr W' → W'.cell? ⟨w.heap.size, 0, none⟩ = some (.int .i64 x0.key.kind) ∧ W'.cell? ⟨w.heap.size, 1, none⟩ = some (.int .i64 x0.key.subj) ∧ W'.cell? ⟨w.heap.size, 2, none⟩ = some (.int .i64 x0.key.obj)) := fun W' h => by
                  have h1 := HB8.out.trans ((hbe.trans (h.mono hbe.size)).mono HB8.out.size)
                  have := (h1.block _ hwqz).trans HBX.out
                  exact ⟨cell_of_heap this, cell_of_heap this, cell_of_heap this⟩
                obtain ⟨v1, hv1⟩ : ∃ z, decide (y.key = x0.key) = z := ⟨_, rfl⟩
                obtain ⟨v2, hv2⟩ : ∃ z, decide (y.fr ≤ term) = z := ⟨_, rfl⟩
                obtain ⟨v3, hv3⟩ : ∃ z, decide (term < y.to) = z := ⟨_, rfl⟩
                obtain ⟨v4, hv4⟩ : ∃ z, decide (y.known ≤ known) = z := ⟨_, rfl⟩
                obtain ⟨b1, hb1'⟩ : ∃ z, x.bef y = z := ⟨_, rfl⟩
                obtain ⟨b2, hb2'⟩ : ∃ z, y.bef x = z := ⟨_, rfl⟩
                obtain ⟨J, hJ⟩ : ∃ z, decide (q < p) = z := ⟨_, rfl⟩
                have hq2 := fun W => k_eql y.key x0.key W
                rw [hv1] at hq2
                have HOV : Hid (overB x0.key term known x y q p = ((v1 && v2 && v3 && v4) && (b1 || (J && !b2)))) := by
                  show _ = _
                  rw [overB, candB, hv1, hv2, hv3, hv4, hb1', hb2', hJ]
                have HB1 := hidp hb1'
                have HB2 := hidp hb2'
                have hby' : bl < wr.heap.size := hby
                have hwr : w.heap.size < wr.heap.size := Nat.lt_of_lt_of_le hw8z hbe.size
                have HBE2 := hidp hbe
                clear hv1 hb1' hb2' hzy hbe hBw hby
                go_wp2_with fail
                refine wp_region_S wr.heap.size 64 (fun _ => false) (Nat.le_refl _) (by kernel_rfl) (by kernel_rfl) (by kernel_rfl) ?_
                dsimp only [List.take, List.drop]
                apply relS_det (mask := [])
                · rfl
                · kernel_rfl
                · kernel_rfl
                · dsimp only [oblS]
                  rintro w9 h9
                  go_simp
                  exact ⟨Below.refl _ _, rfl⟩
                dsimp only [List.nil_append, List.cons_append]
                apply relS_det (mask := [false])
                · rfl
                · kernel_rfl
                · kernel_rfl
                · dsimp only [oblS]
                  rintro w9 h9
                  go_simp
                  exact ⟨Below.refl _ _, rfl⟩
                dsimp only [List.nil_append, List.cons_append]
                apply relS_det (mask := [true, true])
                · rfl
                · kernel_rfl
                · kernel_rfl
                · dsimp only [oblS]
                  rintro w9 h9
                  go_simp
                  exact ⟨Below.refl _ _, rfl⟩
                dsimp only [List.nil_append, List.cons_append]
                apply relS_det (mask := [false, false, true])
                · rfl
                · kernel_rfl
                · kernel_rfl
                · dsimp only [oblS]
                  rintro w9 h9
                  go_simp
                  exact ⟨Below.refl _ _, rfl⟩
                dsimp only [List.nil_append, List.cons_append]
                apply relS_det (mask := [false, false, false, true]) (x := .agg #[.int .i64 y.key.kind, .int .i64 y.key.subj, .int .i64 y.key.obj])
                · rfl
                · kernel_rfl
                · kernel_rfl
                · dsimp only [oblS]
                  rintro w9 h9
                  obtain ⟨y0, y1, y2, y3, y4, y5, y6, y7⟩ := HCY.out w9 h9
                  go_simp
                  exact ⟨Below.refl _ _, rfl⟩
                dsimp only [List.nil_append, List.cons_append]
                apply relS_det (mask := [false, false, false, false, false]) (x := .agg #[.int .i64 x0.key.kind, .int .i64 x0.key.subj, .int .i64 x0.key.obj])
                · rfl
                · kernel_rfl
                · kernel_rfl
                · dsimp only [oblS]
                  rintro w9 h9
                  obtain ⟨k0, k1, k2⟩ := HCK.out w9 h9
                  go_simp
                  exact ⟨Below.refl _ _, rfl⟩
                dsimp only [List.nil_append, List.cons_append]
                apply relS_det (mask := [false, false, false, false, true, true]) (x := .bool v1)
                · rfl
                · kernel_rfl
                · kernel_rfl
                · dsimp only [oblS]
                  rintro w9 h9
                  go_simp
                  exact ⟨Below.refl _ _, rfl⟩
                dsimp only [List.nil_append, List.cons_append]
                apply relS_det (mask := [false, false, false, false, false, false, true]) (x := .bool v1)
                · rfl
                · kernel_rfl
                · kernel_rfl
                · dsimp only [oblS]
                  rintro w9 h9
                  go_simp
                  exact ⟨Below.refl _ _, rfl⟩
                dsimp only [List.nil_append, List.cons_append]
                apply relS_if (mask := [false, false, false, false, false, false, false, true]) (t := 97) (want := true) (g := v1)
                · rfl
                · kernel_rfl
                · kernel_rfl
                · dsimp only [oblS]
                  refine ⟨⟨.bool v1, by rfl, (guard_free (by simp)).1, (guard_free (by simp)).2⟩, ?_⟩
                  intro hg
                  rintro w9 h9
                  go_simp
                  exact ⟨Below.refl _ _, rfl⟩
                dsimp only [List.nil_append, List.cons_append]
                apply relS_if (mask := [false, false, false, false, false, false, false, true, false]) (t := 97) (want := true) (g := v1)
                · rfl
                · kernel_rfl
                · kernel_rfl
                · dsimp only [oblS]
                  refine ⟨⟨.bool v1, by rfl, (guard_free (by simp)).1, (guard_free (by simp)).2⟩, ?_⟩
                  intro hg
                  rintro w9 h9
                  go_simp
                  exact ⟨Below.refl _ _, rfl⟩
                dsimp only [List.nil_append, List.cons_append]
                apply relS_if (mask := [false, false, false, false, false, false, false, true, true, true]) (t := 97) (want := true) (g := v1)
                · rfl
                · kernel_rfl
                · kernel_rfl
                · dsimp only [oblS]
                  refine ⟨⟨.bool v1, by rfl, (guard_free (by simp)).1, (guard_free (by simp)).2⟩, ?_⟩
                  intro hg
                  rintro w9 h9
                  go_simp
                  exact ⟨Below.refl _ _, rfl⟩
                dsimp only [List.nil_append, List.cons_append]
                apply relS_if (mask := [false, false, false, false, false, false, false, true, false, false, true]) (t := 97) (want := true) (g := v1)
                · rfl
                · kernel_rfl
                · kernel_rfl
                · dsimp only [oblS]
                  refine ⟨⟨.bool v1, by rfl, (guard_free (by simp)).1, (guard_free (by simp)).2⟩, ?_⟩
                  intro hg
                  rintro w9 h9
                  go_simp
                  exact ⟨Below.refl _ _, rfl⟩
                dsimp only [List.nil_append, List.cons_append]
                apply relS_if (mask := [false, false, false, false, false, false, false, true, false, false, false, true]) (t := 97) (want := true) (g := v1)
                · rfl
                · kernel_rfl
                · kernel_rfl
                · dsimp only [oblS]
                  refine ⟨⟨.bool v1, by rfl, (guard_free (by simp)).1, (guard_free (by simp)).2⟩, ?_⟩
                  intro hg
                  rintro w9 h9
                  go_simp
                  exact ⟨Below.refl _ _, rfl⟩
                dsimp only [List.nil_append, List.cons_append]
                apply relS_if (mask := [false, false, false, false, false, false, false, true, false, false, false, false, true]) (t := 97) (want := true) (g := v1) (x := .int .i64 y.fr)
                · rfl
                · kernel_rfl
                · kernel_rfl
                · dsimp only [oblS]
                  refine ⟨⟨.bool v1, by rfl, (guard_free (by simp)).1, (guard_free (by simp)).2⟩, ?_⟩
                  intro hg
                  rintro w9 h9
                  obtain ⟨y0, y1, y2, y3, y4, y5, y6, y7⟩ := HCY.out w9 h9
                  go_simp
                  exact ⟨Below.refl _ _, rfl⟩
                dsimp only [List.nil_append, List.cons_append]
                apply relS_if (mask := [false, false, false, false, false, false, false, true, false, false, false, false, false, false]) (t := 97) (want := true) (g := v1)
                · rfl
                · kernel_rfl
                · kernel_rfl
                · dsimp only [oblS]
                  refine ⟨⟨.bool v1, by rfl, (guard_free (by simp)).1, (guard_free (by simp)).2⟩, ?_⟩
                  intro hg
                  rintro w9 h9
                  go_simp
                  exact ⟨Below.refl _ _, rfl⟩
                dsimp only [List.nil_append, List.cons_append]
                apply relS_if (mask := [false, false, false, false, false, false, false, true, false, false, false, false, false, true, true]) (t := 97) (want := true) (g := v1) (x := .bool v2)
                · rfl
                · kernel_rfl
                · kernel_rfl
                · dsimp only [oblS]
                  refine ⟨⟨.bool v1, by rfl, (guard_free (by simp)).1, (guard_free (by simp)).2⟩, ?_⟩
                  intro hg
                  rintro w9 h9
                  go_simp
                  exact ⟨Below.refl _ _, rfl⟩
                dsimp only [List.nil_append, List.cons_append]
                apply relS_det (mask := [false, false, false, false, false, false, false, true, false, false, false, false, false, false, false, true]) (x := .bool (v1 && v2))
                · rfl
                · kernel_rfl
                · kernel_rfl
                · dsimp only [oblS]
                  rintro w9 h9
                  cases v1
                  · go_simp
                    exact ⟨Below.refl _ _, by simp [IsV]⟩
                  · go_simp
                    exact ⟨Below.refl _ _, by simp [IsV]⟩
                dsimp only [List.nil_append, List.cons_append]
                apply relS_det (mask := [false, false, false, false, false, false, false, false, false, false, false, false, false, false, false, false, true]) (x := .bool (v1 && v2))
                · rfl
                · kernel_rfl
                · kernel_rfl
                · dsimp only [oblS]
                  rintro w9 h9
                  go_simp
                  exact ⟨Below.refl _ _, rfl⟩
                dsimp only [List.nil_append, List.cons_append]
                apply relS_if (mask := [false, false, false, false, false, false, false, false, false, false, false, false, false, false, false, false, false, true]) (t := 107) (want := true) (g := (v1 && v2))
                · rfl
                · kernel_rfl
                · kernel_rfl
                · dsimp only [oblS]
                  refine ⟨⟨.bool (v1 && v2), by rfl, (guard_free (by simp)).1, (guard_free (by simp)).2⟩, ?_⟩
                  intro hg
                  rintro w9 h9
                  go_simp
                  exact ⟨Below.refl _ _, rfl⟩
                dsimp only [List.nil_append, List.cons_append]
                apply relS_if (mask := [false, false, false, false, false, false, false, false, false, false, false, false, false, false, false, false, false, true, false]) (t := 107) (want := true) (g := (v1 && v2))
                · rfl
                · kernel_rfl
                · kernel_rfl
                · dsimp only [oblS]
                  refine ⟨⟨.bool (v1 && v2), by rfl, (guard_free (by simp)).1, (guard_free (by simp)).2⟩, ?_⟩
                  intro hg
                  rintro w9 h9
                  go_simp
                  exact ⟨Below.refl _ _, rfl⟩
                dsimp only [List.nil_append, List.cons_append]
                apply relS_if (mask := [false, false, false, false, false, false, false, false, false, false, false, false, false, false, false, false, false, true, false, false]) (t := 107) (want := true) (g := (v1 && v2))
                · rfl
                · kernel_rfl
                · kernel_rfl
                · dsimp only [oblS]
                  refine ⟨⟨.bool (v1 && v2), by rfl, (guard_free (by simp)).1, (guard_free (by simp)).2⟩, ?_⟩
                  intro hg
                  rintro w9 h9
                  go_simp
                  exact ⟨Below.refl _ _, rfl⟩
                dsimp only [List.nil_append, List.cons_append]
                apply relS_if (mask := [false, false, false, false, false, false, false, false, false, false, false, false, false, false, false, false, false, true, false, true, true]) (t := 107) (want := true) (g := (v1 && v2))
                · rfl
                · kernel_rfl
                · kernel_rfl
                · dsimp only [oblS]
                  refine ⟨⟨.bool (v1 && v2), by rfl, (guard_free (by simp)).1, (guard_free (by simp)).2⟩, ?_⟩
                  intro hg
                  rintro w9 h9
                  go_simp
                  exact ⟨Below.refl _ _, rfl⟩
                dsimp only [List.nil_append, List.cons_append]
                apply relS_if (mask := [false, false, false, false, false, false, false, false, false, false, false, false, false, false, false, false, false, true, false, false, false, true]) (t := 107) (want := true) (g := (v1 && v2))
                · rfl
                · kernel_rfl
                · kernel_rfl
                · dsimp only [oblS]
                  refine ⟨⟨.bool (v1 && v2), by rfl, (guard_free (by simp)).1, (guard_free (by simp)).2⟩, ?_⟩
                  intro hg
                  rintro w9 h9
                  go_simp
                  exact ⟨Below.refl _ _, rfl⟩
                dsimp only [List.nil_append, List.cons_append]
                apply relS_if (mask := [false, false, false, false, false, false, false, false, false, false, false, false, false, false, false, false, false, true, false, false, false, false, true]) (t := 107) (want := true) (g := (v1 && v2))
                · rfl
                · kernel_rfl
                · kernel_rfl
                · dsimp only [oblS]
                  refine ⟨⟨.bool (v1 && v2), by rfl, (guard_free (by simp)).1, (guard_free (by simp)).2⟩, ?_⟩
                  intro hg
                  rintro w9 h9
                  go_simp
                  exact ⟨Below.refl _ _, rfl⟩
                dsimp only [List.nil_append, List.cons_append]
                apply relS_if (mask := [false, false, false, false, false, false, false, false, false, false, false, false, false, false, false, false, false, true, false, false, false, false, false, true]) (t := 107) (want := true) (g := (v1 && v2)) (x := .int .i64 y.to)
                · rfl
                · kernel_rfl
                · kernel_rfl
                · dsimp only [oblS]
                  refine ⟨⟨.bool (v1 && v2), by rfl, (guard_free (by simp)).1, (guard_free (by simp)).2⟩, ?_⟩
                  intro hg
                  rintro w9 h9
                  obtain ⟨y0, y1, y2, y3, y4, y5, y6, y7⟩ := HCY.out w9 h9
                  go_simp
                  exact ⟨Below.refl _ _, rfl⟩
                dsimp only [List.nil_append, List.cons_append]
                apply relS_if (mask := [false, false, false, false, false, false, false, false, false, false, false, false, false, false, false, false, false, true, true, false, false, false, false, false, true]) (t := 107) (want := true) (g := (v1 && v2)) (x := .bool v3)
                · rfl
                · kernel_rfl
                · kernel_rfl
                · dsimp only [oblS]
                  refine ⟨⟨.bool (v1 && v2), by rfl, (guard_free (by simp)).1, (guard_free (by simp)).2⟩, ?_⟩
                  intro hg
                  rintro w9 h9
                  go_simp
                  exact ⟨Below.refl _ _, rfl⟩
                dsimp only [List.nil_append, List.cons_append]
                apply relS_det (mask := [false, false, false, false, false, false, false, false, false, false, false, false, false, false, false, false, false, true, false, false, false, false, false, false, false, true]) (x := .bool (v1 && v2 && v3))
                · rfl
                · kernel_rfl
                · kernel_rfl
                · dsimp only [oblS]
                  rintro w9 h9
                  obtain ⟨cc, hcc⟩ : ∃ cc, (v1 && v2) = cc := ⟨_, rfl⟩
                  rw [hcc]
                  clear hcc
                  cases cc
                  · go_simp
                    exact ⟨Below.refl _ _, by simp [IsV]⟩
                  · go_simp
                    exact ⟨Below.refl _ _, by simp [IsV]⟩
                dsimp only [List.nil_append, List.cons_append]
                apply relS_det (mask := [false, false, false, false, false, false, false, false, false, false, false, false, false, false, false, false, false, false, false, false, false, false, false, false, false, false, true]) (x := .bool (v1 && v2 && v3))
                · rfl
                · kernel_rfl
                · kernel_rfl
                · dsimp only [oblS]
                  rintro w9 h9
                  go_simp
                  exact ⟨Below.refl _ _, rfl⟩
                dsimp only [List.nil_append, List.cons_append]
                apply relS_if (mask := [false, false, false, false, false, false, false, false, false, false, false, false, false, false, false, false, false, false, false, false, false, false, false, false, false, false, false, true]) (t := 117) (want := true) (g := (v1 && v2 && v3))
                · rfl
                · kernel_rfl
                · kernel_rfl
                · dsimp only [oblS]
                  refine ⟨⟨.bool (v1 && v2 && v3), by rfl, (guard_free (by simp)).1, (guard_free (by simp)).2⟩, ?_⟩
                  intro hg
                  rintro w9 h9
                  go_simp
                  exact ⟨Below.refl _ _, rfl⟩
                dsimp only [List.nil_append, List.cons_append]
                apply relS_if (mask := [false, false, false, false, false, false, false, false, false, false, false, false, false, false, false, false, false, false, false, false, false, false, false, false, false, false, false, true, false]) (t := 117) (want := true) (g := (v1 && v2 && v3))
                · rfl
                · kernel_rfl
                · kernel_rfl
                · dsimp only [oblS]
                  refine ⟨⟨.bool (v1 && v2 && v3), by rfl, (guard_free (by simp)).1, (guard_free (by simp)).2⟩, ?_⟩
                  intro hg
                  rintro w9 h9
                  go_simp
                  exact ⟨Below.refl _ _, rfl⟩
                dsimp only [List.nil_append, List.cons_append]
                apply relS_if (mask := [false, false, false, false, false, false, false, false, false, false, false, false, false, false, false, false, false, false, false, false, false, false, false, false, false, false, false, true, true, true]) (t := 117) (want := true) (g := (v1 && v2 && v3))
                · rfl
                · kernel_rfl
                · kernel_rfl
                · dsimp only [oblS]
                  refine ⟨⟨.bool (v1 && v2 && v3), by rfl, (guard_free (by simp)).1, (guard_free (by simp)).2⟩, ?_⟩
                  intro hg
                  rintro w9 h9
                  go_simp
                  exact ⟨Below.refl _ _, rfl⟩
                dsimp only [List.nil_append, List.cons_append]
                apply relS_if (mask := [false, false, false, false, false, false, false, false, false, false, false, false, false, false, false, false, false, false, false, false, false, false, false, false, false, false, false, true, false, false, true]) (t := 117) (want := true) (g := (v1 && v2 && v3))
                · rfl
                · kernel_rfl
                · kernel_rfl
                · dsimp only [oblS]
                  refine ⟨⟨.bool (v1 && v2 && v3), by rfl, (guard_free (by simp)).1, (guard_free (by simp)).2⟩, ?_⟩
                  intro hg
                  rintro w9 h9
                  go_simp
                  exact ⟨Below.refl _ _, rfl⟩
                dsimp only [List.nil_append, List.cons_append]
                apply relS_if (mask := [false, false, false, false, false, false, false, false, false, false, false, false, false, false, false, false, false, false, false, false, false, false, false, false, false, false, false, true, false, false, false, true]) (t := 117) (want := true) (g := (v1 && v2 && v3)) (x := .int .i64 y.known)
                · rfl
                · kernel_rfl
                · kernel_rfl
                · dsimp only [oblS]
                  refine ⟨⟨.bool (v1 && v2 && v3), by rfl, (guard_free (by simp)).1, (guard_free (by simp)).2⟩, ?_⟩
                  intro hg
                  rintro w9 h9
                  obtain ⟨y0, y1, y2, y3, y4, y5, y6, y7⟩ := HCY.out w9 h9
                  go_simp
                  exact ⟨Below.refl _ _, rfl⟩
                dsimp only [List.nil_append, List.cons_append]
                apply relS_if (mask := [false, false, false, false, false, false, false, false, false, false, false, false, false, false, false, false, false, false, false, false, false, false, false, false, false, false, false, true, false, false, false, false, false]) (t := 117) (want := true) (g := (v1 && v2 && v3))
                · rfl
                · kernel_rfl
                · kernel_rfl
                · dsimp only [oblS]
                  refine ⟨⟨.bool (v1 && v2 && v3), by rfl, (guard_free (by simp)).1, (guard_free (by simp)).2⟩, ?_⟩
                  intro hg
                  rintro w9 h9
                  go_simp
                  exact ⟨Below.refl _ _, rfl⟩
                dsimp only [List.nil_append, List.cons_append]
                apply relS_if (mask := [false, false, false, false, false, false, false, false, false, false, false, false, false, false, false, false, false, false, false, false, false, false, false, false, false, false, false, true, false, false, false, false, true, true]) (t := 117) (want := true) (g := (v1 && v2 && v3)) (x := .bool v4)
                · rfl
                · kernel_rfl
                · kernel_rfl
                · dsimp only [oblS]
                  refine ⟨⟨.bool (v1 && v2 && v3), by rfl, (guard_free (by simp)).1, (guard_free (by simp)).2⟩, ?_⟩
                  intro hg
                  rintro w9 h9
                  go_simp
                  exact ⟨Below.refl _ _, rfl⟩
                dsimp only [List.nil_append, List.cons_append]
                apply relS_det (mask := [false, false, false, false, false, false, false, false, false, false, false, false, false, false, false, false, false, false, false, false, false, false, false, false, false, false, false, true, false, false, false, false, false, false, true]) (x := .bool (v1 && v2 && v3 && v4))
                · rfl
                · kernel_rfl
                · kernel_rfl
                · dsimp only [oblS]
                  rintro w9 h9
                  obtain ⟨cc, hcc⟩ : ∃ cc, (v1 && v2 && v3) = cc := ⟨_, rfl⟩
                  rw [hcc]
                  clear hcc
                  cases cc
                  · go_simp
                    exact ⟨Below.refl _ _, by simp [IsV]⟩
                  · go_simp
                    exact ⟨Below.refl _ _, by simp [IsV]⟩
                dsimp only [List.nil_append, List.cons_append]
                apply relS_det (mask := [false, false, false, false, false, false, false, false, false, false, false, false, false, false, false, false, false, false, false, false, false, false, false, false, false, false, false, false, false, false, false, false, false, false, false, true]) (x := .bool (v1 && v2 && v3 && v4))
                · rfl
                · kernel_rfl
                · kernel_rfl
                · dsimp only [oblS]
                  rintro w9 h9
                  go_simp
                  exact ⟨Below.refl _ _, rfl⟩
                dsimp only [List.nil_append, List.cons_append]
                apply relS_if (mask := [false, false, false, false, false, false, false, false, false, false, false, false, false, false, false, false, false, false, false, false, false, false, false, false, false, false, false, false, false, false, false, false, false, false, false, false, true]) (t := 126) (want := true) (g := (v1 && v2 && v3 && v4))
                · rfl
                · kernel_rfl
                · kernel_rfl
                · dsimp only [oblS]
                  refine ⟨⟨.bool (v1 && v2 && v3 && v4), by rfl, (guard_free (by simp)).1, (guard_free (by simp)).2⟩, ?_⟩
                  intro hg
                  rintro w9 h9
                  go_simp
                  exact ⟨Below.refl _ _, rfl⟩
                dsimp only [List.nil_append, List.cons_append]
                apply relS_if (mask := [false, false, false, false, false, false, false, false, false, false, false, false, false, false, false, false, false, false, false, false, false, false, false, false, false, false, false, false, false, false, false, false, false, false, false, false, true, false]) (t := 126) (want := true) (g := (v1 && v2 && v3 && v4))
                · rfl
                · kernel_rfl
                · kernel_rfl
                · dsimp only [oblS]
                  refine ⟨⟨.bool (v1 && v2 && v3 && v4), by rfl, (guard_free (by simp)).1, (guard_free (by simp)).2⟩, ?_⟩
                  intro hg
                  rintro w9 h9
                  go_simp
                  exact ⟨Below.refl _ _, rfl⟩
                dsimp only [List.nil_append, List.cons_append]
                apply relS_if (mask := [false, false, false, false, false, false, false, false, false, false, false, false, false, false, false, false, false, false, false, false, false, false, false, false, false, false, false, false, false, false, false, false, false, false, false, false, true, true, true]) (t := 126) (want := true) (g := (v1 && v2 && v3 && v4))
                · rfl
                · kernel_rfl
                · kernel_rfl
                · dsimp only [oblS]
                  refine ⟨⟨.bool (v1 && v2 && v3 && v4), by rfl, (guard_free (by simp)).1, (guard_free (by simp)).2⟩, ?_⟩
                  intro hg
                  rintro w9 h9
                  go_simp
                  exact ⟨Below.refl _ _, rfl⟩
                dsimp only [List.nil_append, List.cons_append]
                apply relS_if (mask := [false, false, false, false, false, false, false, false, false, false, false, false, false, false, false, false, false, false, false, false, false, false, false, false, false, false, false, false, false, false, false, false, false, false, false, false, true, false, false, true]) (t := 126) (want := true) (g := (v1 && v2 && v3 && v4)) (x := .agg #[.int .i64 x.key.kind, .int .i64 x.key.subj, .int .i64 x.key.obj, .int .i64 x.val, .int .i64 x.fr, .int .i64 x.to, .int .i64 x.known, .int .i64 x.no])
                · rfl
                · kernel_rfl
                · kernel_rfl
                · dsimp only [oblS]
                  refine ⟨⟨.bool (v1 && v2 && v3 && v4), by rfl, (guard_free (by simp)).1, (guard_free (by simp)).2⟩, ?_⟩
                  intro hg
                  rintro w9 h9
                  obtain ⟨x0, x1, x2, x3, x4, x5, x6, x7⟩ := HCX.out w9 h9
                  go_simp
                  exact ⟨Below.refl _ _, rfl⟩
                dsimp only [List.nil_append, List.cons_append]
                apply relS_if (mask := [false, false, false, false, false, false, false, false, false, false, false, false, false, false, false, false, false, false, false, false, false, false, false, false, false, false, false, false, false, false, false, false, false, false, false, false, true, false, false, false, false]) (t := 126) (want := true) (g := (v1 && v2 && v3 && v4))
                · rfl
                · kernel_rfl
                · kernel_rfl
                · dsimp only [oblS]
                  refine ⟨⟨.bool (v1 && v2 && v3 && v4), by rfl, (guard_free (by simp)).1, (guard_free (by simp)).2⟩, ?_⟩
                  intro hg
                  rintro w9 h9
                  go_simp
                  exact ⟨Below.refl _ _, rfl⟩
                dsimp only [List.nil_append, List.cons_append]
                apply relS_if (mask := [false, false, false, false, false, false, false, false, false, false, false, false, false, false, false, false, false, false, false, false, false, false, false, false, false, false, false, false, false, false, false, false, false, false, false, false, true, false, false, false, false, false]) (t := 126) (want := true) (g := (v1 && v2 && v3 && v4))
                · rfl
                · kernel_rfl
                · kernel_rfl
                · dsimp only [oblS]
                  refine ⟨⟨.bool (v1 && v2 && v3 && v4), by rfl, (guard_free (by simp)).1, (guard_free (by simp)).2⟩, ?_⟩
                  intro hg
                  rintro w9 h9
                  go_simp
                  exact ⟨Below.refl _ _, rfl⟩
                dsimp only [List.nil_append, List.cons_append]
                apply relS_if (mask := [false, false, false, false, false, false, false, false, false, false, false, false, false, false, false, false, false, false, false, false, false, false, false, false, false, false, false, false, false, false, false, false, false, false, false, false, true, false, false, false, false, true, true]) (t := 126) (want := true) (g := (v1 && v2 && v3 && v4))
                · rfl
                · kernel_rfl
                · kernel_rfl
                · dsimp only [oblS]
                  refine ⟨⟨.bool (v1 && v2 && v3 && v4), by rfl, (guard_free (by simp)).1, (guard_free (by simp)).2⟩, ?_⟩
                  intro hg
                  rintro w9 h9
                  go_simp
                  exact ⟨Below.refl _ _, rfl⟩
                dsimp only [List.nil_append, List.cons_append]
                apply relS_if (mask := [false, false, false, false, false, false, false, false, false, false, false, false, false, false, false, false, false, false, false, false, false, false, false, false, false, false, false, false, false, false, false, false, false, false, false, false, true, false, false, false, false, false, false, true]) (t := 126) (want := true) (g := (v1 && v2 && v3 && v4)) (x := .agg #[.int .i64 y.key.kind, .int .i64 y.key.subj, .int .i64 y.key.obj, .int .i64 y.val, .int .i64 y.fr, .int .i64 y.to, .int .i64 y.known, .int .i64 y.no])
                · rfl
                · kernel_rfl
                · kernel_rfl
                · dsimp only [oblS]
                  refine ⟨⟨.bool (v1 && v2 && v3 && v4), by rfl, (guard_free (by simp)).1, (guard_free (by simp)).2⟩, ?_⟩
                  intro hg
                  rintro w9 h9
                  obtain ⟨y0, y1, y2, y3, y4, y5, y6, y7⟩ := HCY.out w9 h9
                  go_simp
                  exact ⟨Below.refl _ _, rfl⟩
                dsimp only [List.nil_append, List.cons_append]
                apply relS_if (mask := [false, false, false, false, false, false, false, false, false, false, false, false, false, false, false, false, false, false, false, false, false, false, false, false, false, false, false, false, false, false, false, false, false, false, false, false, true, false, false, false, true, false, false, false, true]) (t := 126) (want := true) (g := (v1 && v2 && v3 && v4)) (x := .bool b1)
                · rfl
                · kernel_rfl
                · kernel_rfl
                · dsimp only [oblS]
                  refine ⟨⟨.bool (v1 && v2 && v3 && v4), by rfl, (guard_free (by simp)).1, (guard_free (by simp)).2⟩, ?_⟩
                  intro hg
                  rintro w9 h9
                  go_simp
                  refine (rBefore_any x y _).mono ?_
                  rintro e w7 ⟨rfl, hb7⟩
                  exact ⟨_, rfl, hb7, by rw [HB1.out]; rfl⟩
                dsimp only [List.nil_append, List.cons_append]
                apply relS_if (mask := [false, false, false, false, false, false, false, false, false, false, false, false, false, false, false, false, false, false, false, false, false, false, false, false, false, false, false, false, false, false, false, false, false, false, false, false, true, false, false, false, false, false, false, false, false, true]) (t := 126) (want := true) (g := (v1 && v2 && v3 && v4)) (x := .bool b1)
                · rfl
                · kernel_rfl
                · kernel_rfl
                · dsimp only [oblS]
                  refine ⟨⟨.bool (v1 && v2 && v3 && v4), by rfl, (guard_free (by simp)).1, (guard_free (by simp)).2⟩, ?_⟩
                  intro hg
                  rintro w9 h9
                  go_simp
                  exact ⟨Below.refl _ _, rfl⟩
                dsimp only [List.nil_append, List.cons_append]
                apply relS_if (mask := [false, false, false, false, false, false, false, false, false, false, false, false, false, false, false, false, false, false, false, false, false, false, false, false, false, false, false, false, false, false, false, false, false, false, false, false, false, false, false, false, false, false, false, false, false, false, true]) (t := 136) (want := false) (g := ((v1 && v2 && v3 && v4) && !b1))
                · rfl
                · kernel_rfl
                · kernel_rfl
                · dsimp only [oblS]
                  refine ⟨⟨if (v1 && v2 && v3 && v4) = true then .bool b1 else undef, by rfl, (guard_in (by simp)).1, (guard_in (by simp)).2⟩, ?_⟩
                  intro hg
                  rintro w9 h9
                  go_simp
                  exact ⟨Below.refl _ _, rfl⟩
                dsimp only [List.nil_append, List.cons_append]
                apply relS_if (mask := [false, false, false, false, false, false, false, false, false, false, false, false, false, false, false, false, false, false, false, false, false, false, false, false, false, false, false, false, false, false, false, false, false, false, false, false, false, false, false, false, false, false, false, false, false, false, true, false]) (t := 136) (want := false) (g := ((v1 && v2 && v3 && v4) && !b1))
                · rfl
                · kernel_rfl
                · kernel_rfl
                · dsimp only [oblS]
                  refine ⟨⟨if (v1 && v2 && v3 && v4) = true then .bool b1 else undef, by rfl, (guard_in (by simp)).1, (guard_in (by simp)).2⟩, ?_⟩
                  intro hg
                  rintro w9 h9
                  go_simp
                  exact ⟨Below.refl _ _, rfl⟩
                dsimp only [List.nil_append, List.cons_append]
                apply relS_if (mask := [false, false, false, false, false, false, false, false, false, false, false, false, false, false, false, false, false, false, false, false, false, false, false, false, false, false, false, false, false, false, false, false, false, false, false, false, false, false, false, false, false, false, false, false, false, false, true, true, true]) (t := 136) (want := false) (g := ((v1 && v2 && v3 && v4) && !b1)) (x := .bool J)
                · rfl
                · kernel_rfl
                · kernel_rfl
                · dsimp only [oblS]
                  refine ⟨⟨if (v1 && v2 && v3 && v4) = true then .bool b1 else undef, by rfl, (guard_in (by simp)).1, (guard_in (by simp)).2⟩, ?_⟩
                  intro hg
                  rintro w9 h9
                  go_simp
                  exact ⟨Below.refl _ _, rfl⟩
                dsimp only [List.nil_append, List.cons_append]
                apply relS_if (mask := [false, false, false, false, false, false, false, false, false, false, false, false, false, false, false, false, false, false, false, false, false, false, false, false, false, false, false, false, false, false, false, false, false, false, false, false, false, false, false, false, false, false, false, false, false, false, true, false, false, true]) (t := 136) (want := false) (g := ((v1 && v2 && v3 && v4) && !b1)) (x := .bool J)
                · rfl
                · kernel_rfl
                · kernel_rfl
                · dsimp only [oblS]
                  refine ⟨⟨if (v1 && v2 && v3 && v4) = true then .bool b1 else undef, by rfl, (guard_in (by simp)).1, (guard_in (by simp)).2⟩, ?_⟩
                  intro hg
                  rintro w9 h9
                  go_simp
                  exact ⟨Below.refl _ _, rfl⟩
                dsimp only [List.nil_append, List.cons_append]
                apply relS_if (mask := [false, false, false, false, false, false, false, false, false, false, false, false, false, false, false, false, false, false, false, false, false, false, false, false, false, false, false, false, false, false, false, false, false, false, false, false, false, false, false, false, false, false, false, false, false, false, false, false, false, false, true]) (t := 140) (want := true) (g := ((v1 && v2 && v3 && v4) && !b1 && J))
                · rfl
                · kernel_rfl
                · kernel_rfl
                · dsimp only [oblS]
                  refine ⟨⟨if ((v1 && v2 && v3 && v4) && !b1) = true then .bool J else undef, by rfl, (guard_in (by simp)).1, (guard_in (by simp)).2⟩, ?_⟩
                  intro hg
                  rintro w9 h9
                  go_simp
                  exact ⟨Below.refl _ _, rfl⟩
                dsimp only [List.nil_append, List.cons_append]
                apply relS_if (mask := [false, false, false, false, false, false, false, false, false, false, false, false, false, false, false, false, false, false, false, false, false, false, false, false, false, false, false, false, false, false, false, false, false, false, false, false, false, false, false, false, false, false, false, false, false, false, false, false, false, false, true, false]) (t := 140) (want := true) (g := ((v1 && v2 && v3 && v4) && !b1 && J))
                · rfl
                · kernel_rfl
                · kernel_rfl
                · dsimp only [oblS]
                  refine ⟨⟨if ((v1 && v2 && v3 && v4) && !b1) = true then .bool J else undef, by rfl, (guard_in (by simp)).1, (guard_in (by simp)).2⟩, ?_⟩
                  intro hg
                  rintro w9 h9
                  go_simp
                  exact ⟨Below.refl _ _, rfl⟩
                dsimp only [List.nil_append, List.cons_append]
                apply relS_if (mask := [false, false, false, false, false, false, false, false, false, false, false, false, false, false, false, false, false, false, false, false, false, false, false, false, false, false, false, false, false, false, false, false, false, false, false, false, false, false, false, false, false, false, false, false, false, false, false, false, false, false, true, true, true]) (t := 140) (want := true) (g := ((v1 && v2 && v3 && v4) && !b1 && J))
                · rfl
                · kernel_rfl
                · kernel_rfl
                · dsimp only [oblS]
                  refine ⟨⟨if ((v1 && v2 && v3 && v4) && !b1) = true then .bool J else undef, by rfl, (guard_in (by simp)).1, (guard_in (by simp)).2⟩, ?_⟩
                  intro hg
                  rintro w9 h9
                  go_simp
                  exact ⟨Below.refl _ _, rfl⟩
                dsimp only [List.nil_append, List.cons_append]
                apply relS_if (mask := [false, false, false, false, false, false, false, false, false, false, false, false, false, false, false, false, false, false, false, false, false, false, false, false, false, false, false, false, false, false, false, false, false, false, false, false, false, false, false, false, false, false, false, false, false, false, false, false, false, false, true, false, false, true]) (t := 140) (want := true) (g := ((v1 && v2 && v3 && v4) && !b1 && J)) (x := .agg #[.int .i64 y.key.kind, .int .i64 y.key.subj, .int .i64 y.key.obj, .int .i64 y.val, .int .i64 y.fr, .int .i64 y.to, .int .i64 y.known, .int .i64 y.no])
                · rfl
                · kernel_rfl
                · kernel_rfl
                · dsimp only [oblS]
                  refine ⟨⟨if ((v1 && v2 && v3 && v4) && !b1) = true then .bool J else undef, by rfl, (guard_in (by simp)).1, (guard_in (by simp)).2⟩, ?_⟩
                  intro hg
                  rintro w9 h9
                  obtain ⟨y0, y1, y2, y3, y4, y5, y6, y7⟩ := HCY.out w9 h9
                  go_simp
                  exact ⟨Below.refl _ _, rfl⟩
                dsimp only [List.nil_append, List.cons_append]
                apply relS_if (mask := [false, false, false, false, false, false, false, false, false, false, false, false, false, false, false, false, false, false, false, false, false, false, false, false, false, false, false, false, false, false, false, false, false, false, false, false, false, false, false, false, false, false, false, false, false, false, false, false, false, false, true, false, false, false, false]) (t := 140) (want := true) (g := ((v1 && v2 && v3 && v4) && !b1 && J))
                · rfl
                · kernel_rfl
                · kernel_rfl
                · dsimp only [oblS]
                  refine ⟨⟨if ((v1 && v2 && v3 && v4) && !b1) = true then .bool J else undef, by rfl, (guard_in (by simp)).1, (guard_in (by simp)).2⟩, ?_⟩
                  intro hg
                  rintro w9 h9
                  go_simp
                  exact ⟨Below.refl _ _, rfl⟩
                dsimp only [List.nil_append, List.cons_append]
                apply relS_if (mask := [false, false, false, false, false, false, false, false, false, false, false, false, false, false, false, false, false, false, false, false, false, false, false, false, false, false, false, false, false, false, false, false, false, false, false, false, false, false, false, false, false, false, false, false, false, false, false, false, false, false, true, false, false, false, false, false]) (t := 140) (want := true) (g := ((v1 && v2 && v3 && v4) && !b1 && J))
                · rfl
                · kernel_rfl
                · kernel_rfl
                · dsimp only [oblS]
                  refine ⟨⟨if ((v1 && v2 && v3 && v4) && !b1) = true then .bool J else undef, by rfl, (guard_in (by simp)).1, (guard_in (by simp)).2⟩, ?_⟩
                  intro hg
                  rintro w9 h9
                  go_simp
                  exact ⟨Below.refl _ _, rfl⟩
                dsimp only [List.nil_append, List.cons_append]
                apply relS_if (mask := [false, false, false, false, false, false, false, false, false, false, false, false, false, false, false, false, false, false, false, false, false, false, false, false, false, false, false, false, false, false, false, false, false, false, false, false, false, false, false, false, false, false, false, false, false, false, false, false, false, false, true, false, false, false, false, true, true]) (t := 140) (want := true) (g := ((v1 && v2 && v3 && v4) && !b1 && J))
                · rfl
                · kernel_rfl
                · kernel_rfl
                · dsimp only [oblS]
                  refine ⟨⟨if ((v1 && v2 && v3 && v4) && !b1) = true then .bool J else undef, by rfl, (guard_in (by simp)).1, (guard_in (by simp)).2⟩, ?_⟩
                  intro hg
                  rintro w9 h9
                  go_simp
                  exact ⟨Below.refl _ _, rfl⟩
                dsimp only [List.nil_append, List.cons_append]
                apply relS_if (mask := [false, false, false, false, false, false, false, false, false, false, false, false, false, false, false, false, false, false, false, false, false, false, false, false, false, false, false, false, false, false, false, false, false, false, false, false, false, false, false, false, false, false, false, false, false, false, false, false, false, false, true, false, false, false, false, false, false, true]) (t := 140) (want := true) (g := ((v1 && v2 && v3 && v4) && !b1 && J)) (x := .agg #[.int .i64 x.key.kind, .int .i64 x.key.subj, .int .i64 x.key.obj, .int .i64 x.val, .int .i64 x.fr, .int .i64 x.to, .int .i64 x.known, .int .i64 x.no])
                · rfl
                · kernel_rfl
                · kernel_rfl
                · dsimp only [oblS]
                  refine ⟨⟨if ((v1 && v2 && v3 && v4) && !b1) = true then .bool J else undef, by rfl, (guard_in (by simp)).1, (guard_in (by simp)).2⟩, ?_⟩
                  intro hg
                  rintro w9 h9
                  obtain ⟨x0, x1, x2, x3, x4, x5, x6, x7⟩ := HCX.out w9 h9
                  go_simp
                  exact ⟨Below.refl _ _, rfl⟩
                dsimp only [List.nil_append, List.cons_append]
                apply relS_if (mask := [false, false, false, false, false, false, false, false, false, false, false, false, false, false, false, false, false, false, false, false, false, false, false, false, false, false, false, false, false, false, false, false, false, false, false, false, false, false, false, false, false, false, false, false, false, false, false, false, false, false, true, false, false, false, true, false, false, false, true]) (t := 140) (want := true) (g := ((v1 && v2 && v3 && v4) && !b1 && J)) (x := .bool b2)
                · rfl
                · kernel_rfl
                · kernel_rfl
                · dsimp only [oblS]
                  refine ⟨⟨if ((v1 && v2 && v3 && v4) && !b1) = true then .bool J else undef, by rfl, (guard_in (by simp)).1, (guard_in (by simp)).2⟩, ?_⟩
                  intro hg
                  rintro w9 h9
                  go_simp
                  refine (rBefore_any y x _).mono ?_
                  rintro e w7 ⟨rfl, hb7⟩
                  exact ⟨_, rfl, hb7, by rw [HB2.out]; rfl⟩
                dsimp only [List.nil_append, List.cons_append]
                apply relS_if (mask := [false, false, false, false, false, false, false, false, false, false, false, false, false, false, false, false, false, false, false, false, false, false, false, false, false, false, false, false, false, false, false, false, false, false, false, false, false, false, false, false, false, false, false, false, false, false, false, false, false, false, true, false, false, false, false, false, false, false, false, true]) (t := 140) (want := true) (g := ((v1 && v2 && v3 && v4) && !b1 && J)) (x := .bool (!b2))
                · rfl
                · kernel_rfl
                · kernel_rfl
                · dsimp only [oblS]
                  refine ⟨⟨if ((v1 && v2 && v3 && v4) && !b1) = true then .bool J else undef, by rfl, (guard_in (by simp)).1, (guard_in (by simp)).2⟩, ?_⟩
                  intro hg
                  rintro w9 h9
                  go_simp
                  exact ⟨Below.refl _ _, rfl⟩
                dsimp only [List.nil_append, List.cons_append]
                apply relS_if (mask := [false, false, false, false, false, false, false, false, false, false, false, false, false, false, false, false, false, false, false, false, false, false, false, false, false, false, false, false, false, false, false, false, false, false, false, false, false, false, false, false, false, false, false, false, false, false, true, false, false, false, true, false, false, false, false, false, false, false, false, false, true]) (t := 136) (want := false) (g := ((v1 && v2 && v3 && v4) && !b1)) (x := .bool (J && !b2))
                · rfl
                · kernel_rfl
                · kernel_rfl
                · dsimp only [oblS]
                  refine ⟨⟨if (v1 && v2 && v3 && v4) = true then .bool b1 else undef, by rfl, (guard_in (by simp)).1, (guard_in (by simp)).2⟩, ?_⟩
                  intro hg
                  rintro w9 h9
                  cases J
                  · go_simp
                    exact ⟨Below.refl _ _, by simp [IsV]⟩
                  · go_simp
                    exact ⟨Below.refl _ _, by simp [IsV]⟩
                dsimp only [List.nil_append, List.cons_append]
                apply relS_if (mask := [false, false, false, false, false, false, false, false, false, false, false, false, false, false, false, false, false, false, false, false, false, false, false, false, false, false, false, false, false, false, false, false, false, false, false, false, true, false, false, false, false, false, false, false, false, false, true, false, false, false, false, false, false, false, false, false, false, false, false, false, false, true]) (t := 126) (want := true) (g := (v1 && v2 && v3 && v4)) (x := .bool (b1 || (J && !b2)))
                · rfl
                · kernel_rfl
                · kernel_rfl
                · dsimp only [oblS]
                  refine ⟨⟨.bool (v1 && v2 && v3 && v4), by rfl, (guard_free (by simp)).1, (guard_free (by simp)).2⟩, ?_⟩
                  intro hg
                  rintro w9 h9
                  cases b1
                  · go_simp
                    exact ⟨Below.refl _ _, by simp [IsV]⟩
                  · go_simp
                    exact ⟨Below.refl _ _, by simp [IsV]⟩
                dsimp only [List.nil_append, List.cons_append]
                apply relS_det (mask := [false, false, false, false, false, false, false, false, false, false, false, false, false, false, false, false, false, false, false, false, false, false, false, false, false, false, false, false, false, false, false, false, false, false, false, false, true, false, false, false, false, false, false, false, false, false, false, false, false, false, false, false, false, false, false, false, false, false, false, false, false, false, true]) (x := .bool ((v1 && v2 && v3 && v4) && (b1 || (J && !b2))))
                · rfl
                · kernel_rfl
                · kernel_rfl
                · dsimp only [oblS]
                  rintro w9 h9
                  obtain ⟨cc, hcc⟩ : ∃ cc, (v1 && v2 && v3 && v4) = cc := ⟨_, rfl⟩
                  rw [hcc]
                  clear hcc
                  cases cc
                  · go_simp
                    exact ⟨Below.refl _ _, by simp [IsV]⟩
                  · go_simp
                    exact ⟨Below.refl _ _, by simp [IsV]⟩
                dsimp only [List.nil_append, List.cons_append]
                refine relS_endK [false, false, false, false, false, false, false, false, false, false, false, false, false, false, false, false, false, false, false, false, false, false, false, false, false, false, false, false, false, false, false, false, false, false, false, false, false, false, false, false, false, false, false, false, false, false, false, false, false, false, false, false, false, false, false, false, false, false, false, false, false, false, false, true] (by rfl) (by rfl) ?_
                dsimp only [finK]
                intro q0 q1 q2 q3 q4 q5 q6 q7 q8 q9 q10 q11 q12 q13 q14 q15 q16 q17 q18 q19 q20 q21 q22 q23 q24 q25 q26 q27 q28 q29 q30 q31 q32 q33 q34 q35 q36 q37 q38 q39 q40 q41 q42 q43 q44 q45 q46 q47 q48 q49 q50 q51 q52 q53 q54 q55 q56 q57 q58 q59 q60 q61 q62
                -- rintro  w8 hb
                intro w7 hb7
                go_frame
                have hB7 := HBE2.out.trans (hb7.mono HBE2.out.size)
                obtain ⟨ov, hov⟩ : ∃ b, ((v1 && v2 && v3 && v4) && (b1 || (J && !b2))) = b := ⟨_, rfl⟩
                rw [hov]
                have HOV2 : Hid (lastTo l x0.key term known x q (p + 1) = (la && !ov)) := by show _ = _; rw [lastTo_step HY.out, HLA.out, HOV.out, hov]
                clear hov hq2 hv2 hv3 hv4 hJ HOV HB1 HB2 hb7
                cases ov
                · go_wp2_with fail
                  go_roundw
                  case rel => exact ⟨p + 1, by omega, by go_num, by rw [HOV2.out]; simp, hB7⟩
                  case measure => simp [intOf]; omega
                · go_wp2_with fail
                  go_roundw
                  case rel => exact ⟨p + 1, by omega, by go_num, by rw [HOV2.out]; simp, hB7⟩
                  case measure => simp [intOf]; omega
              · obtain rfl : n = p := by omega
                have hll : l.length = n := (HLEN.out).symm
                have HSm : Hid (someTo l x0.key term known (q + 1) = true) := by show _ = _; rw [someTo_step HX.out, HCc.out]; simp
                have HMe : Hid (metTo l x0.key term known (q + 1) = (mm || la)) := by show _ = _; rw [metTo_step HX.out, HMM.out, HCc.out, hll, HLA.out]; simp
                have hBo := HB8.out.trans (hbe.mono HB8.out.size)
                cases la
                · go_wp2_with fail
                  go_roundw
                  case rel => exact ⟨q + 1, by omega, by go_num, by rw [HMe.out]; simp, by rw [HSm.out], hBo⟩
                  case measure => simp [intOf]; omega
                · have HAL : Hid (AO = if x.val < 0 then none else some x.val) := by
                    show _ = _
                    rw [← HAO.out]
                    exact at_last HX.out HCc.out (by rw [hll]; exact HLA.out)
                  obtain ⟨x0, x1, x2, x3, x4, x5, x6, x7⟩ := HCX.out wr (Below.refl _ _)
                  have hxl := lt_of_cell x3
                  have hpn : (q : Int) < n := by omega
                  clear x0 x1 x2 x4 x5 x6 x7 HCX hbe hBw
                  by_cases hv : x.val < 0
                  · have hv' : decide (0 ≤ x.val) = false := by simpa using hv
                    have e1 : S = false := by rw [← HS.out, HAL.out, if_pos hv]; rfl
                    subst e1
                    go_wp2_with fail
                    go_roundw
                    case rel => exact ⟨q + 1, by omega, by go_num, by rw [HMe.out]; simp, by rw [HSm.out], hBo⟩
                    case measure => simp [intOf]; omega
                  · have hv' : decide (0 ≤ x.val) = true := by simpa using hv
                    have e1 : S = true := by rw [← HS.out, HAL.out, if_neg hv]; rfl
                    have e2 : V = x.val := by rw [← HV.out, HAL.out, if_neg hv]; rfl
                    subst e1 e2
                    have e3 : (x.val != x.val) = false := by simp
                    go_wp2_with fail
                    go_roundw
                    case rel => exact ⟨q + 1, by omega, by go_num, by rw [HMe.out]; simp, by rw [HSm.out], hBo⟩
                    case measure => simp [intOf]; omega
          · have HSm : Hid (someTo l x0.key term known (q + 1) = ss) := by show _ = _; rw [someTo_step HX.out, HSS.out, HNB.out]; simp
            have HMe : Hid (metTo l x0.key term known (q + 1) = mm) := by show _ = _; rw [metTo_step HX.out, HMM.out, HNB.out]; simp
            go_wp2_with fail
            go_roundw
            case rel => exact ⟨q + 1, by omega, by go_num, by rw [HMe.out], by rw [HSm.out], hB8⟩
            case measure => simp [intOf]; omega
        · obtain rfl : n = q := by omega
          have hll : l.length = n := (HLEN.out).symm
          have hmeq : mm = ss := by
            have h1 := HMM.out
            have h2 := HSS.out
            rw [← hll] at h1 h2
            rw [← h1, ← h2]
            exact met_some
          subst hmeq
          have hfin := HBW.out.trans (HBQ.out.trans (hbe.mono (Nat.le_of_lt hwqz)))
          have hno : mm = false → AO = none := fun h => by
            rw [← HAO.out]
            refine at_none ?_
            rw [hll, HSS.out, h]
          have hAOc : (S = false ∧ V = 0) ∨ (S = true ∧ mm = true) := by
            rw [← HS.out, ← HV.out]
            cases hao : AO with
            | none => exact .inl ⟨rfl, rfl⟩
            | some v =>
              refine .inr ⟨rfl, ?_⟩
              cases hm : mm with
              | true => rfl
              | false => have := hno hm; rw [hao] at this; cases this
          clear hno hbe
          rcases hAOc with ⟨e1, e2⟩ | ⟨e1, e2⟩
          · subst e1 e2
            cases mm <;> (go_wp2_with fail; go_ret; exact ⟨rfl, hfin⟩)
          · subst e1 e2
            go_wp2_with fail
            go_ret
            exact ⟨rfl, hfin⟩
  · have hd : decide (n ≤ 30) = false := by simpa using hn
    rw [hd]
    go_wp2_with fail
    go_ret
    exact ⟨rfl, HBW.out.trans (hb1.mono HBW.out.size)⟩
def CountsCalls : Prop := ∀ (A : Option Addr) (n c : Nat) (l : List Fc) (k : Ky) (term known : Int) (w : World), fSl w w.heap.size A n c l → Calls Try.prog 8 #[.slice A n c, .agg (kEnc k).toArray, .int .i64 term, .int .i64 known] w fun e w' => e = .returned (.bool true) ∧ Below w.heap.size w w'
theorem counts_calls : CountsCalls := lCounts_any
end Go.Proofs.Ytoalmffhiinbbaa
