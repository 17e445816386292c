/- Integers as keys, collected and sorted (as U16, over F1). -/
import Derived.Test.YtbegdcjofnfkiaaGreatDoorJI0
import Derived.Test.YtbegdcjofnfkiaaGreatDoorM4
import Derived.Test.YtbegdcjofnfkiaaGreatDoorShelfI
import Derived.OwnWalkIn
import Derived.TacticsInMore
import Derived.LoopNIn
import Derived.LoopIn
namespace Go.Proofs.YtbegdcjofnfkiaaGreatDoor
open Go.RowKit Go.Shelf Go.Sort
attribute [local go_sem] Oper.semAt_some

set_option maxRecDepth 100000 in
set_option maxHeartbeats 2000000 in
theorem keysI1_seq (Bm b : Nat) (ks : List Int) (w : World) (hBm : w.cell? ⟨Bm, 0, none⟩ = some (.map (some b))) (hkm : KM iV w b ks) :
    SeqG Tryz.prog 75 #[.pointer (some ⟨Bm, 0, none⟩)] (fun x : Int => #[.int .i64 x]) (fun xs => xs.Perm ks) (fun q => q = Bm ∨ q = b) w := by
  intro li J Jx C W hS hC hJ hJx hY h0
  refine (callsIn_wide (n := 0)).1 (callsIn_of_wp Tryz.func75 rfl trivial ?_ rfl)
  simp only [Tryz.ntmps75, List.size_toArray, List.length_cons, List.length_nil, Nat.reduceAdd, Nat.reduceSub, Array.replicate_succ, Array.replicate_zero, List.push_toArray, List.append_toArray, List.nil_append, List.cons_append]
  have HY := hidp hY
  have HJ := hidp hJ
  have HJx := hidp hJx
  clear hY hJ hJx
  have hBW := (SeqSt.start hS hC).cell (b := Bm) (o := 0) (.inl rfl)
  rw [hBm] at hBW
  have hkW : KM iV W b ks := hkm.keep ((SeqSt.start hS hC).reads b (.inr rfl)).2.1
  obtain ⟨w1, hrg, hit0, hb1, hz1⟩ := km_range (P := Tryz.prog) Tryz.underlying69 hkW
  have hJ1 := HJ.out _ _ _ _ h0 (kept_of_below (M := fun q => W.heap.size ≤ q ∧ ¬ C q) hb1 (fun q h1 h2 => by omega))
  have hst0 : SeqSt (fun q => q = Bm ∨ q = b) w W C w1 := (SeqSt.start hS hC).own (M := fun q => W.heap.size ≤ q) (kept_of_below (M := fun q => W.heap.size ≤ q) hb1 (fun q h1 h2 => by omega)) fun _ h => h
  have hCr : ¬ C W.heap.size := fun h => by have := hC _ h; omega
  have HCR := hidp hCr
  have HIT := hidp hit0
  have HJ1 := hidp hJ1
  clear hit0 hJ1 hCr hkW h0
  gi_wp2
  gi_loopw [3] (fun _ wr => ∃ (js : List Nat) (C1 : Nat → Prop), KIt iV wr W.heap.size b ks js ∧ ¬ C1 W.heap.size ∧ J (picks ks js) C1 wr ∧ SeqSt (fun q => q = Bm ∨ q = b) w W C1 wr)
    (fun _ wr => mLeft wr W.heap.size ks.length)
  case atStart => exact ⟨[], C, HIT.out, HCR.out, HJ1.out, hst0⟩
  case round =>
    obtain ⟨js, C1, hit, hC1, hJr, hst⟩ := hrel
    have HC1 := hidp hC1
    have HR := hidp hit.lt.2
    clear hC1 hst0 hS
    rcases km_next (P := Tryz.prog) hit 0 with ⟨hall, hnx⟩ | ⟨j, x, w2, hnj, hj, hnx, hit2, hk2, hz2⟩
    · have HA := hidp hall
      have HIT2 := hidp hit
      clear hall hit
      gi_wp2
      go_end0
      exact ⟨⟨_, rfl⟩, C1, .inl ⟨_, picks_perm HIT2.out.js.1 HIT2.out.js.2 HA.out, hJr⟩⟩
    · have hne := km_entry (P := Tryz.prog) hit2 hj
      have HJP := hidp (picks_next hit.js.1 hit.js.2 hnj hj)
      have hMe : Hid (ks.length - (js ++ [j]).length < mLeft wr W.heap.size ks.length) := by
        show _ < _; rw [← mLeft_eq hit2]; exact mLeft_lt hit hit2
      have hst2 : SeqSt (fun q => q = Bm ∨ q = b) w W C1 w2 := hst.own hk2 fun q h => by omega
      have hJ2 := HJ.out _ _ _ _ hJr (hk2.mono (M' := fun q => W.heap.size ≤ q ∧ ¬ C1 q) fun q _ h => ⟨by omega, by rw [h]; exact HC1.out⟩)
      have HX := hidp hj
      clear hit hst hJr hk2 hz2 hj
      simp only [iV] at hnx hne
      obtain ⟨suf, hsuf⟩ := HJP.out
      obtain ⟨fn, tmps, assign, body, hy, hR⟩ := HY.out 0 _ _ _ _ _ hsuf hJ2
      have HPS : Hid (picks ks (js ++ [j]) = picks ks js ++ [x]) := picks_snoc HX.out
      have HI2 := hidp hit2
      clear hsuf hJ2 HJP hit2
      gi_wp2
      refine ⟨rfl, hR.mono ?_⟩
      rintro e W3 ⟨C3, hk3, hC3, (⟨rfl, hJ3⟩ | ⟨rfl, hJx3⟩)⟩
      · gi_wp2
        go_roundw
        case rel =>
          have hlt3 := HI2.out.lt
          refine ⟨js ++ [j], C3, HI2.out.keep (hk3.block _ hlt3.1 (hst2.reads b (.inr rfl)).2.2) (hk3.block _ hlt3.2 HC1.out), fun h => ?_, by rw [HPS.out]; exact hJ3, hst2.round hk3 hC3⟩
          rcases (hC3 _ h).2 with h | h
          · exact HC1.out h
          · omega
        case measure =>
          have hlt3 := HI2.out.lt
          rw [mLeft_eq (HI2.out.keep (hk3.block _ hlt3.1 (hst2.reads b (.inr rfl)).2.2) (hk3.block _ hlt3.2 HC1.out))]
          exact hMe.out
      · gi_wp2
        refine bodyPost_ret (results_none rfl _ _ _) rfl ?_
        exact ⟨⟨_, rfl⟩, C3, .inr hJx3⟩

set_option maxHeartbeats 400000 in
theorem keysI_any (b : Nat) (w : World) :
    Calls Tryz.prog 30 #[.map (some b)] w fun e w' => e = .returned (.func (.func 75) #[] #[.pointer (some ⟨w.heap.size, 0, none⟩)]) ∧ w.alloc (.cells #[.map (some b)] 69) = w' := by
  go_enter Tryz.func30, Tryz.ntmps30
  go_wp2
  go_ret
  exact ⟨rfl, rfl⟩

def AppIPost (R : List Int → Prop) (w : World) (e : Ending) (w' : World) : Prop := ∃ v xs, e = .returned v ∧ R xs ∧ w'.ownsRow w.heap.size 3 1 v xs.length (xs.flatMap iEnc) ∧ Below w.heap.size w w'
def CAppI (Bs : Nat) (v : Value) : Nat → Prop := fun b => b = Bs ∨ v.ownBlock = some b

set_option maxRecDepth 100000 in
set_option maxHeartbeats 2000000 in
theorem appSeqI_any (gf : Nat) (lb : Array Value) (eg : ∀ args w, (callFunc gf args).run Tryz.prog w = .ok (.enter gf args) w) (R : List Int → Prop) (S : Nat → Prop) (w : World)
    (hseq : SeqG Tryz.prog gf lb (fun x : Int => #[.int .i64 x]) R S w) (hS : ∀ b, S b → b < w.heap.size) (hR : ∀ xs, R xs → xs.length ≤ 1000000) :
    Calls Tryz.prog 102 #[.slice none 0 0, .func (.func gf) #[] lb] w (AppIPost R w) := by
  obtain ⟨i0, hi, hz, hs, hbb⟩ := info_parts iInfo
  refine calls_of_wp_marks Tryz.func102 rfl ?_
  simp only [Tryz.ntmps102, List.size_toArray, List.length_cons, List.length_nil, Nat.reduceAdd, Nat.reduceSub, Array.replicate_succ, Array.replicate_zero, List.push_toArray, List.append_toArray, List.nil_append, List.cons_append]
  obtain ⟨W0, hW0⟩ : ∃ W0, w.alloc (.cells #[.slice none 0 0] 23) = W0 := ⟨_, rfl⟩
  have hBW : Below w.heap.size w W0 := by rw [← hW0]; exact (Below.refl _ w).alloc (Nat.le_refl _) _
  have hz0 : W0.heap.size = w.heap.size + 1 := by rw [← hW0]; simp
  have g1 : W0.heap[w.heap.size]? = some (.cells #[.slice none 0 0] 23 (0, 0)) := by rw [← hW0]; exact World.alloc_heap_new _ _
  have HW0 := hidp hW0
  have G1 := hidp g1
  have HSq := hidp (hseq.later fun b hb => hBW.block b (hS b hb))
  have HR := hidp hR
  have HS := hidp hS
  clear hW0 g1 hseq hR hS
  go_wp2_with fail
  rw [HW0.out]
  refine wp_rangeG (gf := gf) (lb := lb) rfl eg HSq.out (CAppI w.heap.size (.slice none 0 0)) ?S (fun _ => rfl) ?M
    (fun pre C W => ∃ v, C = CAppI w.heap.size v ∧ W.heap[w.heap.size]? = some (.cells #[v] 23 (0, 0)) ∧ W.ownsRow (w.heap.size + 1) 3 1 v pre.length (pre.flatMap iEnc) ∧ Below w.heap.size w W)
    (fun _ _ _ => False)
    ?hI ?hIx ?h0 (fun ll pre x C a' W => ∃ (v : Value), C = CAppI w.heap.size v ∧ W.heap[w.heap.size]? = some (.cells #[v] 23 (0, 0)) ∧ W.ownsRow (w.heap.size + 1) 3 1 v pre.length (pre.flatMap iEnc) ∧ Below w.heap.size w W ∧
        a' = { tmps := #[.slice none 0 0, .func (.func gf) #[] lb, .pointer (some ⟨w.heap.size, 0, none⟩), undef, .slice none 0 0, .int .i64 x, .func (.func gf) #[] lb, .int .i64 x, undef, undef, undef, undef, undef], defers := [] })
    ⟨?hAx, ?assign, ?body⟩ ?done ?stop
  case S =>
    intro b hb
    have := HS.out b hb
    refine ⟨by omega, rfl, ?_⟩
    rintro (h | h)
    · omega
    · simp [Value.ownBlock] at h
  case M =>
    rintro b (h | h)
    · omega
    · simp [Value.ownBlock] at h
  case hI =>
    rintro pre C1 W1 W2 ⟨v, rfl, h2, h3, h4⟩ hk
    have hk' : ∀ b, b < W1.heap.size → CAppI w.heap.size v b → W2.heap[b]? = W1.heap[b]? := fun b hb hc => hk.block b hb fun h => h.2 hc
    exact ⟨v, rfl, (hk' _ (lt_of_heap h2) (.inl rfl)).trans h2, own_keepB h3 fun g hg => hk' g (h3.lt g hg).2 (.inr hg), h4.trans (hk.toBelow h4.size (fun b hb h => by omega))⟩
  case hIx => rintro cd C1 W1 W2 h; exact h.elim
  case h0 => exact ⟨_, rfl, G1.out, World.ownsRow_nil _ _ _ _, hBW⟩
  case hAx =>
    rintro ll pre x C1 a' W2 W3 hll hnl ⟨v, rfl, h2, h3, h4, rfl⟩ _ hk
    have hk' : ∀ b, b < W2.heap.size → CAppI w.heap.size v b → W3.heap[b]? = W2.heap[b]? := fun b hb hc => hk.block b hb fun h => hnl (h ▸ hc)
    exact ⟨v, rfl, (hk' _ (lt_of_heap h2) (.inl rfl)).trans h2, own_keepB h3 fun g hg => hk' g (h3.lt g hg).2 (.inr hg), h4.trans (hk.toBelow h4.size (fun b hb h => by omega)), rfl⟩
  case assign =>
    rintro ll m pre x suf C1 W1 K hll hlt hnl _ ⟨v, rfl, h2, h3, h4⟩ _ hK
    have H3 := hidp h3
    clear h3
    gi_wp2
    exact hK _ _ (Kept.refl _ _) ⟨v, rfl, h2, H3.out, h4, rfl⟩
  case body =>
    rintro ll m pre x suf C1 a' W2 hll hnl hxs ⟨v, rfl, h2, h3, h4, rfl⟩ _ hCl
    have hlen := HR.out _ hxs
    simp only [List.length_append, List.length_cons] at hlen
    obtain ⟨v', w5, hrun, hown', hg, hat⟩ := run_append_one (P := Tryz.prog) (ty := 23) (l := pre) (enc := iEnc) (w := W2) (base := w.heap.size + 1) Tryz.underlying23 hi hz hs hbb rfl iEnc_len (by decide) iEnc_one h3 x (by omega) (by omega) (by have := h4.size; have := lt_of_heap h2; omega)
    obtain ⟨A5, c5, rfl, _⟩ := own_rows iEnc_len (by decide) hown'
    have hvB : ∀ g, v.ownBlock = some g → w.heap.size + 1 ≤ g ∧ g < W2.heap.size := fun g hg => h3.lt g hg
    have l2 := lt_of_heap h2
    have e5 : w5.heap[w.heap.size]? = some (.cells #[v] 23 (0, 0)) := (hg.block _ (by simp; omega) (fun e => by have := hvB _ e.symm; omega)).trans ((Below.heap_alloc _ _ _ l2).trans h2)
    have hb5 : Below w.heap.size w w5 := (h4.alloc h4.size _).grown hg (by have := h4.size; simp; omega) (fun g e => by have := hvB _ e; omega)
    have hk5 : Kept (CAppI w.heap.size v) W2 w5 := ((Kept.refl _ _).alloc _).grown hg fun g e => .inl (.inr e)
    have hz5 : W2.heap.size + 1 ≤ w5.heap.size := by have := hg.size; simpa using this
    have c2 := cell_of_heap (o := 0) h2
    have s5 := frozen_of_heap (o := 0) e5
    simp only [List.getElem?_toArray, List.getElem?_cons_zero] at c2
    have l5 := lt_of_heap e5
    have hd5 : w5.cell? ⟨w.heap.size, 0, none⟩ = some v := by rw [cell_of_heap e5]; rfl
    simp only [iEnc] at hrun
    have HR0 := hidp hrun
    have HO' := hidp hown'
    have E5 := hidp e5
    have HVB := hidp hvB
    have HAT := hidp hat
    have HZ5 := hidp hz5
    clear h2 h3 hrun hown' e5 hvB hat hg hxs hCl hz5
    gi_wp2_with (gi_at_builtin; refine wpListIn_append_known rfl (.tmp 8) (.tmp 10) 23 rfl rfl rfl HR0.out ?_)
    refine ⟨CAppI w.heap.size (.slice A5 (pre.length + 1) c5), hk5.setCell (.inl (.inl rfl)) _, ?_, _, rfl, heap_set1 E5.out _, ?_, hb5.setCell (Nat.le_refl _) _⟩
    · have hlo := HO'.out.lt
      have hz := HZ5.out
      rintro b (h | h)
      · subst h
        exact ⟨by simpa [World.setCell] using l5, .inl (.inl rfl)⟩
      · refine ⟨by simpa [World.setCell] using (hlo b h).2, ?_⟩
        rcases HAT.out with h' | h'
        · exact .inl (.inr (by rw [← h', h]))
        · rw [h'] at h
          injection h with h
          exact .inr (by omega)
    · rw [List.length_append]
      exact own_keepB HO'.out fun g hg => heap_set_ne rfl (by have := (HO'.out.lt g hg).1; omega) _ _
  case done =>
    rintro xs D C' W hRx hD hlt hnD ⟨v, rfl, h2, h3, h4⟩ hk
    obtain ⟨A5, c5, rfl, _⟩ := own_rows iEnc_len (by decide) h3
    have c2 := cell_of_heap (o := 0) h2
    simp only [List.getElem?_toArray, List.getElem?_cons_zero] at c2
    have HK := hidp hk
    have H3 := hidp h3
    have l2 := lt_of_heap h2
    have hkD : Kept (fun b => b = D) W (W.putObj D (.deferred none)) := (Kept.refl (fun b => b = D) W).putObj (r := D) (.inl rfl) (.deferred none)
    have hBD := h4.trans (hkD.toBelow h4.size (by omega))
    have hOD := own_keepB h3 fun g hg => hkD.block g (h3.lt g hg).2 fun e => hnD (e ▸ .inr hg)
    have HOD := hidp (own_monoB hOD (Nat.le_succ _))
    have HRx := hidp hRx
    clear hk h2 h3 hnD hOD hRx
    go_wp2
    refine leave_mark (.inl rfl) (D := D) HK.out rfl (v := .slice A5 xs.length c5) ?_ ⟨_, xs, rfl, HRx.out, HOD.out, hBD⟩
    simp [results, Tryz.f102, go_sem]
  case stop => rintro D cd C' W hD hlt hnD h; exact h.elim

set_option maxHeartbeats 400000 in
theorem collectI_any (gf : Nat) (lb : Array Value) (eg : ∀ args w, (callFunc gf args).run Tryz.prog w = .ok (.enter gf args) w) (R : List Int → Prop) (S : Nat → Prop) (w : World)
    (hseq : SeqG Tryz.prog gf lb (fun x : Int => #[.int .i64 x]) R S w) (hS : ∀ b, S b → b < w.heap.size) (hR : ∀ xs, R xs → xs.length ≤ 1000000) :
    Calls Tryz.prog 73 #[.func (.func gf) #[] lb] w (AppIPost R w) := by
  go_enter Tryz.func73, Tryz.ntmps73
  go_wp2_with fail
  refine (appSeqI_any gf lb eg R S w hseq hS hR).mono ?_
  rintro e w1 ⟨v, xs, rfl, h1, h2, h3⟩
  go_wp2_with fail
  go_ret
  exact ⟨v, xs, rfl, h1, h2, h3⟩
theorem sortI_own (base n : Nat) (v : Value) (l : List Int) (w : World) (hown : w.ownsRow base 3 1 v n (l.flatMap iEnc)) (hbase : base ≤ w.heap.size) (hn : n < 4611686018427387904) :
    Calls Tryz.prog 74 #[v] w fun e w' => e = .returned (.tuple #[]) ∧ w'.ownsRow base 3 1 v n ((l.mergeSort fun x y => decide (x ≤ y)).flatMap iEnc) ∧ Below base w w' := by
  have hlen := own_len iEnc_len (by decide) hown
  rcases hown.2 with ⟨rfl, rfl⟩ | ⟨G, cap, _, rfl, _⟩
  · have hl : l = [] := List.eq_nil_of_length_eq_zero hlen.symm
    subst hl
    exact (AnyG.slices_Sort_int_none Tryz.sortI none 0 w).mono fun e w' ⟨he, hb⟩ => by subst hb; exact ⟨he, by simpa using World.ownsRow_nil _ _ _ _, Below.refl _ _⟩
  · have hG := (hown.lt G rfl).1
    exact (sortI_kept (ρ := Tryz.sortI_ren) Tryz.sortI l hown hn).mono fun e w' ⟨he, h1, h2⟩ => ⟨he, h1, h2.toBelow hbase fun b hb h => by omega⟩

def SortedIPost (R : List Int → Prop) (w : World) (e : Ending) (w' : World) : Prop := ∃ (v : Value) (xs : List Int), e = .returned v ∧ R xs ∧ w'.ownsRow w.heap.size 3 1 v xs.length ((xs.mergeSort fun x y => decide (x ≤ y)).flatMap iEnc) ∧ Below w.heap.size w w'
set_option maxHeartbeats 400000 in
theorem sortedI_any (gf : Nat) (lb : Array Value) (eg : ∀ args w, (callFunc gf args).run Tryz.prog w = .ok (.enter gf args) w) (R : List Int → Prop) (S : Nat → Prop) (w : World)
    (hseq : SeqG Tryz.prog gf lb (fun x : Int => #[.int .i64 x]) R S w) (hS : ∀ b, S b → b < w.heap.size) (hR : ∀ xs, R xs → xs.length ≤ 1000000) :
    Calls Tryz.prog 29 #[.func (.func gf) #[] lb] w (SortedIPost R w) := by
  go_enter Tryz.func29, Tryz.ntmps29
  go_wp2_with fail
  refine (collectI_any gf lb eg R S w hseq hS hR).mono ?_
  rintro e w1 ⟨v, xs, rfl, h1, h2, h3⟩
  have H1 := hidp h1
  have H2 := hidp h2
  have hx := hR xs h1
  clear h1 h2
  go_wp2_with fail
  refine (sortI_own _ _ v xs _ H2.out h3.size (by omega)).mono ?_
  rintro e w2 ⟨rfl, ho, hb⟩
  have HO := hidp ho
  clear ho
  go_wp2_with fail
  go_ret
  exact ⟨v, xs, rfl, H1.out, HO.out, h3.trans hb⟩
end Go.Proofs.YtbegdcjofnfkiaaGreatDoor
