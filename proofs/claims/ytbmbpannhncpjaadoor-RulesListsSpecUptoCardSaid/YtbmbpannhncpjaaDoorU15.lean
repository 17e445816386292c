/- The keys of a map of atoms; slices.AppendSeq, Collect, SortFunc, SortedFunc at atoms (printed by tools/gen79.py out of F26, F27, F28). -/
import Derived.Test.YtbmbpannhncpjaaDoorU14
import Derived.Test.YtbmbpannhncpjaaDoorKMap
import Derived.Test.YtbmbpannhncpjaaDoorIterG
import Derived.Test.YtbmbpannhncpjaaDoorInApp
import Derived.Test.YtbmbpannhncpjaaDoorSortRow
import Derived.Test.YtbmbpannhncpjaaDoorShelf
import Derived.OwnWalkIn
import Derived.TacticsInMore
import Derived.LoopNIn
import Derived.LoopIn
namespace Go.Proofs.YtbmbpannhncpjaaDoor
open Go.RowKit Go.Shelf Go.Sort
attribute [local go_sem] Oper.semAt_some

def aV (k : At) : Value := .agg #[.int .i64 k.op, .int .i64 k.course, .int .i64 k.n, .int .i64 k.d]
theorem a_ops : KeyOps Tryd.prog 60 54 aV := by
  refine KeyOps.of_struct Tryd.underlying54 Tryd.underlying60 ?_ ?_ ?_ ?_
  · intro a b h
    simp [aV] at h
    exact At.ext' h.1 h.2.1 h.2.2.1 h.2.2.2
  · intro a em w
    have u3 := Tryd.underlying3
    have uk := Tryd.underlying60
    have z3 := Tryd.sizeOf3
    have a3 := Tryd.isAgg3
    have i3 : ∀ n v w, v = Value.int .i64 a.op ∨ v = .int .i64 a.course ∨ v = .int .i64 a.n ∨ v = .int .i64 a.d → (Instr.checkKey em (n + 1) 3 v).run Tryd.prog w = .ok () w := by
      rintro n v w (rfl | rfl | rfl | rfl) <;> (unfold Instr.checkKey; go_simp)
    show (Instr.checkKey em (9999 + 1) 60 (aV a)).run Tryd.prog w = .ok () w
    unfold Instr.checkKey aV
    go_simp
  · intro a w
    have : Instr.sameBits 10000 (aV a) (aV a) = true := by
      show Instr.sameBits (9999 + 1) (.agg _) (.agg _) = true
      simp [Instr.sameBits]
    unfold Instr.keyThatStays
    rw [if_pos this]
    rfl
  · intro a b w
    exact a_in 9998 a b w

/-- How many keys the iterator has not yet handed out. -/
def itLeftA (W : World) (r n : Nat) : Nat := match W.heap[r]? with
  | some (.mapIter _ _ seen _) => n - seen.size
  | _ => 0
theorem itLeftA_eq {W : World} {r b : Nat} {ks : List At} {js : List Nat} (h : KIt aV W r b ks js) : itLeftA W r ks.length = ks.length - js.length := by
  obtain ⟨es, clock, h1, h2, h3⟩ := h
  simp [itLeftA, h2]
theorem nodup_lt_lenA {n : Nat} {js : List Nat} (h : js.Nodup) (hlt : ∀ j ∈ js, j < n) : js.length ≤ n := by
  have hp := perm_places h hlt
  have := hp.length_eq
  simp at this
  omega
theorem itLeftA_lt {W W2 : World} {r b j : Nat} {ks : List At} {js : List Nat} (h : KIt aV W r b ks js) (h2 : KIt aV W2 r b ks (js ++ [j])) : itLeftA W2 r ks.length < itLeftA W r ks.length := by
  rw [itLeftA_eq h, itLeftA_eq h2]
  have := nodup_lt_lenA h2.js.1 h2.js.2
  simp at this ⊢
  omega

set_option maxRecDepth 100000 in
set_option maxHeartbeats 2000000 in
theorem atoms1_seq (Bm b : Nat) (ks : List At) (w : World) (hBm : w.cell? ⟨Bm, 0, none⟩ = some (.map (some b))) (hkm : KM aV w b ks) :
    SeqG Tryd.prog 56 #[.pointer (some ⟨Bm, 0, none⟩)] (fun x : At => #[.agg #[.int .i64 x.op, .int .i64 x.course, .int .i64 x.n, .int .i64 x.d]]) (fun xs => xs.Perm ks) (fun q => q = Bm ∨ q = b) w := by
  intro li J Jx C W hS hC hJ hJx hY h0
  refine (callsIn_wide (n := 0)).1 (callsIn_of_wp Tryd.func56 rfl trivial ?_ rfl)
  simp only [Tryd.ntmps56, List.size_toArray, List.length_cons, List.length_nil, Nat.reduceAdd, Nat.reduceSub, Array.replicate_succ, Array.replicate_zero, List.push_toArray, List.append_toArray, List.nil_append, List.cons_append]
  have HY := hidp hY
  have HJ := hidp hJ
  have HJx := hidp hJx
  clear hY hJ hJx
  have hBW := (SeqSt.start hS hC).cell (b := Bm) (o := 0) (.inl rfl)
  rw [hBm] at hBW
  have hkW : KM aV W b ks := hkm.keep ((SeqSt.start hS hC).reads b (.inr rfl)).2.1
  obtain ⟨w1, hrg, hit0, hb1, hz1⟩ := km_range (P := Tryd.prog) Tryd.underlying54 hkW
  have hJ1 := HJ.out _ _ _ _ h0 (kept_of_below (M := fun q => W.heap.size ≤ q ∧ ¬ C q) hb1 (fun q h1 h2 => by omega))
  have hst0 : SeqSt (fun q => q = Bm ∨ q = b) w W C w1 := (SeqSt.start hS hC).own (M := fun q => W.heap.size ≤ q) (kept_of_below (M := fun q => W.heap.size ≤ q) hb1 (fun q h1 h2 => by omega)) fun _ h => h
  have hCr : ¬ C W.heap.size := fun h => by have := hC _ h; omega
  have HCR := hidp hCr
  have HIT := hidp hit0
  have HJ1 := hidp hJ1
  clear hit0 hJ1 hCr hkW h0
  gi_wp2
  gi_loopw [3] (fun _ wr => ∃ (js : List Nat) (C1 : Nat → Prop), KIt aV wr W.heap.size b ks js ∧ ¬ C1 W.heap.size ∧ J (picks ks js) C1 wr ∧ SeqSt (fun q => q = Bm ∨ q = b) w W C1 wr)
    (fun _ wr => itLeftA wr W.heap.size ks.length)
  case atStart => exact ⟨[], C, HIT.out, HCR.out, HJ1.out, hst0⟩
  case round =>
    obtain ⟨js, C1, hit, hC1, hJr, hst⟩ := hrel
    have HC1 := hidp hC1
    have HR := hidp hit.lt.2
    clear hC1 hst0 hS
    rcases km_next (P := Tryd.prog) hit 0 with ⟨hall, hnx⟩ | ⟨j, x, w2, hnj, hj, hnx, hit2, hk2, hz2⟩
    · have HA := hidp hall
      have HIT2 := hidp hit
      clear hall hit
      gi_wp2
      go_end0
      exact ⟨⟨_, rfl⟩, C1, .inl ⟨_, picks_perm HIT2.out.js.1 HIT2.out.js.2 HA.out, hJr⟩⟩
    · have hne := km_entry (P := Tryd.prog) hit2 hj
      have HJP := hidp (picks_next hit.js.1 hit.js.2 hnj hj)
      have hMe : Hid (ks.length - (js ++ [j]).length < itLeftA wr W.heap.size ks.length) := by
        show _ < _; rw [← itLeftA_eq hit2]; exact itLeftA_lt hit hit2
      have hst2 : SeqSt (fun q => q = Bm ∨ q = b) w W C1 w2 := hst.own hk2 fun q h => by omega
      have hst3 := hst2.alloc (.cells #[.int .i64 x.op, .int .i64 x.course, .int .i64 x.n, .int .i64 x.d] 60)
      have hJ2 := HJ.out _ _ _ _ hJr ((hk2.mono (M' := fun q => W.heap.size ≤ q ∧ ¬ C1 q) fun q _ h => ⟨by omega, by rw [h]; exact HC1.out⟩).alloc (.cells #[.int .i64 x.op, .int .i64 x.course, .int .i64 x.n, .int .i64 x.d] 60))
      have hit3 : KIt aV (w2.alloc (.cells #[.int .i64 x.op, .int .i64 x.course, .int .i64 x.n, .int .i64 x.d] 60)) W.heap.size b ks (js ++ [j]) := hit2.keep (Below.heap_alloc _ _ _ hit2.lt.1) (Below.heap_alloc _ _ _ hit2.lt.2)
      have HX := hidp hj
      clear hit hit2 hst hJr hk2 hst2 hz2 hj
      simp only [aV] at hnx hne
      obtain ⟨suf, hsuf⟩ := HJP.out
      obtain ⟨fn, tmps, assign, body, hy, hR⟩ := HY.out 0 _ _ _ _ _ hsuf hJ2
      have HPS : Hid (picks ks (js ++ [j]) = picks ks js ++ [x]) := picks_snoc HX.out
      clear hsuf hJ2 HJP
      gi_wp2
      refine ⟨rfl, hR.mono ?_⟩
      rintro e W3 ⟨C3, hk3, hC3, (⟨rfl, hJ3⟩ | ⟨rfl, hJx3⟩)⟩
      · gi_wp2
        go_roundw
        case rel =>
          have hlt3 := hit3.lt
          refine ⟨js ++ [j], C3, hit3.keep (hk3.block _ hlt3.1 (hst3.reads b (.inr rfl)).2.2) (hk3.block _ hlt3.2 HC1.out), fun h => ?_, by rw [HPS.out]; exact hJ3, hst3.round hk3 hC3⟩
          rcases (hC3 _ h).2 with h | h
          · exact HC1.out h
          · omega
        case measure =>
          have hlt3 := hit3.lt
          rw [itLeftA_eq (hit3.keep (hk3.block _ hlt3.1 (hst3.reads b (.inr rfl)).2.2) (hk3.block _ hlt3.2 HC1.out))]
          exact hMe.out
      · gi_wp2
        refine bodyPost_ret (results_none rfl _ _ _) rfl ?_
        exact ⟨⟨_, rfl⟩, C3, .inr hJx3⟩

set_option maxHeartbeats 400000 in
theorem atomKeys_any (b : Nat) (w : World) :
    Calls Tryd.prog 40 #[.map (some b)] w fun e w' => e = .returned (.func (.func 56) #[] #[.pointer (some ⟨w.heap.size, 0, none⟩)]) ∧ w.alloc (.cells #[.map (some b)] 54) = w' := by
  go_enter Tryd.func40, Tryd.ntmps40
  go_wp2
  go_ret
  exact ⟨rfl, rfl⟩
def AppAPost (R : List At → Prop) (w : World) (e : Ending) (w' : World) : Prop := ∃ v xs, e = .returned v ∧ R xs ∧ w'.ownsRow w.heap.size 60 4 v xs.length (xs.flatMap aEnc) ∧ Below w.heap.size w w'
def CAppA (Bs : Nat) (v : Value) : Nat → Prop := fun b => b = Bs ∨ v.ownBlock = some b

set_option maxRecDepth 100000 in
set_option maxHeartbeats 2000000 in
theorem appSeqA_any (gf : Nat) (lb : Array Value) (eg : ∀ args w, (callFunc gf args).run Tryd.prog w = .ok (.enter gf args) w) (R : List At → Prop) (S : Nat → Prop) (w : World)
    (hseq : SeqG Tryd.prog gf lb (fun x : At => #[.agg #[.int .i64 x.op, .int .i64 x.course, .int .i64 x.n, .int .i64 x.d]]) R S w) (hS : ∀ b, S b → b < w.heap.size) (hR : ∀ xs, R xs → xs.length ≤ 1000000) :
    Calls Tryd.prog 64 #[.slice none 0 0, .func (.func gf) #[] lb] w (AppAPost R w) := by
  obtain ⟨i0, hi, hz, hs, hbb⟩ := info_parts aInfo
  refine calls_of_wp_marks Tryd.func64 rfl ?_
  simp only [Tryd.ntmps64, List.size_toArray, List.length_cons, List.length_nil, Nat.reduceAdd, Nat.reduceSub, Array.replicate_succ, Array.replicate_zero, List.push_toArray, List.append_toArray, List.nil_append, List.cons_append]
  obtain ⟨W0, hW0⟩ : ∃ W0, w.alloc (.cells #[.slice none 0 0] 64) = W0 := ⟨_, rfl⟩
  have hBW : Below w.heap.size w W0 := by rw [← hW0]; exact (Below.refl _ w).alloc (Nat.le_refl _) _
  have hz0 : W0.heap.size = w.heap.size + 1 := by rw [← hW0]; simp
  have g1 : W0.heap[w.heap.size]? = some (.cells #[.slice none 0 0] 64 (0, 0)) := by rw [← hW0]; exact World.alloc_heap_new _ _
  have HW0 := hidp hW0
  have G1 := hidp g1
  have HSq := hidp (hseq.later fun b hb => hBW.block b (hS b hb))
  have HR := hidp hR
  have HS := hidp hS
  clear hW0 g1 hseq hR hS
  go_wp2_with fail
  rw [HW0.out]
  refine wp_rangeG (gf := gf) (lb := lb) rfl eg HSq.out (CAppA w.heap.size (.slice none 0 0)) ?S (fun _ => rfl) ?M
    (fun pre C W => ∃ v, C = CAppA w.heap.size v ∧ W.heap[w.heap.size]? = some (.cells #[v] 64 (0, 0)) ∧ W.ownsRow (w.heap.size + 1) 60 4 v pre.length (pre.flatMap aEnc) ∧ Below w.heap.size w W)
    (fun _ _ _ => False)
    ?hI ?hIx ?h0 (fun ll pre x C a' W => ∃ (B5 : Nat) (v : Value), C = CAppA w.heap.size v ∧ W.heap[w.heap.size]? = some (.cells #[v] 64 (0, 0)) ∧ W.ownsRow (w.heap.size + 1) 60 4 v pre.length (pre.flatMap aEnc) ∧ Below w.heap.size w W ∧
        B5 ≠ ll ∧ w.heap.size < B5 ∧ W.heap[B5]? = some (.cells #[.int .i64 x.op, .int .i64 x.course, .int .i64 x.n, .int .i64 x.d] 60 (0, 0)) ∧
        a' = { tmps := #[.slice none 0 0, .func (.func gf) #[] lb, .pointer (some ⟨w.heap.size, 0, none⟩), undef, .slice none 0 0, .pointer (some ⟨B5, 0, none⟩), .func (.func gf) #[] lb, .agg #[.int .i64 x.op, .int .i64 x.course, .int .i64 x.n, .int .i64 x.d], undef, undef, undef, undef, undef], defers := [] })
    ⟨?hAx, ?assign, ?body⟩ ?done ?stop
  case S =>
    intro b hb
    have := HS.out b hb
    refine ⟨by omega, rfl, ?_⟩
    rintro (h | h)
    · omega
    · simp [Value.ownBlock] at h
  case M =>
    rintro b (h | h)
    · omega
    · simp [Value.ownBlock] at h
  case hI =>
    rintro pre C1 W1 W2 ⟨v, rfl, h2, h3, h4⟩ hk
    have hk' : ∀ b, b < W1.heap.size → CAppA w.heap.size v b → W2.heap[b]? = W1.heap[b]? := fun b hb hc => hk.block b hb fun h => h.2 hc
    exact ⟨v, rfl, (hk' _ (lt_of_heap h2) (.inl rfl)).trans h2, own_keepB h3 fun g hg => hk' g (h3.lt g hg).2 (.inr hg), h4.trans (hk.toBelow h4.size (fun b hb h => by omega))⟩
  case hIx => rintro cd C1 W1 W2 h; exact h.elim
  case h0 => exact ⟨_, rfl, G1.out, World.ownsRow_nil _ _ _ _, hBW⟩
  case hAx =>
    rintro ll pre x C1 a' W2 W3 hll hnl ⟨B5, v, rfl, h2, h3, h4, h5, h6, h7, rfl⟩ _ hk
    have hk' : ∀ b, b < W2.heap.size → CAppA w.heap.size v b → W3.heap[b]? = W2.heap[b]? := fun b hb hc => hk.block b hb fun h => hnl (h ▸ hc)
    exact ⟨B5, v, rfl, (hk' _ (lt_of_heap h2) (.inl rfl)).trans h2, own_keepB h3 fun g hg => hk' g (h3.lt g hg).2 (.inr hg), h4.trans (hk.toBelow h4.size (fun b hb h => by omega)), h5, h6, (hk.block _ (lt_of_heap h7) h5).trans h7, rfl⟩
  case assign =>
    rintro ll m pre x suf C1 W1 K hll hlt hnl _ ⟨v, rfl, h2, h3, h4⟩ _ hK
    have l2 := lt_of_heap h2
    have H3 := hidp h3
    clear h3
    gi_wp2
    exact hK _ _ ((Kept.refl _ _).alloc _) ⟨W1.heap.size, v, rfl, (Below.heap_alloc _ _ _ l2).trans h2, H3.out.alloc _, h4.alloc h4.size _, by omega, by omega, World.alloc_heap_new _ _, rfl⟩
  case body =>
    rintro ll m pre x suf C1 a' W2 hll hnl hxs ⟨B5, v, rfl, h2, h3, h4, h5, h6, h7, rfl⟩ _ hCl
    have hlen := HR.out _ hxs
    simp only [List.length_append, List.length_cons] at hlen
    obtain ⟨v', w5, hrun, hown', hg, hat⟩ := run_append_one (P := Tryd.prog) (ty := 64) (l := pre) (enc := aEnc) (w := W2) (base := w.heap.size + 1) Tryd.underlying64 hi hz hs hbb rfl aEnc_len (by decide) aEnc_one h3 x (by omega) (by omega) (by have := h4.size; have := lt_of_heap h2; omega)
    obtain ⟨A5, c5, rfl, _⟩ := own_rows aEnc_len (by decide) hown'
    have hvB : ∀ g, v.ownBlock = some g → w.heap.size + 1 ≤ g ∧ g < W2.heap.size := fun g hg => h3.lt g hg
    have l2 := lt_of_heap h2
    have l7 := lt_of_heap h7
    have e5 : w5.heap[w.heap.size]? = some (.cells #[v] 64 (0, 0)) := (hg.block _ (by simp; omega) (fun e => by have := hvB _ e.symm; omega)).trans ((Below.heap_alloc _ _ _ l2).trans h2)
    have hb5 : Below w.heap.size w w5 := (h4.alloc h4.size _).grown hg (by have := h4.size; simp; omega) (fun g e => by have := hvB _ e; omega)
    have hk5 : Kept (CAppA w.heap.size v) W2 w5 := ((Kept.refl _ _).alloc _).grown hg fun g e => .inl (.inr e)
    have hz5 : W2.heap.size + 1 ≤ w5.heap.size := by have := hg.size; simpa using this
    have c2 := cell_of_heap (o := 0) h2
    have x0 := cell_of_heap (o := 0) h7
    have x1 := cell_of_heap (o := 1) h7
    have x2 := cell_of_heap (o := 2) h7
    have x3 := cell_of_heap (o := 3) h7
    have s5 := frozen_of_heap (o := 0) e5
    simp only [List.getElem?_toArray, List.getElem?_cons_zero, List.getElem?_cons_succ] at c2 x0 x1 x2 x3
    have l5 := lt_of_heap e5
    have hd5 : w5.cell? ⟨w.heap.size, 0, none⟩ = some v := by rw [cell_of_heap e5]; rfl
    have HR0 := hidp hrun
    have HO' := hidp hown'
    have E5 := hidp e5
    have HVB := hidp hvB
    have HAT := hidp hat
    have HZ5 := hidp hz5
    clear h2 h3 h7 hrun hown' e5 hvB hat hg hxs hCl hz5
    gi_wp2_with (gi_at_builtin; refine wpListIn_append_known rfl (.tmp 8) (.tmp 10) 64 rfl rfl rfl HR0.out ?_)
    refine ⟨CAppA w.heap.size (.slice A5 (pre.length + 1) c5), hk5.setCell (.inl (.inl rfl)) _, ?_, _, rfl, heap_set1 E5.out _, ?_, hb5.setCell (Nat.le_refl _) _⟩
    · have hlo := HO'.out.lt
      have hz := HZ5.out
      rintro b (h | h)
      · subst h
        exact ⟨by simpa [World.setCell] using l5, .inl (.inl rfl)⟩
      · refine ⟨by simpa [World.setCell] using (hlo b h).2, ?_⟩
        rcases HAT.out with h' | h'
        · exact .inl (.inr (by rw [← h', h]))
        · rw [h'] at h
          injection h with h
          exact .inr (by omega)
    · rw [List.length_append]
      exact own_keepB HO'.out fun g hg => heap_set_ne rfl (by have := (HO'.out.lt g hg).1; omega) _ _
  case done =>
    rintro xs D C' W hRx hD hlt hnD ⟨v, rfl, h2, h3, h4⟩ hk
    obtain ⟨A5, c5, rfl, _⟩ := own_rows aEnc_len (by decide) h3
    have c2 := cell_of_heap (o := 0) h2
    simp only [List.getElem?_toArray, List.getElem?_cons_zero] at c2
    have HK := hidp hk
    have H3 := hidp h3
    have l2 := lt_of_heap h2
    have hkD : Kept (fun b => b = D) W (W.putObj D (.deferred none)) := (Kept.refl (fun b => b = D) W).putObj (r := D) (.inl rfl) (.deferred none)
    have hBD := h4.trans (hkD.toBelow h4.size (by omega))
    have hOD := own_keepB h3 fun g hg => hkD.block g (h3.lt g hg).2 fun e => hnD (e ▸ .inr hg)
    have HOD := hidp (own_monoB hOD (Nat.le_succ _))
    have HRx := hidp hRx
    clear hk h2 h3 hnD hOD hRx
    go_wp2
    refine leave_mark (.inl rfl) (D := D) HK.out rfl (v := .slice A5 xs.length c5) ?_ ⟨_, xs, rfl, HRx.out, HOD.out, hBD⟩
    simp [results, Tryd.f64, go_sem]
  case stop => rintro D cd C' W hD hlt hnD h; exact h.elim
set_option maxHeartbeats 400000 in
theorem collectA_any (gf : Nat) (lb : Array Value) (eg : ∀ args w, (callFunc gf args).run Tryd.prog w = .ok (.enter gf args) w) (R : List At → Prop) (S : Nat → Prop) (w : World)
    (hseq : SeqG Tryd.prog gf lb (fun x : At => #[.agg #[.int .i64 x.op, .int .i64 x.course, .int .i64 x.n, .int .i64 x.d]]) R S w) (hS : ∀ b, S b → b < w.heap.size) (hR : ∀ xs, R xs → xs.length ≤ 1000000) :
    Calls Tryd.prog 54 #[.func (.func gf) #[] lb] w (AppAPost R w) := by
  go_enter Tryd.func54, Tryd.ntmps54
  go_wp2_with fail
  refine (appSeqA_any gf lb eg R S w hseq hS hR).mono ?_
  rintro e w1 ⟨v, xs, rfl, h1, h2, h3⟩
  go_wp2_with fail
  go_ret
  exact ⟨v, xs, rfl, h1, h2, h3⟩

set_option maxRecDepth 100000 in
set_option maxHeartbeats 1000000 in
theorem lenA0 (w : World) : Calls Tryd.prog 66 #[.int .u64 0] w fun e w' => e = .returned (.int .i64 0) ∧ w = w' := by
  go_enter Tryd.func66, Tryd.ntmps66
  go_wp2
  go_ret
  exact ⟨ret_int (by kernel_rfl), rfl⟩
set_option maxRecDepth 100000 in
set_option maxHeartbeats 1000000 in
theorem insA_nil (p : Option Addr) (cap : Nat) (fv : Value) (w : World) : Calls Tryd.prog 72 #[.slice p 0 cap, .int .i64 0, .int .i64 0, fv] w fun e w' => e = .returned (.tuple #[]) ∧ w = w' := by
  go_enter Tryd.func72, Tryd.ntmps72
  go_wp2_with fail
  go_loopw [8, 9] (fun i _ wr => i = .int .i64 1 ∧ w = wr) (fun _ _ _ => 0)
  case atStart => exact ⟨rfl, rfl⟩
  case round =>
    obtain ⟨rfl, rfl⟩ := hrel
    go_wp2_with fail
    go_end0
    exact ⟨rfl, rfl⟩
set_option maxRecDepth 100000 in
set_option maxHeartbeats 1000000 in
theorem pdqA_nil (p : Option Addr) (cap : Nat) (fv : Value) (w : World) : Calls Tryd.prog 65 #[.slice p 0 cap, .int .i64 0, .int .i64 0, .int .i64 0, fv] w fun e w' => e = .returned (.tuple #[]) ∧ w = w' := by
  go_enter Tryd.func65, Tryd.ntmps65
  go_wp2_with fail
  refine wp_loop_rounds 1 ?_
  rw [rounds_succ]
  go_wp2_with (go_at_call 72; refine (insA_nil p cap fv _).mono ?_; rintro e w1 ⟨rfl, rfl⟩)
  refine bodyPost_ret (results_none rfl _ _ _) rfl ?_
  exact ⟨rfl, rfl⟩
set_option maxRecDepth 100000 in
set_option maxHeartbeats 1000000 in
theorem sortA_nil (p : Option Addr) (cap : Nat) (fv : Value) (w : World) : Calls Tryd.prog 55 #[.slice p 0 cap, fv] w fun e w' => e = .returned (.tuple #[]) ∧ w = w' := by
  go_enter Tryd.func55, Tryd.ntmps55
  go_wp2_with fail
  refine (lenA0 _).mono ?_
  rintro e w1 ⟨rfl, rfl⟩
  go_wp2_with fail
  refine (pdqA_nil _ _ _ _).mono ?_
  rintro e w1 ⟨rfl, rfl⟩
  go_wp2_with fail
  go_end0
  exact ⟨rfl, rfl⟩

theorem ltOfA (a b : At) : ltOf cmpA a b = a.lt b := by
  rw [Bool.eq_iff_iff, ← cmpA_lt]
  simp [ltOf]
theorem swoA : SWO (ltOf cmpA) := by
  refine ⟨fun x => by rw [ltOfA]; exact At.lt_irrefl x, fun x y z => ?_, fun x y z => ?_⟩
  · rw [ltOfA, ltOfA, ltOfA]; exact At.lt_trans
  · rw [ltOfA, ltOfA, ltOfA]
    intro h1 h2
    rcases h : x.lt z with _ | _
    · rfl
    · rcases At.lt_tri x y with h3 | rfl | h3
      · rw [h3] at h1; cases h1
      · rw [h] at h2; cases h2
      · rw [At.lt_trans h3 h] at h2; cases h2
theorem aggA (w : World) : (isAgg 60).run Tryd.prog w = .ok true w := by
  simp [isAgg, run_underlying Tryd.underlying60]
theorem sizeA (w : World) : (Go.sizeOf 60).run Tryd.prog w = .ok 4 w := by
  obtain ⟨i0, hi, _, hs, _⟩ := info_parts aInfo
  simp [Go.sizeOf, typeInfo, hi, hs]
theorem sortA_own (base n : Nat) (v : Value) (l : List At) (w : World) (hown : w.ownsRow base 60 4 v n (l.flatMap aEnc)) (hn : n < 4611686018427387904) :
    Calls Tryd.prog 55 #[v, .func (.func 36) #[] #[]] w fun e w' => e = .returned (.tuple #[]) ∧ ∃ d : List At, d.Perm l ∧ d.Pairwise (fun x y => ¬ cmpA y x < 0) ∧ w'.ownsRow base 60 4 v n (d.flatMap aEnc) ∧ Below base w w' := by
  have hlen := own_len aEnc_len (by decide) hown
  rcases hown.2 with ⟨rfl, rfl⟩ | ⟨G, cap, _, rfl, _⟩
  · have hl : l = [] := List.eq_nil_of_length_eq_zero hlen.symm
    subst hl
    exact (sortA_nil _ _ _ _).mono fun e w' ⟨he, hb⟩ => by subst hb; exact ⟨he, [], List.Perm.nil, List.Pairwise.nil, World.ownsRow_nil _ _ _ _, Below.refl _ _⟩
  · exact sortFunc_own (ρ := Tryd.sortA_ren) Tryd.sortA aggA sizeA aEnc_len aEnc_one cmpA swoA 36 #[] (enters_of Tryd.func36 (by kernel_rfl) rfl) l hown (by decide) (fun W x y => (uAtoms1_any x y W).mono fun e w' ⟨he, hb⟩ => ⟨he, hb.grown⟩) hn

def SortedA (d : List At) : Prop := d.Pairwise fun x y => y.lt x = false
def SortedAPost (R : List At → Prop) (w : World) (e : Ending) (w' : World) : Prop := ∃ (v : Value) (xs d : List At), e = .returned v ∧ R xs ∧ d.Perm xs ∧ SortedA d ∧ w'.ownsRow w.heap.size 60 4 v d.length (d.flatMap aEnc) ∧ Below w.heap.size w w'
set_option maxHeartbeats 400000 in
theorem sortedA_any (gf : Nat) (lb : Array Value) (eg : ∀ args w, (callFunc gf args).run Tryd.prog w = .ok (.enter gf args) w) (R : List At → Prop) (S : Nat → Prop) (w : World)
    (hseq : SeqG Tryd.prog gf lb (fun x : At => #[.agg #[.int .i64 x.op, .int .i64 x.course, .int .i64 x.n, .int .i64 x.d]]) R S w) (hS : ∀ b, S b → b < w.heap.size) (hR : ∀ xs, R xs → xs.length ≤ 1000000) :
    Calls Tryd.prog 39 #[.func (.func gf) #[] lb, .func (.func 36) #[] #[]] w (SortedAPost R w) := by
  go_enter Tryd.func39, Tryd.ntmps39
  go_wp2_with fail
  refine (collectA_any gf lb eg R S w hseq hS hR).mono ?_
  rintro e w1 ⟨v, xs, rfl, h1, h2, h3⟩
  have H1 := hidp h1
  have H2 := hidp h2
  have hx := hR xs h1
  clear h1 h2
  go_wp2_with fail
  refine (sortA_own _ _ v xs _ H2.out (by omega)).mono ?_
  rintro e w2 ⟨rfl, d, hp, hs, ho, hb⟩
  have HP := hidp hp
  have HS : Hid (SortedA d) := hs.imp fun {x y} h => by
    rcases hl : y.lt x with _ | _
    · rfl
    · exact absurd ((cmpA_lt y x).2 hl) h
  have HO := hidp ho
  clear hp hs ho
  go_wp2_with fail
  go_ret
  exact ⟨v, xs, d, rfl, H1.out, HP.out, HS.out, by rw [HP.out.length_eq]; exact HO.out, h3.trans hb⟩

end Go.Proofs.YtbmbpannhncpjaaDoor
