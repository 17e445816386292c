/- Several texts in one: JI J3 F5 J7. -/
import Derived.Test.YtbegdcjofnfkiaaGreatDoorQ5
import Derived.Test.YtbegdcjofnfkiaaGreatDoorQ6
import Derived.Test.YtbegdcjofnfkiaaGreatDoorShelfI
import Derived.OwnWalkIn
import Derived.TacticsInMore
import Derived.LoopNIn
import Derived.LoopIn
import Derived.Test.YtbegdcjofnfkiaaGreatDoorQ3
import Derived.Test.YtbegdcjofnfkiaaGreatDoorQ2
import Derived.Shelf.Abstract
namespace Go.Proofs.YtbegdcjofnfkiaaGreatDoor
section
open Go.RowKit Go.Shelf Go.Sort
attribute [local go_sem] Oper.semAt_some
set_option maxRecDepth 100000 in
set_option maxHeartbeats 2000000 in
theorem keysI1_seq (Bm b : Nat) (ks : List Int) (w : World) (hBm : w.cell? ⟨Bm, 0, none⟩ = some (.map (some b))) (hkm : KM iV w b ks) :
  SeqG Tryz.prog 75 #[.pointer (some ⟨Bm, 0, none⟩)] (fun x : Int => #[.int .i64 x]) (fun xs => xs.Perm ks) (fun q => q = Bm ∨ q = b) w := by
 intro li J Jx C W hS hC hJ hJx hY h0
 refine (callsIn_wide (n := 0)).1 (callsIn_of_wp Tryz.func75 rfl trivial ?_ rfl)
 simp only [Tryz.ntmps75, List.size_toArray, List.length_cons, List.length_nil, Nat.reduceAdd, Nat.reduceSub, Array.replicate_succ, Array.replicate_zero, List.push_toArray, List.append_toArray, List.nil_append, List.cons_append]
 have HY := hidp hY
 have HJ := hidp hJ
 have HJx := hidp hJx
 clear hY hJ hJx
 have hBW := (SeqSt.start hS hC).cell (b := Bm) (o := 0) (.inl rfl)
 rw [hBm] at hBW
 have hkW : KM iV W b ks := hkm.keep ((SeqSt.start hS hC).reads b (.inr rfl)).2.1
 obtain ⟨w1, hrg, hit0, hb1, hz1⟩ := km_range (P := Tryz.prog) Tryz.underlying69 hkW
 have hJ1 := HJ.out _ _ _ _ h0 (kept_of_below (M := fun q => W.heap.size ≤ q ∧ ¬ C q) hb1 (fun q h1 h2 => by omega))
 have hst0 : SeqSt (fun q => q = Bm ∨ q = b) w W C w1 := (SeqSt.start hS hC).own (M := fun q => W.heap.size ≤ q) (kept_of_below (M := fun q => W.heap.size ≤ q) hb1 (fun q h1 h2 => by omega)) fun _ h => h
 have hCr : ¬ C W.heap.size := fun h => by have := hC _ h; omega
 have HCR := hidp hCr
 have HIT := hidp hit0
 have HJ1 := hidp hJ1
 clear hit0 hJ1 hCr hkW h0
 gi_wp2
 gi_loopw [3] (fun _ wr => ∃ (js : List Nat) (C1 : Nat → Prop), KIt iV wr W.heap.size b ks js ∧ ¬ C1 W.heap.size ∧ J (picks ks js) C1 wr ∧ SeqSt (fun q => q = Bm ∨ q = b) w W C1 wr)
  (fun _ wr => mLeft wr W.heap.size ks.length)
 case atStart => exact ⟨[], C, HIT.out, HCR.out, HJ1.out, hst0⟩
 case round =>
  obtain ⟨js, C1, hit, hC1, hJr, hst⟩ := hrel
  have HC1 := hidp hC1
  have HR := hidp hit.lt.2
  clear hC1 hst0 hS
  rcases km_next (P := Tryz.prog) hit 0 with ⟨hall, hnx⟩ | ⟨j, x, w2, hnj, hj, hnx, hit2, hk2, hz2⟩
  ·have HA := hidp hall
   have HIT2 := hidp hit
   clear hall hit
   gi_wp2
   go_end0
   exact ⟨⟨_, rfl⟩, C1, .inl ⟨_, picks_perm HIT2.out.js.1 HIT2.out.js.2 HA.out, hJr⟩⟩
  ·have hne := km_entry (P := Tryz.prog) hit2 hj
   have HJP := hidp (picks_next hit.js.1 hit.js.2 hnj hj)
   have hMe : Hid (ks.length - (js ++ [j]).length < mLeft wr W.heap.size ks.length) := by
    show _ < _; rw [← mLeft_eq hit2]; exact mLeft_lt hit hit2
   have hst2 : SeqSt (fun q => q = Bm ∨ q = b) w W C1 w2 := hst.own hk2 fun q h => by omega
   have hJ2 := HJ.out _ _ _ _ hJr (hk2.mono (M' := fun q => W.heap.size ≤ q ∧ ¬ C1 q) fun q _ h => ⟨by omega, by rw [h]; exact HC1.out⟩)
   have HX := hidp hj
   clear hit hst hJr hk2 hz2 hj
   simp only [iV] at hnx hne
   obtain ⟨suf, hsuf⟩ := HJP.out
   obtain ⟨fn, tmps, assign, body, hy, hR⟩ := HY.out 0 _ _ _ _ _ hsuf hJ2
   have HPS : Hid (picks ks (js ++ [j]) = picks ks js ++ [x]) := picks_snoc HX.out
   have HI2 := hidp hit2
   clear hsuf hJ2 HJP hit2
   gi_wp2
   refine ⟨rfl, hR.mono ?_⟩
   rintro e W3 ⟨C3, hk3, hC3, (⟨rfl, hJ3⟩ | ⟨rfl, hJx3⟩)⟩
   ·gi_wp2
    go_roundw
    case rel =>
     have hlt3 := HI2.out.lt
     refine ⟨js ++ [j], C3, HI2.out.keep (hk3.block _ hlt3.1 (hst2.reads b (.inr rfl)).2.2) (hk3.block _ hlt3.2 HC1.out), fun h => ?_, by rw [HPS.out]; exact hJ3, hst2.round hk3 hC3⟩
     rcases (hC3 _ h).2 with h | h
     ·exact HC1.out h
     ·omega
    case measure =>
     have hlt3 := HI2.out.lt
     rw [mLeft_eq (HI2.out.keep (hk3.block _ hlt3.1 (hst2.reads b (.inr rfl)).2.2) (hk3.block _ hlt3.2 HC1.out))]
     exact hMe.out
   ·gi_wp2
    refine bodyPost_ret (results_none rfl _ _ _) rfl ?_
    exact ⟨⟨_, rfl⟩, C3, .inr hJx3⟩
set_option maxHeartbeats 400000 in
theorem keysI_any (b : Nat) (w : World) :
  Calls Tryz.prog 30 #[.map (some b)] w fun e w' => e = .returned (.func (.func 75) #[] #[.pointer (some ⟨w.heap.size, 0, none⟩)]) ∧ w.alloc (.cells #[.map (some b)] 69) = w' := by
 go_enter Tryz.func30, Tryz.ntmps30
 go_wp2
 go_ret
 exact ⟨rfl, rfl⟩
def AppIPost (R : List Int → Prop) (w : World) (e : Ending) (w' : World) : Prop := ∃ v xs, e = .returned v ∧ R xs ∧ w'.ownsRow w.heap.size 3 1 v xs.length (xs.flatMap iEnc) ∧ Below w.heap.size w w'
def CAppI (Bs : Nat) (v : Value) : Nat → Prop := fun b => b = Bs ∨ v.ownBlock = some b
set_option maxRecDepth 100000 in
set_option maxHeartbeats 2000000 in
theorem appSeqI_any (gf : Nat) (lb : Array Value) (eg : ∀ args w, (callFunc gf args).run Tryz.prog w = .ok (.enter gf args) w) (R : List Int → Prop) (S : Nat → Prop) (w : World)
  (hseq : SeqG Tryz.prog gf lb (fun x : Int => #[.int .i64 x]) R S w) (hS : ∀ b, S b → b < w.heap.size) (hR : ∀ xs, R xs → xs.length ≤ 1000000) :
  Calls Tryz.prog 102 #[.slice none 0 0, .func (.func gf) #[] lb] w (AppIPost R w) := by
 obtain ⟨i0, hi, hz, hs, hbb⟩ := info_parts iInfo
 refine calls_of_wp_marks Tryz.func102 rfl ?_
 simp only [Tryz.ntmps102, List.size_toArray, List.length_cons, List.length_nil, Nat.reduceAdd, Nat.reduceSub, Array.replicate_succ, Array.replicate_zero, List.push_toArray, List.append_toArray, List.nil_append, List.cons_append]
 obtain ⟨W0, hW0⟩ : ∃ W0, w.alloc (.cells #[.slice none 0 0] 23) = W0 := ⟨_, rfl⟩
 have hBW : Below w.heap.size w W0 := by rw [← hW0]; exact (Below.refl _ w).alloc (Nat.le_refl _) _
 have hz0 : W0.heap.size = w.heap.size + 1 := by rw [← hW0]; simp
 have g1 : W0.heap[w.heap.size]? = some (.cells #[.slice none 0 0] 23 (0, 0)) := by rw [← hW0]; exact World.alloc_heap_new _ _
 have HW0 := hidp hW0
 have G1 := hidp g1
 have HSq := hidp (hseq.later fun b hb => hBW.block b (hS b hb))
 have HR := hidp hR
 have HS := hidp hS
 clear hW0 g1 hseq hR hS
 go_wp2_with fail
 rw [HW0.out]
 refine wp_rangeG (gf := gf) (lb := lb) rfl eg HSq.out (CAppI w.heap.size (.slice none 0 0)) ?S (fun _ => rfl) ?M
  (fun pre C W => ∃ v, C = CAppI w.heap.size v ∧ W.heap[w.heap.size]? = some (.cells #[v] 23 (0, 0)) ∧ W.ownsRow (w.heap.size + 1) 3 1 v pre.length (pre.flatMap iEnc) ∧ Below w.heap.size w W)
  (fun _ _ _ => False)
  ?hI ?hIx ?h0 (fun ll pre x C a' W => ∃ (v : Value), C = CAppI w.heap.size v ∧ W.heap[w.heap.size]? = some (.cells #[v] 23 (0, 0)) ∧ W.ownsRow (w.heap.size + 1) 3 1 v pre.length (pre.flatMap iEnc) ∧ Below w.heap.size w W ∧
    a' = { tmps := #[.slice none 0 0, .func (.func gf) #[] lb, .pointer (some ⟨w.heap.size, 0, none⟩), undef, .slice none 0 0, .int .i64 x, .func (.func gf) #[] lb, .int .i64 x, undef, undef, undef, undef, undef], defers := [] })
  ⟨?hAx, ?assign, ?body⟩ ?done ?stop
 case S =>
  intro b hb
  have := HS.out b hb
  refine ⟨by omega, rfl, ?_⟩
  rintro (h | h)
  ·omega
  ·simp [Value.ownBlock] at h
 case M =>
  rintro b (h | h)
  ·omega
  ·simp [Value.ownBlock] at h
 case hI =>
  rintro pre C1 W1 W2 ⟨v, rfl, h2, h3, h4⟩ hk
  have hk' : ∀ b, b < W1.heap.size → CAppI w.heap.size v b → W2.heap[b]? = W1.heap[b]? := fun b hb hc => hk.block b hb fun h => h.2 hc
  exact ⟨v, rfl, (hk' _ (lt_of_heap h2) (.inl rfl)).trans h2, own_keepB h3 fun g hg => hk' g (h3.lt g hg).2 (.inr hg), h4.trans (hk.toBelow h4.size (fun b hb h => by omega))⟩
 case hIx => rintro cd C1 W1 W2 h; exact h.elim
 case h0 => exact ⟨_, rfl, G1.out, World.ownsRow_nil _ _ _ _, hBW⟩
 case hAx =>
  rintro ll pre x C1 a' W2 W3 hll hnl ⟨v, rfl, h2, h3, h4, rfl⟩ _ hk
  have hk' : ∀ b, b < W2.heap.size → CAppI w.heap.size v b → W3.heap[b]? = W2.heap[b]? := fun b hb hc => hk.block b hb fun h => hnl (h ▸ hc)
  exact ⟨v, rfl, (hk' _ (lt_of_heap h2) (.inl rfl)).trans h2, own_keepB h3 fun g hg => hk' g (h3.lt g hg).2 (.inr hg), h4.trans (hk.toBelow h4.size (fun b hb h => by omega)), rfl⟩
 case assign =>
  rintro ll m pre x suf C1 W1 K hll hlt hnl _ ⟨v, rfl, h2, h3, h4⟩ _ hK
  have H3 := hidp h3
  clear h3
  gi_wp2
  exact hK _ _ (Kept.refl _ _) ⟨v, rfl, h2, H3.out, h4, rfl⟩
 case body =>
  rintro ll m pre x suf C1 a' W2 hll hnl hxs ⟨v, rfl, h2, h3, h4, rfl⟩ _ hCl
  have hlen := HR.out _ hxs
  simp only [List.length_append, List.length_cons] at hlen
  obtain ⟨v', w5, hrun, hown', hg, hat⟩ := run_append_one (P := Tryz.prog) (ty := 23) (l := pre) (enc := iEnc) (w := W2) (base := w.heap.size + 1) Tryz.underlying23 hi hz hs hbb rfl iEnc_len (by decide) iEnc_one h3 x (by omega) (by omega) (by have := h4.size; have := lt_of_heap h2; omega)
  obtain ⟨A5, c5, rfl, _⟩ := own_rows iEnc_len (by decide) hown'
  have hvB : ∀ g, v.ownBlock = some g → w.heap.size + 1 ≤ g ∧ g < W2.heap.size := fun g hg => h3.lt g hg
  have l2 := lt_of_heap h2
  have e5 : w5.heap[w.heap.size]? = some (.cells #[v] 23 (0, 0)) := (hg.block _ (by simp; omega) (fun e => by have := hvB _ e.symm; omega)).trans ((Below.heap_alloc _ _ _ l2).trans h2)
  have hb5 : Below w.heap.size w w5 := (h4.alloc h4.size _).grown hg (by have := h4.size; simp; omega) (fun g e => by have := hvB _ e; omega)
  have hk5 : Kept (CAppI w.heap.size v) W2 w5 := ((Kept.refl _ _).alloc _).grown hg fun g e => .inl (.inr e)
  have hz5 : W2.heap.size + 1 ≤ w5.heap.size := by have := hg.size; simpa using this
  have c2 := cell_of_heap (o := 0) h2
  have s5 := frozen_of_heap (o := 0) e5
  simp only [List.getElem?_toArray, List.getElem?_cons_zero] at c2
  have l5 := lt_of_heap e5
  have hd5 : w5.cell? ⟨w.heap.size, 0, none⟩ = some v := by rw [cell_of_heap e5]; rfl
  simp only [iEnc] at hrun
  have HR0 := hidp hrun
  have HO' := hidp hown'
  have E5 := hidp e5
  have HVB := hidp hvB
  have HAT := hidp hat
  have HZ5 := hidp hz5
  clear h2 h3 hrun hown' e5 hvB hat hg hxs hCl hz5
  gi_wp2_with (gi_at_builtin; refine wpListIn_append_known rfl (.tmp 8) (.tmp 10) 23 rfl rfl rfl HR0.out ?_)
  refine ⟨CAppI w.heap.size (.slice A5 (pre.length + 1) c5), hk5.setCell (.inl (.inl rfl)) _, ?_, _, rfl, heap_set1 E5.out _, ?_, hb5.setCell (Nat.le_refl _) _⟩
  ·have hlo := HO'.out.lt
   have hz := HZ5.out
   rintro b (h | h)
   ·subst h
    exact ⟨by simpa [World.setCell] using l5, .inl (.inl rfl)⟩
   ·refine ⟨by simpa [World.setCell] using (hlo b h).2, ?_⟩
    rcases HAT.out with h' | h'
    ·exact .inl (.inr (by rw [← h', h]))
    ·rw [h'] at h
     injection h with h
     exact .inr (by omega)
  ·rw [List.length_append]
   exact own_keepB HO'.out fun g hg => heap_set_ne rfl (by have := (HO'.out.lt g hg).1; omega) _ _
 case done =>
  rintro xs D C' W hRx hD hlt hnD ⟨v, rfl, h2, h3, h4⟩ hk
  obtain ⟨A5, c5, rfl, _⟩ := own_rows iEnc_len (by decide) h3
  have c2 := cell_of_heap (o := 0) h2
  simp only [List.getElem?_toArray, List.getElem?_cons_zero] at c2
  have HK := hidp hk
  have H3 := hidp h3
  have l2 := lt_of_heap h2
  have hkD : Kept (fun b => b = D) W (W.putObj D (.deferred none)) := (Kept.refl (fun b => b = D) W).putObj (r := D) (.inl rfl) (.deferred none)
  have hBD := h4.trans (hkD.toBelow h4.size (by omega))
  have hOD := own_keepB h3 fun g hg => hkD.block g (h3.lt g hg).2 fun e => hnD (e ▸ .inr hg)
  have HOD := hidp (own_monoB hOD (Nat.le_succ _))
  have HRx := hidp hRx
  clear hk h2 h3 hnD hOD hRx
  go_wp2
  refine leave_mark (.inl rfl) (D := D) HK.out rfl (v := .slice A5 xs.length c5) ?_ ⟨_, xs, rfl, HRx.out, HOD.out, hBD⟩
  simp [results, Tryz.f102, go_sem]
 case stop => rintro D cd C' W hD hlt hnD h; exact h.elim
set_option maxHeartbeats 400000 in
theorem collectI_any (gf : Nat) (lb : Array Value) (eg : ∀ args w, (callFunc gf args).run Tryz.prog w = .ok (.enter gf args) w) (R : List Int → Prop) (S : Nat → Prop) (w : World)
  (hseq : SeqG Tryz.prog gf lb (fun x : Int => #[.int .i64 x]) R S w) (hS : ∀ b, S b → b < w.heap.size) (hR : ∀ xs, R xs → xs.length ≤ 1000000) :
  Calls Tryz.prog 73 #[.func (.func gf) #[] lb] w (AppIPost R w) := by
 go_enter Tryz.func73, Tryz.ntmps73
 go_wp2_with fail
 refine (appSeqI_any gf lb eg R S w hseq hS hR).mono ?_
 rintro e w1 ⟨v, xs, rfl, h1, h2, h3⟩
 go_wp2_with fail
 go_ret
 exact ⟨v, xs, rfl, h1, h2, h3⟩
theorem sortI_own (base n : Nat) (v : Value) (l : List Int) (w : World) (hown : w.ownsRow base 3 1 v n (l.flatMap iEnc)) (hbase : base ≤ w.heap.size) (hn : n < 4611686018427387904) :
  Calls Tryz.prog 74 #[v] w fun e w' => e = .returned (.tuple #[]) ∧ w'.ownsRow base 3 1 v n ((l.mergeSort fun x y => decide (x ≤ y)).flatMap iEnc) ∧ Below base w w' := by
 have hlen := own_len iEnc_len (by decide) hown
 rcases hown.2 with ⟨rfl, rfl⟩ | ⟨G, cap, _, rfl, _⟩
 ·have hl : l = [] := List.eq_nil_of_length_eq_zero hlen.symm
  subst hl
  exact (AnyG.slices_Sort_int_none Tryz.sortI none 0 w).mono fun e w' ⟨he, hb⟩ => by subst hb; exact ⟨he, by simpa using World.ownsRow_nil _ _ _ _, Below.refl _ _⟩
 ·have hG := (hown.lt G rfl).1
  exact (sortI_kept (ρ := Tryz.sortI_ren) Tryz.sortI l hown hn).mono fun e w' ⟨he, h1, h2⟩ => ⟨he, h1, h2.toBelow hbase fun b hb h => by omega⟩
def SortedIPost (R : List Int → Prop) (w : World) (e : Ending) (w' : World) : Prop := ∃ (v : Value) (xs : List Int), e = .returned v ∧ R xs ∧ w'.ownsRow w.heap.size 3 1 v xs.length ((xs.mergeSort fun x y => decide (x ≤ y)).flatMap iEnc) ∧ Below w.heap.size w w'
set_option maxHeartbeats 400000 in
theorem sortedI_any (gf : Nat) (lb : Array Value) (eg : ∀ args w, (callFunc gf args).run Tryz.prog w = .ok (.enter gf args) w) (R : List Int → Prop) (S : Nat → Prop) (w : World)
  (hseq : SeqG Tryz.prog gf lb (fun x : Int => #[.int .i64 x]) R S w) (hS : ∀ b, S b → b < w.heap.size) (hR : ∀ xs, R xs → xs.length ≤ 1000000) :
  Calls Tryz.prog 29 #[.func (.func gf) #[] lb] w (SortedIPost R w) := by
 go_enter Tryz.func29, Tryz.ntmps29
 go_wp2_with fail
 refine (collectI_any gf lb eg R S w hseq hS hR).mono ?_
 rintro e w1 ⟨v, xs, rfl, h1, h2, h3⟩
 have H1 := hidp h1
 have H2 := hidp h2
 have hx := hR xs h1
 clear h1 h2
 go_wp2_with fail
 refine (sortI_own _ _ v xs _ H2.out h3.size (by omega)).mono ?_
 rintro e w2 ⟨rfl, ho, hb⟩
 have HO := hidp ho
 clear ho
 go_wp2_with fail
 go_ret
 exact ⟨v, xs, rfl, H1.out, HO.out, h3.trans hb⟩
end
section
open Go.RowKit Go.Sort
abbrev nStable : (Rep.flat sEnc).Stable := Rep.flat_stable _
theorem nSl.get {n₀ n c k : Nat} {A : Option Addr} {l : List ByteArray} {W : World} (h : nSl W n₀ A n c l) (hk : k < n) :
  ∃ b off x, A = some ⟨b, off, none⟩ ∧ b < n₀ ∧ l[k]? = some x ∧ W.cell? ⟨b, off + k, none⟩ = some (.string x) := by
 obtain ⟨b, off, x, cs, rfl, hb, hx, hr, hc⟩ := Rows.get h hk
 obtain rfl := hr
 exact ⟨b, off, x, rfl, hb, hx, by have := hc 0 _ rfl; simpa using this⟩
def wordsJ : List ByteArray := [⟨#[99, 111, 117, 114, 115, 101]⟩, ⟨#[115, 97, 109, 101]⟩, ⟨#[112, 114, 111, 103, 114, 97, 109, 109, 101]⟩, ⟨#[115, 121, 115, 116, 101, 109]⟩, ⟨#[103, 114, 97, 100, 101]⟩, ⟨#[104, 111, 108, 100]⟩, ⟨#[114, 117, 108, 101]⟩, ⟨#[115, 101, 97, 116]⟩, ⟨#[99, 108, 97, 115, 104]⟩, ⟨#[108, 111, 97, 100]⟩, ⟨#[103, 114, 111, 117, 112]⟩, ⟨#[110, 117, 109, 98, 101, 114, 115]⟩]
theorem words_nodup : wordsJ.Nodup := by decide +kernel
def wdJ (s : ByteArray) : Int := indexB wordsJ s + 1
def WordsAt (W : World) : Prop := ∃ A c t fr, W.heap[0]? = some (.cells #[.slice A 12 c] t fr) ∧ nSl W W.heap.size A 12 c wordsJ
theorem WordsAt.below {W W' : World} (h : WordsAt W) (hb : Below W.heap.size W W') : WordsAt W' := by
 obtain ⟨A, c, t, fr, h1, h2⟩ := h
 exact ⟨A, c, t, fr, (hb.block 0 (lt_of_heap h1)).trans h1, h2.keep nStable hb.size hb.block⟩
def kvsJ : List (ByteArray × Value) := [(wordsJ.getD 0 ⟨#[]⟩, .int .i64 1), (wordsJ.getD 1 ⟨#[]⟩, .int .i64 2), (wordsJ.getD 2 ⟨#[]⟩, .int .i64 3), (wordsJ.getD 3 ⟨#[]⟩, .int .i64 4), (wordsJ.getD 4 ⟨#[]⟩, .int .i64 5), (wordsJ.getD 5 ⟨#[]⟩, .int .i64 6), (wordsJ.getD 6 ⟨#[]⟩, .int .i64 7), (wordsJ.getD 7 ⟨#[]⟩, .int .i64 8), (wordsJ.getD 8 ⟨#[]⟩, .int .i64 9), (wordsJ.getD 9 ⟨#[]⟩, .int .i64 10), (wordsJ.getD 10 ⟨#[]⟩, .int .i64 11), (wordsJ.getD 11 ⟨#[]⟩, .int .i64 12)]
theorem kvs_get {k : Nat} {x : ByteArray} (h : wordsJ[k]? = some x) : kvsJ[k]? = some (x, .int .i64 (1 + k)) := by
 have hk := (List.getElem?_eq_some_iff.1 h).1
 have hk' : k < 12 := hk
 rcases k with _ | _ | _ | _ | _ | _ | _ | _ | _ | _ | _ | _ | k
 all_goals first
  | (obtain rfl := Option.some.inj h; rfl)
  | omega
theorem kvs_keys : kvsJ.map (·.1) = wordsJ := rfl
theorem kvs_fresh {k : Nat} {x : ByteArray} (h : wordsJ[k]? = some x) : ∀ p ∈ kvsJ.take k, p.1 ≠ x := by
 intro p hp hpx
 obtain ⟨i, hi, rfl⟩ := List.getElem_of_mem hp
 rw [List.length_take] at hi
 rw [List.getElem_take] at hpx
 have h1 : wordsJ[i]? = some x := by
  rw [← kvs_keys, List.getElem?_map, List.getElem?_eq_getElem (by omega), Option.map_some, hpx]
 have := List.getElem?_inj (List.getElem?_eq_some_iff.1 h1).1 words_nodup |>.1 (h1.trans h.symm)
 omega
theorem indexB_get {α : Type} [DecidableEq α] : ∀ (l : List α) (a : α), (a ∉ l ∧ indexB l a = -1) ∨ ∃ i : Nat, l[i]? = some a ∧ (∀ j, j < i → l[j]? ≠ some a) ∧ indexB l a = i
  | [], a => .inl ⟨by simp, rfl⟩
  | x :: l, a => by
    unfold indexB
    by_cases hx : x = a
    · rw [if_pos hx]
      exact .inr ⟨0, by rw [hx]; rfl, fun j hj => by omega, rfl⟩
    · rw [if_neg hx]
      rcases indexB_get l a with ⟨h1, h2⟩ | ⟨i, h1, h2, h3⟩
      · rw [if_pos (by omega)]
        exact .inl ⟨by simp [h1]; exact fun h => hx h.symm, rfl⟩
      · rw [if_neg (by omega)]
        refine .inr ⟨i + 1, by simpa using h1, fun j hj => ?_, by omega⟩
        rcases j with _ | j
        · simp; exact hx
        · simpa using h2 j (by omega)
theorem kvs_look {v : Value} {s : ByteArray} (h : (∃ p ∈ kvsJ, p.1 = s ∧ v = p.2) ∨ ((∀ p ∈ kvsJ, p.1 ≠ s) ∧ v = .int .i64 0)) : v = .int .i64 (wdJ s) := by
  rcases indexB_get wordsJ s with ⟨h1, h2⟩ | ⟨i, h1, h2, h3⟩
  · rcases h with ⟨p, hp, hps, rfl⟩ | ⟨_, rfl⟩
    · exfalso
      apply h1
      rw [← kvs_keys, ← hps]
      exact List.mem_map_of_mem hp
    · unfold wdJ; rw [h2]; rfl
  · have h4 := kvs_get h1
    rcases h with ⟨p, hp, hps, rfl⟩ | ⟨h, _⟩
    · obtain ⟨k, hk, hpk⟩ := List.getElem_of_mem hp
      have h5 : wordsJ[k]? = some s := by rw [← kvs_keys, List.getElem?_map, List.getElem?_eq_getElem hk, Option.map_some, hpk, hps]
      have hki : k = i :=
         List.getElem?_inj (List.getElem?_eq_some_iff.1 h5).1 words_nodup |>.1 (h5.trans h1.symm)
      subst hki
      rw [List.getElem?_eq_getElem hk, hpk] at h4
      have h6 := Option.some.inj h4
      rw [h6]
      unfold wdJ
      rw [h3]
      show Value.int .i64 (1 + (k : Int)) = _
      congr 1; omega
    · exact absurd rfl (h _ (List.mem_of_getElem? h4))
abbrev sV (s : ByteArray) : Value := .string s
theorem s_ops : KeyOps Tryz.prog 9 111 sV := KeyOps.of_string Tryz.underlying111 Tryz.underlying9
theorem words_look (W : World) {b : Nat} (h : KMV sV W b kvsJ) (s : ByteArray) : (Instr.lookup 111 (.map (some b)) (.string s) false).run Tryz.prog W = .ok (.int .i64 (wdJ s)) W := by
 have hz : (zeroValue 3).run Tryz.prog W = .ok (.int .i64 0) W := by
  obtain ⟨i0, hi, hz, _, _⟩ := info_parts iInfo
  simp [zeroValue, typeInfo, hi, hz]
 obtain ⟨v, hrun, hv⟩ := kmv_lookup s_ops Tryz.underlying111 hz h s
 rw [hrun, kvs_look hv]
set_option maxRecDepth 100000 in
set_option maxHeartbeats 2000000 in
theorem kinds_any (w : World) (hw : WordsAt w) : Calls Tryz.prog 56 #[] w fun e w' => ∃ b, e = .returned (.map (some b)) ∧ w.heap.size ≤ b ∧ KMV sV w' b kvsJ ∧ Below w.heap.size w w' := by
 obtain ⟨A, c, t, fr, hg, hrow⟩ := hw
 have g0 := cell_of_heap (o := 0) hg
 simp only [List.getElem?_toArray, List.getElem?_cons_zero] at g0
 have HROW := hidp hrow
 have hmm := @run_makeMap Tryz.prog
 have hl0 := lt_of_heap hg
 clear hrow hg
 obtain ⟨W0, hW0⟩ : ∃ W0, w.alloc (.map #[] 0) = W0 := ⟨_, rfl⟩
 have hBW : Below w.heap.size w W0 := by rw [← hW0]; exact (Below.refl _ w).alloc (Nat.le_refl _) _
 have hkm0 : KMV sV W0 w.heap.size [] := by rw [← hW0]; exact KMV.made w
 have HW0 := hidp hW0
 have HBW := hidp hBW
 have HKM := hidp hkm0
 clear hW0 hBW hkm0
 go_enter Tryz.func56, Tryz.ntmps56
 go_wp2_with fail
 rw [HW0.out]
 go_loopw [7] (fun i wr => ∃ k : Nat, k ≤ 12 ∧ i = .int .i64 k ∧ KMV sV wr w.heap.size (kvsJ.take k) ∧ Below w.heap.size w wr) (fun i _ => 12 - (intOf i).toNat)
 case atStart => exact ⟨0, by omega, rfl, HKM.out, HBW.out⟩
 case round =>
  obtain ⟨k, hk, rfl, hkm, hbk⟩ := hrel
  have HKMk := hidp hkm
  have HBK := hidp hbk
  clear hkm hbk
  by_cases hk12 : k < 12
  ·obtain ⟨b, off, x, rfl, hb, hx, c1⟩ := nSl.get (HROW.out.keep nStable HBK.out.size HBK.out.block) hk12
   have HX := hidp hx
   obtain ⟨w', hrun, hkm', hg, hz⟩ := kmv_push s_ops HKMk.out (kvs_fresh hx) (.int .i64 (1 + (k : Int)))
   have hk12' : (k : Int) < 12 := by omega
   have hb' : Below w.heap.size w w' := HBK.out.grown hg HBK.out.size (fun r hr => by cases hr; exact Nat.le_refl _)
   have hkm2 : KMV sV w' w.heap.size (kvsJ.take (k + 1)) := by
    rw [take_snoc (kvs_get hx)]; exact hkm'
   clear hx hkm' hg hz
   go_wp2_with fail
   exact ⟨⟨k + 1, by omega, by go_num, hkm2, hb'⟩, by simp [intOf]; omega⟩
  ·obtain rfl : k = 12 := by omega
   go_wp2_with fail
   go_ret
   exact ⟨_, rfl, Nat.le_refl _, HKMk.out, HBK.out⟩
set_option maxHeartbeats 400000 in
theorem qin_any (n a b : Int) (w : World) : Calls Tryz.prog 54 #[.int .i64 n, .int .i64 a, .int .i64 b] w fun e w' => e = .returned (.bool (inB n a b)) ∧ w = w' := by
 go_enter Tryz.func54, Tryz.ntmps54
 go_wp2_with fail
 all_goals go_ret
 all_goals refine ⟨ret_bool ?_, rfl⟩
 all_goals simp [inB]; omega
set_option maxRecDepth 100000 in
set_option maxHeartbeats 1000000 in
theorem indexS_any (A : Option Addr) (n c : Nat) (l : List ByteArray) (s : ByteArray) (w : World) (hl : nSl w w.heap.size A n c l) :
  Calls Tryz.prog 58 #[.slice A n c, .string s] w fun e w' => e = .returned (.int .i64 (indexB l s)) ∧ w = w' := by
 have HL := hidp hl
 have HN := hidp hl.1
 have hcap := hl.2.2.1
 have hnc := hl.2.1
 clear hl
 go_enter Tryz.func58, Tryz.ntmps58
 go_wp2_with fail
 go_loopw [8] (fun i wr => ∃ k : Nat, k ≤ n ∧ i = .int .i64 k ∧ (∀ j, j < k → l[j]? ≠ some s) ∧ w = wr) (fun i _ => n - (intOf i).toNat)
 case atStart => exact ⟨0, by omega, rfl, fun j h => by omega, rfl⟩
 case round =>
  obtain ⟨k, hk, rfl, hno, rfl⟩ := hrel
  have HNO := hidp hno
  clear hno
  by_cases hkn : k < n
  ·obtain ⟨b, off, x, rfl, hb, hx, c1⟩ := nSl.get HL.out hkn
   have hkn' : (k : Int) < n := by omega
   have HX := hidp hx
   obtain ⟨q, hq⟩ : ∃ q, (s.toList == x.toList) = q := ⟨_, rfl⟩
   have hqx : (q = true ↔ x = s) := by
    rw [← hq, beq_iff_eq, ByteArray.toList_eq, ByteArray.toList_eq]
    constructor
    ·intro h
     have : s.data = x.data := Array.toList_inj.1 h
     cases s; cases x; cases this; rfl
    ·intro h; rw [h]
   have HQ := hidp hqx
   clear hx hqx
   cases q
   ·go_wp2_with fail
    go_roundw
    case rel => exact ⟨k + 1, by omega, by go_num, fun j hj => by
     rcases Nat.lt_or_ge j k with h | h
     ·exact HNO.out j h
     ·obtain rfl : j = k := by omega
      rw [HX.out]; intro h; exact absurd (HQ.out.2 (Option.some.inj h)) (by simp), by trivial⟩
    case measure => simp [intOf]; omega
   ·have HR : Hid (indexB l s = k) := by
     rcases indexB_get l s with ⟨h1, _⟩ | ⟨i, h1, h2, h3⟩
     ·exact absurd (List.mem_of_getElem? HX.out) (by rw [HQ.out.1 rfl]; exact h1)
     ·show _ = _
      rw [h3]
      rcases Nat.lt_trichotomy i k with h | h | h
      ·exact absurd h1 (HNO.out i h)
      ·rw [h]
      ·exact absurd (by rw [HX.out, HQ.out.1 rfl]) (h2 k h)
    go_wp2_with fail
    go_ret
    exact ⟨by rw [HR.out]; rfl, rfl⟩
  ·obtain rfl : k = n := by omega
   have HR : Hid (indexB l s = -1) := by
    rcases indexB_get l s with ⟨_, h2⟩ | ⟨i, h1, h2, h3⟩
    ·exact h2
    ·exact absurd h1 (HNO.out i (by have := (List.getElem?_eq_some_iff.1 h1).1; have := HN.out; omega))
   have hkk : ¬ (k : Int) < k := by omega
   go_wp2_with fail
   go_ret
   exact ⟨by rw [HR.out]; rfl, rfl⟩
set_option maxRecDepth 100000 in
set_option maxHeartbeats 1000000 in
theorem indexN_any (A : Option Addr) (n c : Nat) (l : List Int) (s : Int) (w : World) (hl : iSl w w.heap.size A n c l) :
  Calls Tryz.prog 59 #[.slice A n c, .int .i64 s] w fun e w' => e = .returned (.int .i64 (indexB l s)) ∧ w = w' := by
 have HL := hidp hl
 have HN := hidp hl.1
 have hcap := hl.2.2.1
 have hnc := hl.2.1
 clear hl
 go_enter Tryz.func59, Tryz.ntmps59
 go_wp2_with fail
 go_loopw [8] (fun i wr => ∃ k : Nat, k ≤ n ∧ i = .int .i64 k ∧ (∀ j, j < k → l[j]? ≠ some s) ∧ w = wr) (fun i _ => n - (intOf i).toNat)
 case atStart => exact ⟨0, by omega, rfl, fun j h => by omega, rfl⟩
 case round =>
  obtain ⟨k, hk, rfl, hno, rfl⟩ := hrel
  have HNO := hidp hno
  clear hno
  by_cases hkn : k < n
  ·obtain ⟨b, off, x, rfl, hb, hx, c1⟩ := iSl.get HL.out hkn
   have hkn' : (k : Int) < n := by omega
   have HX := hidp hx
   obtain ⟨q, hq⟩ : ∃ q, (s == x) = q := ⟨_, rfl⟩
   have HQ : Hid (q = true ↔ x = s) := by
    show _ ↔ _
    rw [← hq, beq_iff_eq]
    exact eq_comm
   clear hx
   cases q
   ·go_wp2_with fail
    go_roundw
    case rel => exact ⟨k + 1, by omega, by go_num, fun j hj => by
     rcases Nat.lt_or_ge j k with h | h
     ·exact HNO.out j h
     ·obtain rfl : j = k := by omega
      rw [HX.out]; intro h; exact absurd (HQ.out.2 (Option.some.inj h)) (by simp), by trivial⟩
    case measure => simp [intOf]; omega
   ·have HR : Hid (indexB l s = k) := by
     rcases indexB_get l s with ⟨h1, _⟩ | ⟨i, h1, h2, h3⟩
     ·exact absurd (List.mem_of_getElem? HX.out) (by rw [HQ.out.1 rfl]; exact h1)
     ·show _ = _
      rw [h3]
      rcases Nat.lt_trichotomy i k with h | h | h
      ·exact absurd h1 (HNO.out i h)
      ·rw [h]
      ·exact absurd (by rw [HX.out, HQ.out.1 rfl]) (h2 k h)
    go_wp2_with fail
    go_ret
    exact ⟨by rw [HR.out]; rfl, rfl⟩
  ·obtain rfl : k = n := by omega
   have HR : Hid (indexB l s = -1) := by
    rcases indexB_get l s with ⟨_, h2⟩ | ⟨i, h1, h2, h3⟩
    ·exact h2
    ·exact absurd h1 (HNO.out i (by have := (List.getElem?_eq_some_iff.1 h1).1; have := HN.out; omega))
   have hkk : ¬ (k : Int) < k := by omega
   go_wp2_with fail
   go_ret
   exact ⟨by rw [HR.out]; rfl, rfl⟩
end
section
open Go.RowKit Go.Shelf
abbrev fSl := Rows 8 (Rep.flat fEnc)
theorem fStable : (Rep.flat fEnc).Stable := Rep.flat_stable _
theorem fSl.get {n₀ n c k : Nat} {A : Option Addr} {l : List (Fc)} {W : World} (h : fSl W n₀ A n c l) (hk : k < n) :
  ∃ b off m, A = some ⟨b, off, none⟩ ∧ b < n₀ ∧ l[k]? = some m ∧ W.cell? ⟨b, off + k * 8, none⟩ = some (.int .i64 m.key.kind) ∧ W.cell? ⟨b, off + k * 8 + 1, none⟩ = some (.int .i64 m.key.subj) ∧ W.cell? ⟨b, off + k * 8 + 2, none⟩ = some (.int .i64 m.key.obj) ∧ W.cell? ⟨b, off + k * 8 + 3, none⟩ = some (.int .i64 m.val) ∧ W.cell? ⟨b, off + k * 8 + 4, none⟩ = some (.int .i64 m.fr) ∧ W.cell? ⟨b, off + k * 8 + 5, none⟩ = some (.int .i64 m.to) ∧ W.cell? ⟨b, off + k * 8 + 6, none⟩ = some (.int .i64 m.known) ∧ W.cell? ⟨b, off + k * 8 + 7, none⟩ = some (.int .i64 m.no) := by
 obtain ⟨b, off, m, cs, e, hlt, hk', rfl, hc⟩ := Rows.get h hk
 exact ⟨b, off, m, e, hlt, hk', hc 0 _ rfl, hc 1 _ rfl, hc 2 _ rfl, hc 3 _ rfl, hc 4 _ rfl, hc 5 _ rfl, hc 6 _ rfl, hc 7 _ rfl⟩
theorem fInfo : (Tryz.prog.info? 54).map (fun i => (i.zero, i.size, i.bytes)) = some (some (.agg #[.int .i64 0, .int .i64 0, .int .i64 0, .int .i64 0, .int .i64 0, .int .i64 0, .int .i64 0, .int .i64 0]), 8, 64) := by kernel_rfl
set_option maxRecDepth 100000 in
set_option maxHeartbeats 4000000 in
theorem fIndex_any (g : FuncId) (fs cs : Array Value) (p : Fc → Bool) (A : Option Addr) (n c : Nat) (l : List (Fc)) (w : World) (hl : fSl w w.heap.size A n c l)
  (eg : ∀ args w, (callFunc g args).run Tryz.prog w = .ok (.enter g args) w)
  (hp : ∀ (m : Fc) (W : World), Below w.heap.size w W → Calls Tryz.prog g (fs.push (.agg #[.int .i64 m.key.kind, .int .i64 m.key.subj, .int .i64 m.key.obj, .int .i64 m.val, .int .i64 m.fr, .int .i64 m.to, .int .i64 m.known, .int .i64 m.no]) ++ cs) W fun e W' => e = .returned (.bool (p m)) ∧ Below W.heap.size W W') :
  Calls Tryz.prog 91 #[.slice A n c, .func (.func g) fs cs] w fun e w' => e = .returned (.int .i64 (firstM p l)) ∧ Below w.heap.size w w' := by
 have HN := hidp hl.1
 have hcap := hl.2.2.1
 have hlen := hl.2.1
 have HP := hidp hp
 clear hp
 go_enter Tryz.func91, Tryz.ntmps91
 go_wp2
 go_loopw [5, 8] (fun _ i wr => ∃ k : Nat, k ≤ n ∧ i = .int .i64 k ∧ (l.take k).all (fun m => !p m) = true ∧ Below w.heap.size w wr) (fun _ i _ => n - (intOf i).toNat)
 case atStart => exact ⟨0, by omega, rfl, rfl, Below.refl _ _⟩
 case round =>
  obtain ⟨k, hk, rfl, hno, hbe⟩ := hrel
  have HA := hidp hno
  clear hno
  by_cases hlt : k < n
  ·obtain ⟨b, off, m, rfl, hb, hzk, c0, c1, c2, c3, c4, c5, c6, c7⟩ := fSl.get (hl.below fStable hbe) hlt
   have hbb := lt_of_cell c0
   have HZ := hidp hzk
   have hc := HP.out m
   obtain ⟨bo, hbo⟩ : ∃ bo, p m = bo := ⟨_, rfl⟩
   rw [hbo] at hc
   have HC := hidp hc
   have HB := hidp hbo
   clear hzk hc hbo
   go_wp2_with fail
   refine (HC.out _ hbe).mono ?_
   rintro e w1 ⟨rfl, hb1⟩
   have hbe1 := hbe.trans (hb1.mono hbe.size)
   cases bo
   ·go_wp2_with fail
    go_roundw
    case rel => exact ⟨k + 1, by omega, by go_num, by rw [take_snoc HZ.out, List.all_append, HA.out]; simp [HB.out], hbe1⟩
    case measure => simp [intOf]; omega
   ·go_wp2_with fail
    go_ret
    exact ⟨ret_int (firstM_at HZ.out HB.out HA.out).symm, hbe1⟩
  ·obtain rfl : k = n := by omega
   go_wp2_with fail
   go_ret
   refine ⟨ret_int ?_, hbe⟩
   have h1 := HA.out
   rw [List.take_of_length_le (by rw [← HN.out]; omega)] at h1
   exact (firstM_no h1).symm
set_option maxRecDepth 100000 in
set_option maxHeartbeats 1000000 in
theorem fContains_any (g : FuncId) (fs cs : Array Value) (p : Fc → Bool) (A : Option Addr) (n c : Nat) (l : List (Fc)) (w : World) (hl : fSl w w.heap.size A n c l)
  (eg : ∀ args w, (callFunc g args).run Tryz.prog w = .ok (.enter g args) w)
  (hp : ∀ (m : Fc) (W : World), Below w.heap.size w W → Calls Tryz.prog g (fs.push (.agg #[.int .i64 m.key.kind, .int .i64 m.key.subj, .int .i64 m.key.obj, .int .i64 m.val, .int .i64 m.fr, .int .i64 m.to, .int .i64 m.known, .int .i64 m.no]) ++ cs) W fun e W' => e = .returned (.bool (p m)) ∧ Below W.heap.size W W') :
  Calls Tryz.prog 48 #[.slice A n c, .func (.func g) fs cs] w fun e w' => e = .returned (.bool (l.any p)) ∧ Below w.heap.size w w' := by
 have hc := fIndex_any g fs cs p A n c l w hl eg hp
 have HG := hidp (firstM_ge p l)
 generalize firstM p l = q at hc HG
 have HC := hidp hc
 clear hc hp eg
 go_enter Tryz.func48, Tryz.ntmps48
 go_wp2_with fail
 refine HC.out.mono ?_
 rintro e w1 ⟨rfl, hb1⟩
 go_wp2_with fail
 go_ret
 exact ⟨ret_bool HG.out, hb1⟩
set_option maxRecDepth 100000 in
set_option maxHeartbeats 1000000 in
theorem fClone_any (A : Option Addr) (n c : Nat) (l : List (Fc)) (w : World) (hl : fSl w w.heap.size A n c l) (hn : n * 64 ≤ 140737488355328) :
  Calls Tryz.prog 87 #[.slice A n c] w fun e w' => ∃ v, e = .returned v ∧ w'.ownsRow w.heap.size 54 8 v n (l.flatMap fEnc) ∧ (A = none → v = .slice none 0 0) ∧ (A ≠ none → ∃ g c', v = .slice (some ⟨g, 0, none⟩) n c') ∧ Below w.heap.size w w' := by
 obtain ⟨i0, hi, hz, hs, hb⟩ := info_parts fInfo
 have hown := World.ownsRow_made (e := 54) (size := 8) w #[] 0 (Nat.le_refl _) (by decide) (by simp)
 obtain ⟨v, w1, hrun, hown1, hg, hat⟩ := run_append_rows (P := Tryz.prog) (ty := 28) (l := []) (enc := fEnc) Tryz.underlying28 hi hz hs hb rfl fEnc_len (by decide) fEnc_one hown (hl.keep fStable (W' := w.alloc (.cells #[] 54)) (Nat.le_refl _) (fun b hb => Below.heap_alloc _ _ _ hb)) (by omega) (by have := hl.2.1; have := hl.2.2.1; omega) (by simp)
 have HG := hidp hg
 have HO := hidp hown1
 have HAt := hidp hat
 clear hg hown1 hat hown
 have hq := fun (W : World) (a : Option Addr) (n c : Nat) => Lib.run_eql_slice_nil (P := Tryz.prog) W 28 54 a n c 0 0 Tryz.underlying28
 rcases A with _ | ad
 ·go_enter Tryz.func87, Tryz.ntmps87
  go_wp2_with fail
  go_ret
  have hn0 : n = 0 := by
   rcases Nat.eq_zero_or_pos n with h | h
   ·exact h
   ·obtain ⟨_, _, he, _⟩ := hl.2.2.2 h
    cases he
  subst hn0
  have hl0 : l = [] := List.eq_nil_of_length_eq_zero hl.1.symm
  subst hl0
  exact ⟨_, rfl, World.ownsRow_nil _ _ _ _, fun _ => rfl, fun h => absurd rfl h, Below.refl _ _⟩
 ·go_enter Tryz.func87, Tryz.ntmps87
  go_wp2_with (at_builtin; refine wpList_append_known rfl (.tmp 5) (.tmp 6) 28 rfl rfl rfl hrun ?_)
  go_ret
  have ho := HO.out
  have ha := HAt.out
  rw [Nat.zero_add] at ho
  refine ⟨_, rfl, by simpa using ho, fun h => (by cases h), fun _ => ?_, ((Below.refl _ _).alloc (Nat.le_refl _) _).grown HG.out (by simp) (fun g hg => ?_)⟩
  ·rcases ho.2 with ⟨hv, _⟩ | ⟨g, c', cur, hv, _⟩
   ·rw [hv] at ha
    simp [Value.ownBlock] at ha
   ·exact ⟨g, c', hv⟩
  ·simp [Value.ownBlock] at hg
   omega
end
section
open Go.RowKit Go.Shelf Go.Sort
def domPart (ks : List Int) (f : Fc) : Nat → List Int
 | 0 => ks
 | 1 => domAdd ks f.key.subj
 | 2 => domAdd (domAdd ks f.key.subj) f.key.obj
 | _ => domF ks f
def IntsPost (l : List Int) (w : World) (e : Ending) (w' : World) : Prop := ∃ A c, e = .returned (.slice A l.length c) ∧ w'.ownsRow w.heap.size 3 1 (.slice A l.length c) l.length (l.flatMap iEnc) ∧ Below w.heap.size w w'
theorem ix3 (a b c : Int) (W : World) : (Instr.index 70 (.agg #[.int .i64 a, .int .i64 b, .int .i64 c]) (.int .i64 0)).run Tryz.prog W = .ok (.int .i64 a) W ∧ (Instr.index 70 (.agg #[.int .i64 a, .int .i64 b, .int .i64 c]) (.int .i64 1)).run Tryz.prog W = .ok (.int .i64 b) W ∧ (Instr.index 70 (.agg #[.int .i64 a, .int .i64 b, .int .i64 c]) (.int .i64 2)).run Tryz.prog W = .ok (.int .i64 c) W := ⟨by kernel_rfl, by kernel_rfl, by kernel_rfl⟩
set_option maxRecDepth 100000 in
set_option maxHeartbeats 4000000 in
theorem domain_any (A : Option Addr) (n c : Nat) (l : List Fc) (w : World) (hl : fSl w w.heap.size A n c l) (hn : n ≤ 100000) :
  Calls Tryz.prog 11 #[.slice A n c] w (IntsPost (domR l) w) := by
 have hmm := @run_makeMap Tryz.prog
 have HL := hidp hl
 have hnc := hl.2.1
 have hcc := hl.2.2.1
 have HN := hidp hl.1
 obtain ⟨W0, hW0⟩ : ∃ W0, w.alloc (.map #[] 0) = W0 := ⟨_, rfl⟩
 have hBW : Below w.heap.size w W0 := by rw [← hW0]; exact (Below.refl _ w).alloc (Nat.le_refl _) _
 have hkm0 : KM iV W0 w.heap.size ([] : List Int) := by rw [← hW0]; exact KM.made w
 have HW0 := hidp hW0
 have HBW := hidp hBW
 have HKM := hidp hkm0
 clear hW0 hBW hkm0 hl
 go_enter Tryz.func11, Tryz.ntmps11
 go_wp2_with fail
 rw [HW0.out]
 go_loopw [11] (fun i wr => ∃ k : Nat, k ≤ n ∧ i = .int .i64 k ∧ KM iV wr w.heap.size (domSet (l.take k)) ∧ Below w.heap.size w wr) (fun i _ => n - (intOf i).toNat)
 case atStart => exact ⟨0, by omega, rfl, HKM.out, HBW.out⟩
 case round =>
  obtain ⟨k, hk, rfl, hkm, hbe⟩ := hrel
  have HK := hidp hkm
  have HB := hidp hbe
  clear hkm hbe HKM
  by_cases hkn : k < n
  ·have hkn' : (k : Int) < n := by omega
   obtain ⟨b, off, f, rfl, hb, hf, c0, c1, c2, c3, c4, c5, c6, c7⟩ := fSl.get (HL.out.keep (Rep.flat_stable _) HB.out.size HB.out.block) hkn
   have lb := lt_of_cell c0
   have HF := hidp hf
   obtain ⟨W5, hW5⟩ : ∃ W5, wr.alloc (.cells #[.int .i64 f.key.kind, .int .i64 f.key.subj, .int .i64 f.key.obj, .int .i64 f.val, .int .i64 f.fr, .int .i64 f.to, .int .i64 f.known, .int .i64 f.no] 54) = W5 := ⟨_, rfl⟩
   have hb5 : Below w.heap.size w W5 := hW5 ▸ HB.out.alloc HB.out.size _
   have hk5 : KM iV W5 w.heap.size (domSet (l.take k)) := hW5 ▸ HK.out.keep (Below.heap_alloc _ _ _ HK.out.lt)
   have HW5 := hidp hW5
   have HB5 := hidp hb5
   have HK5 := hidp hk5
   clear hf hW5 hb5 hk5
   go_wp2_with fail
   rw [HW5.out]
   clear c0 c1 c2 c3 c4 c5 c6 c7 lb
   go_loopw [24] (fun i wr => ∃ j : Nat, j ≤ 3 ∧ i = .int .i64 j ∧ KM iV wr w.heap.size (domPart (domSet (l.take k)) f j) ∧ Below w.heap.size w wr) (fun i _ => 3 - (intOf i).toNat)
   case atStart => exact ⟨0, by omega, rfl, HK5.out, HB5.out⟩
   case round =>
    rename World => wb
    obtain ⟨j, hj, rfl, hkm, hbe⟩ := hrel
    have HK6 := hidp hkm
    have HB6 := hidp hbe
    clear hkm hbe
    have fin : ∀ (jj : Nat) (v : Int), jj < 3 → (domPart (domSet (l.take k)) f (jj + 1) = domAdd (domPart (domSet (l.take k)) f jj) v) → KM iV wb w.heap.size (domPart (domSet (l.take k)) f jj) → (v < 0 → KM iV wb w.heap.size (domPart (domSet (l.take k)) f (jj + 1))) ∧ (0 ≤ v → ∃ w', (Instr.mapUpdate 69 (.map (some w.heap.size)) (.int .i64 v) (.bool true)).run Tryz.prog wb = .ok () w' ∧ KM iV w' w.heap.size (domPart (domSet (l.take k)) f (jj + 1)) ∧ Below w.heap.size w w') := fun jj v hjj he hkm => ⟨fun hv => by
      rw [he]; unfold domAdd; rw [if_neg (by omega)]; exact hkm, fun hv => by
      obtain ⟨w', h1, h2, h3, h4⟩ := km_update i_ops hkm v
      refine ⟨w', h1, ?_, HB6.out.grown h3 HB6.out.size (fun r hr => by cases hr; exact Nat.le_refl _)⟩
      rw [he]; unfold domAdd; rw [if_pos hv]; exact h2⟩
    have FIN := hidp fin
    clear fin
    rcases j with _ | _ | _ | j
    case zero =>
     obtain ⟨g1, g2⟩ := FIN.out 0 f.key.subj (by omega) rfl HK6.out
     have HG1 := hidp g1
     have HG2 := hidp g2
     clear g1 g2 FIN
     obtain ⟨i0, i1, i2⟩ := ix3 f.key.subj f.key.obj f.val wb
     have j0 : (Instr.index 70 (.agg #[.int .i64 f.key.subj, .int .i64 f.key.obj, .int .i64 f.val]) (.int .i64 ((0 : Nat) : Int))).run Tryz.prog wb = .ok (.int .i64 f.key.subj) wb := i0
     have j1 : (Instr.index 70 (.agg #[.int .i64 f.key.subj, .int .i64 f.key.obj, .int .i64 f.val]) (.int .i64 ((0 + 1 : Nat) : Int))).run Tryz.prog wb = .ok (.int .i64 f.key.obj) wb := i1
     have j2 : (Instr.index 70 (.agg #[.int .i64 f.key.subj, .int .i64 f.key.obj, .int .i64 f.val]) (.int .i64 ((0 + 1 + 1 : Nat) : Int))).run Tryz.prog wb = .ok (.int .i64 f.val) wb := i2
     by_cases hv : 0 ≤ f.key.subj
     ·obtain ⟨w', hrun, hkm', hb'⟩ := HG2.out hv
      have HKM' := hidp hkm'
      have HB' := hidp hb'
      clear hkm' hb'
      go_wp2_with fail
      go_roundw
      case rel => exact ⟨1, by omega, by go_num, HKM'.out, HB'.out⟩
      case measure => simp [intOf]
     ·have hvn : f.key.subj < 0 := by omega
      have hkm' := HG1.out hvn
      have HKM' := hidp hkm'
      clear hkm'
      go_wp2_with fail
      go_roundw
      case rel => exact ⟨1, by omega, by go_num, HKM'.out, HB6.out⟩
      case measure => simp [intOf]
    case succ.zero =>
     obtain ⟨g1, g2⟩ := FIN.out 1 f.key.obj (by omega) rfl HK6.out
     have HG1 := hidp g1
     have HG2 := hidp g2
     clear g1 g2 FIN
     obtain ⟨i0, i1, i2⟩ := ix3 f.key.subj f.key.obj f.val wb
     have j0 : (Instr.index 70 (.agg #[.int .i64 f.key.subj, .int .i64 f.key.obj, .int .i64 f.val]) (.int .i64 ((0 : Nat) : Int))).run Tryz.prog wb = .ok (.int .i64 f.key.subj) wb := i0
     have j1 : (Instr.index 70 (.agg #[.int .i64 f.key.subj, .int .i64 f.key.obj, .int .i64 f.val]) (.int .i64 ((0 + 1 : Nat) : Int))).run Tryz.prog wb = .ok (.int .i64 f.key.obj) wb := i1
     have j2 : (Instr.index 70 (.agg #[.int .i64 f.key.subj, .int .i64 f.key.obj, .int .i64 f.val]) (.int .i64 ((0 + 1 + 1 : Nat) : Int))).run Tryz.prog wb = .ok (.int .i64 f.val) wb := i2
     by_cases hv : 0 ≤ f.key.obj
     ·obtain ⟨w', hrun, hkm', hb'⟩ := HG2.out hv
      have HKM' := hidp hkm'
      have HB' := hidp hb'
      clear hkm' hb'
      go_wp2_with fail
      go_roundw
      case rel => exact ⟨2, by omega, by go_num, HKM'.out, HB'.out⟩
      case measure => simp [intOf]
     ·have hvn : f.key.obj < 0 := by omega
      have hkm' := HG1.out hvn
      have HKM' := hidp hkm'
      clear hkm'
      go_wp2_with fail
      go_roundw
      case rel => exact ⟨2, by omega, by go_num, HKM'.out, HB6.out⟩
      case measure => simp [intOf]
    case succ.succ.zero =>
     obtain ⟨g1, g2⟩ := FIN.out 2 f.val (by omega) rfl HK6.out
     have HG1 := hidp g1
     have HG2 := hidp g2
     clear g1 g2 FIN
     obtain ⟨i0, i1, i2⟩ := ix3 f.key.subj f.key.obj f.val wb
     have j0 : (Instr.index 70 (.agg #[.int .i64 f.key.subj, .int .i64 f.key.obj, .int .i64 f.val]) (.int .i64 ((0 : Nat) : Int))).run Tryz.prog wb = .ok (.int .i64 f.key.subj) wb := i0
     have j1 : (Instr.index 70 (.agg #[.int .i64 f.key.subj, .int .i64 f.key.obj, .int .i64 f.val]) (.int .i64 ((0 + 1 : Nat) : Int))).run Tryz.prog wb = .ok (.int .i64 f.key.obj) wb := i1
     have j2 : (Instr.index 70 (.agg #[.int .i64 f.key.subj, .int .i64 f.key.obj, .int .i64 f.val]) (.int .i64 ((0 + 1 + 1 : Nat) : Int))).run Tryz.prog wb = .ok (.int .i64 f.val) wb := i2
     by_cases hv : 0 ≤ f.val
     ·obtain ⟨w', hrun, hkm', hb'⟩ := HG2.out hv
      have HKM' := hidp hkm'
      have HB' := hidp hb'
      clear hkm' hb'
      go_wp2_with fail
      go_roundw
      case rel => exact ⟨3, by omega, by go_num, HKM'.out, HB'.out⟩
      case measure => simp [intOf]
     ·have hvn : f.val < 0 := by omega
      have hkm' := HG1.out hvn
      have HKM' := hidp hkm'
      clear hkm'
      go_wp2_with fail
      go_roundw
      case rel => exact ⟨3, by omega, by go_num, HKM'.out, HB6.out⟩
      case measure => simp [intOf]
    case succ.succ.succ =>
     obtain rfl : j = 0 := by omega
     have HS : Hid (domSet (l.take (k + 1)) = domPart (domSet (l.take k)) f 3) := by
      show _ = _
      rw [take_snoc HF.out]; simp [domSet, domPart]
     go_wp2_with fail
     go_roundw
     case rel => exact ⟨k + 1, by omega, by go_num, by rw [HS.out]; exact HK6.out, HB6.out⟩
     case measure => simp [intOf]; omega
  ·obtain rfl : k = n := by omega
   have HAll : Hid (l.take k = l) := List.take_of_length_le (by rw [← HN.out]; exact Nat.le_refl _)
   rw [HAll.out] at HK
   have hkk : ¬ ((k : Int) < k) := by omega
   have hlen : (domSet l).length ≤ 1000000 := by have := domSet_len l; have := HN.out; omega
   have hbz := HB.out.size
   have HLe := hidp hlen
   clear hlen
   go_wp2_with fail
   refine (keysI_any _ _).mono ?_
   rintro e w1 ⟨rfl, hw1⟩
   have hm1 : w1.heap[wr.heap.size]? = some (.cells #[.map (some w.heap.size)] 69 (0, 0)) := by rw [← hw1]; exact World.alloc_heap_new _ _
   have hkm1 : KM iV w1 w.heap.size (domSet l) := by rw [← hw1]; exact HK.out.keep (Below.heap_alloc _ _ _ HK.out.lt)
   have hbw1 : Below w.heap.size w w1 := by rw [← hw1]; exact HB.out.alloc HB.out.size _
   have hlm := lt_of_heap hm1
   have hlk := hkm1.lt
   have HSq := hidp (keysI1_seq wr.heap.size w.heap.size (domSet l) w1 (cell_of_heap hm1) hkm1)
   clear hw1 hm1 hkm1
   go_wp2_with fail
   refine (sortedI_any 75 _ (enters_of Tryz.func75 (by kernel_rfl) rfl) _ _ w1 HSq.out (fun q h => by rcases h with h | h <;> omega) (fun xs h => by rw [h.length_eq]; exact HLe.out)).mono ?_
   rintro e w2 ⟨v, xs, rfl, hx, ho, hb2⟩
   have hB2 : Below w.heap.size w w2 := hbw1.trans (hb2.mono hbw1.size)
   rw [dom_eq hx] at ho
   have hxl : xs.length = (domR l).length := by rw [← dom_eq hx, List.length_mergeSort]
   rw [hxl] at ho
   obtain ⟨A2, c2, rfl, hrow⟩ := own_rows iEnc_len (by decide) ho
   have HR := hidp (own_monoB ho hbw1.size)
   clear hx ho hb2 hrow hbw1 hlm hlk hxl
   go_wp2_with fail
   go_ret
   exact ⟨A2, c2, rfl, HR.out, hB2⟩
end
end Go.Proofs.YtbegdcjofnfkiaaGreatDoor
