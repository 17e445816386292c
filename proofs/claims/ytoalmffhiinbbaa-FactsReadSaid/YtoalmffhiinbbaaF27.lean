/- slices.AppendSeq, slices.Collect at keys, over whatever iterator. -/
import Derived.Test.YtoalmffhiinbbaaF26
import Derived.Test.YtoalmffhiinbbaaInApp
namespace Go.Proofs.Ytoalmffhiinbbaa
open Go.RowKit Go.Shelf
attribute [local go_sem] Oper.semAt_some

def AppKPost (R : List Ky → Prop) (w : World) (e : Ending) (w' : World) : Prop := ∃ v xs, e = .returned v ∧ R xs ∧ w'.ownsRow w.heap.size 24 3 v xs.length (xs.flatMap kEnc) ∧ Below w.heap.size w w'
def CApp (Bs : Nat) (v : Value) : Nat → Prop := fun b => b = Bs ∨ v.ownBlock = some b

set_option maxRecDepth 100000 in
set_option maxHeartbeats 2000000 in
theorem appSeqK_any (gf : Nat) (lb : Array Value) (eg : ∀ args w, (callFunc gf args).run Try.prog w = .ok (.enter gf args) w) (R : List Ky → Prop) (S : Nat → Prop) (w : World)
    (hseq : SeqG Try.prog gf lb (fun x : Ky => #[.agg #[.int .i64 x.kind, .int .i64 x.subj, .int .i64 x.obj]]) R S w) (hS : ∀ b, S b → b < w.heap.size) (hR : ∀ xs, R xs → xs.length ≤ 1000000) :
    Calls Try.prog 59 #[.slice none 0 0, .func (.func gf) #[] lb] w (AppKPost R w) := by
  obtain ⟨i0, hi, hz, hs, hbb⟩ := info_parts kInfo
  refine calls_of_wp_marks Try.func59 rfl ?_
  simp only [Try.ntmps59, List.size_toArray, List.length_cons, List.length_nil, Nat.reduceAdd, Nat.reduceSub, Array.replicate_succ, Array.replicate_zero, List.push_toArray, List.append_toArray, List.nil_append, List.cons_append]
  obtain ⟨W0, hW0⟩ : ∃ W0, w.alloc (.cells #[.slice none 0 0] 37) = W0 := ⟨_, rfl⟩
  have hBW : Below w.heap.size w W0 := by rw [← hW0]; exact (Below.refl _ w).alloc (Nat.le_refl _) _
  have hz0 : W0.heap.size = w.heap.size + 1 := by rw [← hW0]; simp
  have g1 : W0.heap[w.heap.size]? = some (.cells #[.slice none 0 0] 37 (0, 0)) := by rw [← hW0]; exact World.alloc_heap_new _ _
  have HW0 := hidp hW0
  have G1 := hidp g1
  have HSq := hidp (hseq.later fun b hb => hBW.block b (hS b hb))
  have HR := hidp hR
  have HS := hidp hS
  clear hW0 g1 hseq hR hS
  go_wp2_with fail
  rw [HW0.out]
  refine wp_rangeG (gf := gf) (lb := lb) rfl eg HSq.out (CApp w.heap.size (.slice none 0 0)) ?S (fun _ => rfl) ?M
    (fun pre C W => ∃ v, C = CApp w.heap.size v ∧ W.heap[w.heap.size]? = some (.cells #[v] 37 (0, 0)) ∧ W.ownsRow (w.heap.size + 1) 24 3 v pre.length (pre.flatMap kEnc) ∧ Below w.heap.size w W)
    (fun _ _ _ => False)
    ?hI ?hIx ?h0 (fun ll pre x C a' W => ∃ (B5 : Nat) (v : Value), C = CApp w.heap.size v ∧ W.heap[w.heap.size]? = some (.cells #[v] 37 (0, 0)) ∧ W.ownsRow (w.heap.size + 1) 24 3 v pre.length (pre.flatMap kEnc) ∧ Below w.heap.size w W ∧
        B5 ≠ ll ∧ w.heap.size < B5 ∧ W.heap[B5]? = some (.cells #[.int .i64 x.kind, .int .i64 x.subj, .int .i64 x.obj] 24 (0, 0)) ∧
        a' = { tmps := #[.slice none 0 0, .func (.func gf) #[] lb, .pointer (some ⟨w.heap.size, 0, none⟩), undef, .slice none 0 0, .pointer (some ⟨B5, 0, none⟩), .func (.func gf) #[] lb, .agg #[.int .i64 x.kind, .int .i64 x.subj, .int .i64 x.obj], undef, undef, undef, undef, undef], defers := [] })
    ⟨?hAx, ?assign, ?body⟩ ?done ?stop
  case S =>
    intro b hb
    have := HS.out b hb
    refine ⟨by omega, rfl, ?_⟩
    rintro (h | h)
    · omega
    · simp [Value.ownBlock] at h
  case M =>
    rintro b (h | h)
    · omega
    · simp [Value.ownBlock] at h
  case hI =>
    rintro pre C1 W1 W2 ⟨v, rfl, h2, h3, h4⟩ hk
    have hk' : ∀ b, b < W1.heap.size → CApp w.heap.size v b → W2.heap[b]? = W1.heap[b]? := fun b hb hc => hk.block b hb fun h => h.2 hc
    exact ⟨v, rfl, (hk' _ (lt_of_heap h2) (.inl rfl)).trans h2, own_keepB h3 fun g hg => hk' g (h3.lt g hg).2 (.inr hg), h4.trans (hk.toBelow h4.size (fun b hb h => by omega))⟩
  case hIx => rintro cd C1 W1 W2 h; exact h.elim
  case h0 => exact ⟨_, rfl, G1.out, World.ownsRow_nil _ _ _ _, hBW⟩
  case hAx =>
    rintro ll pre x C1 a' W2 W3 hll hnl ⟨B5, v, rfl, h2, h3, h4, h5, h6, h7, rfl⟩ _ hk
    have hk' : ∀ b, b < W2.heap.size → CApp w.heap.size v b → W3.heap[b]? = W2.heap[b]? := fun b hb hc => hk.block b hb fun h => hnl (h ▸ hc)
    exact ⟨B5, v, rfl, (hk' _ (lt_of_heap h2) (.inl rfl)).trans h2, own_keepB h3 fun g hg => hk' g (h3.lt g hg).2 (.inr hg), h4.trans (hk.toBelow h4.size (fun b hb h => by omega)), h5, h6, (hk.block _ (lt_of_heap h7) h5).trans h7, rfl⟩
  case assign =>
    rintro ll m pre x suf C1 W1 K hll hlt hnl _ ⟨v, rfl, h2, h3, h4⟩ _ hK
    have l2 := lt_of_heap h2
    have H3 := hidp h3
    clear h3
    gi_wp2
    exact hK _ _ ((Kept.refl _ _).alloc _) ⟨W1.heap.size, v, rfl, (Below.heap_alloc _ _ _ l2).trans h2, H3.out.alloc _, h4.alloc h4.size _, by omega, by omega, World.alloc_heap_new _ _, rfl⟩
  case body =>
    rintro ll m pre x suf C1 a' W2 hll hnl hxs ⟨B5, v, rfl, h2, h3, h4, h5, h6, h7, rfl⟩ _ hCl
    have hlen := HR.out _ hxs
    simp only [List.length_append, List.length_cons] at hlen
    obtain ⟨v', w5, hrun, hown', hg, hat⟩ := run_append_one (P := Try.prog) (ty := 37) (l := pre) (enc := kEnc) (w := W2) (base := w.heap.size + 1) Try.underlying37 hi hz hs hbb rfl kEnc_len (by decide) kEnc_one h3 x (by omega) (by omega) (by have := h4.size; have := lt_of_heap h2; omega)
    obtain ⟨A5, c5, rfl, _⟩ := own_rows kEnc_len (by decide) hown'
    have hvB : ∀ g, v.ownBlock = some g → w.heap.size + 1 ≤ g ∧ g < W2.heap.size := fun g hg => h3.lt g hg
    have l2 := lt_of_heap h2
    have l7 := lt_of_heap h7
    have e5 : w5.heap[w.heap.size]? = some (.cells #[v] 37 (0, 0)) := (hg.block _ (by simp; omega) (fun e => by have := hvB _ e.symm; omega)).trans ((Below.heap_alloc _ _ _ l2).trans h2)
    have hb5 : Below w.heap.size w w5 := (h4.alloc h4.size _).grown hg (by have := h4.size; simp; omega) (fun g e => by have := hvB _ e; omega)
    have hk5 : Kept (CApp w.heap.size v) W2 w5 := ((Kept.refl _ _).alloc _).grown hg fun g e => .inl (.inr e)
    have hz5 : W2.heap.size + 1 ≤ w5.heap.size := by have := hg.size; simpa using this
    have c2 := cell_of_heap (o := 0) h2
    have x0 := cell_of_heap (o := 0) h7
    have x1 := cell_of_heap (o := 1) h7
    have x2 := cell_of_heap (o := 2) h7
    have s5 := frozen_of_heap (o := 0) e5
    simp only [List.getElem?_toArray, List.getElem?_cons_zero, List.getElem?_cons_succ] at c2 x0 x1 x2
    have l5 := lt_of_heap e5
    have hd5 : w5.cell? ⟨w.heap.size, 0, none⟩ = some v := by rw [cell_of_heap e5]; rfl
    have HR0 := hidp hrun
    have HO' := hidp hown'
    have E5 := hidp e5
    have HVB := hidp hvB
    have HAT := hidp hat
    have HZ5 := hidp hz5
    clear h2 h3 h7 hrun hown' e5 hvB hat hg hxs hCl hz5
    gi_wp2_with (gi_at_builtin; refine wpListIn_append_known rfl (.tmp 8) (.tmp 10) 37 rfl rfl rfl HR0.out ?_)
    refine ⟨CApp w.heap.size (.slice A5 (pre.length + 1) c5), hk5.setCell (.inl (.inl rfl)) _, ?_, _, rfl, heap_set1 E5.out _, ?_, hb5.setCell (Nat.le_refl _) _⟩
    · have hlo := HO'.out.lt
      have hz := HZ5.out
      rintro b (h | h)
      · subst h
        exact ⟨by simpa [World.setCell] using l5, .inl (.inl rfl)⟩
      · refine ⟨by simpa [World.setCell] using (hlo b h).2, ?_⟩
        rcases HAT.out with h' | h'
        · exact .inl (.inr (by rw [← h', h]))
        · rw [h'] at h
          injection h with h
          exact .inr (by omega)
    · rw [List.length_append]
      exact own_keepB HO'.out fun g hg => heap_set_ne rfl (by have := (HO'.out.lt g hg).1; omega) _ _
  case done =>
    rintro xs D C' W hRx hD hlt hnD ⟨v, rfl, h2, h3, h4⟩ hk
    obtain ⟨A5, c5, rfl, _⟩ := own_rows kEnc_len (by decide) h3
    have c2 := cell_of_heap (o := 0) h2
    simp only [List.getElem?_toArray, List.getElem?_cons_zero] at c2
    have HK := hidp hk
    have H3 := hidp h3
    have l2 := lt_of_heap h2
    have hkD : Kept (fun b => b = D) W (W.putObj D (.deferred none)) := (Kept.refl (fun b => b = D) W).putObj (r := D) (.inl rfl) (.deferred none)
    have hBD := h4.trans (hkD.toBelow h4.size (by omega))
    have hOD := own_keepB h3 fun g hg => hkD.block g (h3.lt g hg).2 fun e => hnD (e ▸ .inr hg)
    have HOD := hidp (own_monoB hOD (Nat.le_succ _))
    have HRx := hidp hRx
    clear hk h2 h3 hnD hOD hRx
    go_wp2
    refine leave_mark (.inl rfl) (D := D) HK.out rfl (v := .slice A5 xs.length c5) ?_ ⟨_, xs, rfl, HRx.out, HOD.out, hBD⟩
    simp [results, Try.f59, go_sem]
  case stop => rintro D cd C' W hD hlt hnD h; exact h.elim
end Go.Proofs.Ytoalmffhiinbbaa
