/- slices.AppendSeq at links, onto an own slice. -/
import Derived.Test.YtologegkbcedhaaG6
import Derived.Test.YtologegkbcedhaaIterG
import Derived.Test.YtologegkbcedhaaInApp
namespace Go.Proofs.Ytologegkbcedhaa
open Go.RowKit Go.Shelf
attribute [local go_sem] Oper.semAt_some

/-- What AppendSeq hands back: the own slice with the values behind it; nothing but its own block was written. -/
def AppLPost (base : Nat) (v0 : Value) (l0 : List Lk) (R : List Lk → Prop) (w : World) (e : Ending) (w' : World) : Prop := ∃ v xs, e = .returned v ∧ R xs ∧ w'.ownsRow base 49 6 v (l0 ++ xs).length ((l0 ++ xs).flatMap lEnc) ∧ Kept (fun b => v0.ownBlock = some b) w w' ∧ (∀ g, v.ownBlock = some g → v0.ownBlock = some g ∨ w.heap.size ≤ g)
def CAppL (Bs : Nat) (v : Value) : Nat → Prop := fun b => b = Bs ∨ v.ownBlock = some b
/-- The round's word: the box holds v; v reads as l0 and what was taken; nothing of w but v0's own block was written. -/
def AppLI (base : Nat) (A0 : Option Addr) (n0 c0 : Nat) (l0 : List Lk) (w : World) (pre : List Lk) (v : Value) (W : World) : Prop :=
  W.heap[w.heap.size]? = some (.cells #[v] 26 (0, 0)) ∧ W.ownsRow base 49 6 v (l0 ++ pre).length ((l0 ++ pre).flatMap lEnc) ∧ Kept (fun b => (Value.slice A0 n0 c0).ownBlock = some b) w W ∧ (∀ g, v.ownBlock = some g → (Value.slice A0 n0 c0).ownBlock = some g ∨ w.heap.size + 1 ≤ g)

theorem AppLI.keep {base : Nat} {A0 : Option Addr} {n0 c0 : Nat} {l0 : List Lk} {w : World} {pre : List Lk} {v : Value} {W1 W2 : World} {M : Nat → Prop} (h : AppLI base A0 n0 c0 l0 w pre v W1) (hk' : ∀ b, b < W1.heap.size → CAppL w.heap.size v b → W2.heap[b]? = W1.heap[b]?) (hk : Kept M W1 W2) (hM : ∀ b, b < w.heap.size → M b → (Value.slice A0 n0 c0).ownBlock = some b) : AppLI base A0 n0 c0 l0 w pre v W2 := by
  obtain ⟨h1, h2, h3, h4⟩ := h
  refine ⟨(hk' _ (lt_of_heap h1) (.inl rfl)).trans h1, own_keepB h2 fun g hg => hk' g (h2.lt g hg).2 (.inr hg), ⟨hk.os.trans h3.os, hk.tape.trans h3.tape, hk.output.trans h3.output, Nat.le_trans h3.size hk.size, fun b hb hn => (hk.block b (Nat.lt_of_lt_of_le hb h3.size) fun h => hn (hM b hb h)).trans (h3.block b hb hn)⟩, h4⟩

set_option maxRecDepth 100000 in
set_option maxHeartbeats 2000000 in
theorem appSeqL_any (gf : Nat) (lb : Array Value) (eg : ∀ args w, (callFunc gf args).run Try.prog w = .ok (.enter gf args) w) (R : List Lk → Prop) (S : Nat → Prop) (base n0 : Nat) (A0 : Option Addr) (c0 : Nat) (l0 : List Lk) (w : World)
    (hseq : SeqG Try.prog gf lb (fun x : Lk => #[.agg #[.int .i64 x.1.1.kind, .int .i64 x.1.1.subj, .int .i64 x.1.1.obj, .int .i64 x.1.2.1, .int .i64 x.1.2.2, .int .i64 x.2]]) R S w) (hS : ∀ b, S b → b < w.heap.size ∧ ¬ (Value.slice A0 n0 c0).ownBlock = some b) (hR : ∀ xs, R xs → l0.length + xs.length ≤ 1000000)
    (hown : w.ownsRow base 49 6 (.slice A0 n0 c0) n0 (l0.flatMap lEnc)) (hbase : base ≤ w.heap.size) :
    Calls Try.prog 28 #[.slice A0 n0 c0, .func (.func gf) #[] lb] w (AppLPost base (.slice A0 n0 c0) l0 R w) := by
  obtain ⟨i0, hi, hz, hs, hbb⟩ := info_parts lInfo
  refine calls_of_wp_marks Try.func28 rfl ?_
  simp only [Try.ntmps28, List.size_toArray, List.length_cons, List.length_nil, Nat.reduceAdd, Nat.reduceSub, Array.replicate_succ, Array.replicate_zero, List.push_toArray, List.append_toArray, List.nil_append, List.cons_append]
  obtain ⟨W0, hW0⟩ : ∃ W0, w.alloc (.cells #[.slice A0 n0 c0] 26) = W0 := ⟨_, rfl⟩
  have hBW : Below w.heap.size w W0 := by rw [← hW0]; exact (Below.refl _ w).alloc (Nat.le_refl _) _
  have hz0 : W0.heap.size = w.heap.size + 1 := by rw [← hW0]; simp
  have g1 : W0.heap[w.heap.size]? = some (.cells #[.slice A0 n0 c0] 26 (0, 0)) := by rw [← hW0]; exact World.alloc_heap_new _ _
  have HW0 := hidp hW0
  have G1 := hidp g1
  have HSq := hidp (hseq.later fun b hb => hBW.block b (hS b hb).1)
  have HR := hidp hR
  have HS := hidp hS
  have HO0 := hidp hown
  have h0l : ∀ g, (Value.slice A0 n0 c0).ownBlock = some g → g < w.heap.size := fun g hg => (hown.lt g hg).2
  have H0L := hidp h0l
  have hln := own_len lEnc_len (by decide) hown
  have HLN := hidp hln
  have hI0 : AppLI base A0 n0 c0 l0 w [] (.slice A0 n0 c0) W0 := by
    refine ⟨g1, ?_, by rw [← hW0]; exact (Kept.refl _ w).alloc _, fun g hg => .inl hg⟩
    rw [List.append_nil, ← hln, ← hW0]
    exact hown.alloc _
  have HI0 := hidp hI0
  clear hW0 g1 hseq hR hS hown h0l hln hI0
  go_wp2_with fail
  rw [HW0.out]
  refine wp_rangeG (gf := gf) (lb := lb) rfl eg HSq.out (CAppL w.heap.size (.slice A0 n0 c0)) ?S (fun _ => rfl) ?M
    (fun pre C W => ∃ v, C = CAppL w.heap.size v ∧ AppLI base A0 n0 c0 l0 w pre v W)
    (fun _ _ _ => False)
    ?hI ?hIx ?h0 (fun ll pre x C a' W => ∃ (B5 : Nat) (v : Value), C = CAppL w.heap.size v ∧ AppLI base A0 n0 c0 l0 w pre v W ∧
        B5 ≠ ll ∧ w.heap.size < B5 ∧ ¬ v.ownBlock = some B5 ∧ W.heap[B5]? = some (.cells #[.int .i64 x.1.1.kind, .int .i64 x.1.1.subj, .int .i64 x.1.1.obj, .int .i64 x.1.2.1, .int .i64 x.1.2.2, .int .i64 x.2] 49 (0, 0)) ∧
        a' = { tmps := #[.slice A0 n0 c0, .func (.func gf) #[] lb, .pointer (some ⟨w.heap.size, 0, none⟩), undef, .slice none 0 0, .pointer (some ⟨B5, 0, none⟩), .func (.func gf) #[] lb, .agg #[.int .i64 x.1.1.kind, .int .i64 x.1.1.subj, .int .i64 x.1.1.obj, .int .i64 x.1.2.1, .int .i64 x.1.2.2, .int .i64 x.2], undef, undef, undef, undef, undef], defers := [] })
    ⟨?hAx, ?assign, ?body⟩ ?done ?stop
  case S =>
    intro b hb
    have := HS.out b hb
    refine ⟨by omega, rfl, ?_⟩
    rintro (h | h)
    · omega
    · exact this.2 h
  case M =>
    rintro b (h | h)
    · omega
    · have := H0L.out b h; omega
  case hI =>
    rintro pre C1 W1 W2 ⟨v, rfl, h⟩ hk
    exact ⟨v, rfl, h.keep (fun b hb hc => hk.block b hb fun h => h.2 hc) hk (fun b hb h => absurd h.1 (by omega))⟩
  case hIx => rintro cd C1 W1 W2 h; exact h.elim
  case h0 => exact ⟨_, rfl, HI0.out⟩
  case hAx =>
    rintro ll pre x C1 a' W2 W3 hll hnl ⟨B5, v, rfl, h, h5, h6, h8, h7, rfl⟩ _ hk
    exact ⟨B5, v, rfl, h.keep (fun b hb hc => hk.block b hb fun h => hnl (h ▸ hc)) hk (fun b hb h => by omega), h5, h6, h8, (hk.block _ (lt_of_heap h7) h5).trans h7, rfl⟩
  case assign =>
    rintro ll m pre x suf C1 W1 K hll hlt hnl _ ⟨v, rfl, h⟩ _ hK
    have l2 := lt_of_heap h.1
    have hv := fun g hg => (h.2.1.lt g hg).2
    have HI := hidp h
    clear h
    gi_wp2
    exact hK _ _ ((Kept.refl _ _).alloc _) ⟨W1.heap.size, v, rfl, HI.out.keep (fun b hb _ => Below.heap_alloc _ _ _ hb) ((Kept.refl (fun _ => False) _).alloc _) (fun _ _ h => h.elim), by omega, by omega, fun h => by have := hv _ h; omega, World.alloc_heap_new _ _, rfl⟩
  case body =>
    rintro ll m pre x suf C1 a' W2 hll hnl hxs ⟨B5, v, rfl, h, h5, h6, h8, h7, rfl⟩ _ hCl
    obtain ⟨h2, h3, h4, hv⟩ := h
    have hlen := HR.out _ hxs
    simp only [List.length_append, List.length_cons] at hlen
    have l2 := lt_of_heap h2
    have l7 := lt_of_heap h7
    obtain ⟨v', w5, hrun, hown', hg, hat⟩ := run_append_one (P := Try.prog) (ty := 26) (l := l0 ++ pre) (enc := lEnc) (w := W2) (base := base) Try.underlying26 hi hz hs hbb rfl lEnc_len (by decide) lEnc_one h3 x (by simp; omega) (by simp; omega) (by omega)
    obtain ⟨A5, c5, rfl, _⟩ := own_rows lEnc_len (by decide) hown'
    rw [show (l0 ++ pre).length = l0.length + pre.length from List.length_append] at hrun hown' hat
    have hvB : ∀ g, v.ownBlock = some g → g ≠ w.heap.size ∧ g < W2.heap.size := fun g hg => ⟨fun e => by
      rcases hv g hg with h | h
      · have := H0L.out g h; omega
      · omega, (h3.lt g hg).2⟩
    have e5 : w5.heap[w.heap.size]? = some (.cells #[v] 26 (0, 0)) := (hg.block _ (by simp; omega) (fun e => (hvB _ e.symm).1 rfl)).trans ((Below.heap_alloc _ _ _ l2).trans h2)
    have hb5 : Kept (fun b => (Value.slice A0 n0 c0).ownBlock = some b) w w5 := (h4.alloc _).grown hg fun g e => by
      rcases hv g e with h | h
      · exact .inl h
      · exact .inr (by omega)
    have hk5 : Kept (CAppL w.heap.size v) W2 w5 := ((Kept.refl _ _).alloc _).grown hg fun g e => .inl (.inr e)
    have hz5 : W2.heap.size + 1 ≤ w5.heap.size := by have := hg.size; simpa using this
    have c2 := cell_of_heap (o := 0) h2
    have x0 := cell_of_heap (o := 0) h7
    have x1 := cell_of_heap (o := 1) h7
    have x2 := cell_of_heap (o := 2) h7
    have x3 := cell_of_heap (o := 3) h7
    have x4 := cell_of_heap (o := 4) h7
    have x5 := cell_of_heap (o := 5) h7
    have s5 := frozen_of_heap (o := 0) e5
    simp only [List.getElem?_toArray, List.getElem?_cons_zero, List.getElem?_cons_succ] at c2 x0 x1 x2 x3 x4 x5
    have l5 := lt_of_heap e5
    have hd5 : w5.cell? ⟨w.heap.size, 0, none⟩ = some v := by rw [cell_of_heap e5]; rfl
    have HR0 := hidp hrun
    have HO' := hidp hown'
    have E5 := hidp e5
    have HVB := hidp hvB
    have HV := hidp hv
    have HAT := hidp hat
    have HZ5 := hidp hz5
    clear h2 h3 h7 hrun hown' e5 hvB hat hg hxs hCl hz5 hv
    gi_wp2_with (gi_at_builtin; refine wpListIn_append_known rfl (.tmp 8) (.tmp 10) 26 rfl rfl rfl HR0.out ?_)
    refine ⟨CAppL w.heap.size (.slice A5 (l0.length + pre.length + 1) c5), hk5.setCell (.inl (.inl rfl)) _, ?_, _, rfl, heap_set1 E5.out _, ?_, hb5.setCell (.inr (Nat.le_refl _)) _, ?_⟩
    · have hlo := HO'.out.lt
      have hz := HZ5.out
      rintro b (h | h)
      · subst h
        exact ⟨by simpa [World.setCell] using l5, .inl (.inl rfl)⟩
      · refine ⟨by simpa [World.setCell] using (hlo b h).2, ?_⟩
        rcases HAT.out with h' | h'
        · exact .inl (.inr (by rw [← h', h]))
        · rw [h'] at h
          injection h with h
          exact .inr (by omega)
    · have e1 : (l0 ++ (pre ++ [x])).length = l0.length + pre.length + 1 := by simp; omega
      rw [e1, ← List.append_assoc]
      refine own_keepB HO'.out fun g hg => heap_set_ne rfl ?_ _ _
      rcases HAT.out with h' | h'
      · exact (HVB.out g (by rw [← h', hg])).1
      · rw [h'] at hg
        injection hg with hg
        omega
    · intro g hg
      rcases HAT.out with h' | h'
      · exact HV.out g (by rw [← h', hg])
      · rw [h'] at hg
        injection hg with hg
        exact .inr (by omega)
  case done =>
    rintro xs D C' W hRx hD hlt hnD ⟨v, rfl, h2, h3, h4, h5⟩ hk
    obtain ⟨A5, c5, rfl, _⟩ := own_rows lEnc_len (by decide) h3
    have c2 := cell_of_heap (o := 0) h2
    simp only [List.getElem?_toArray, List.getElem?_cons_zero] at c2
    have HK := hidp hk
    have l2 := lt_of_heap h2
    have hkD : Kept (fun b => b = D) W (W.putObj D (.deferred none)) := (Kept.refl (fun b => b = D) W).putObj (r := D) (.inl rfl) (.deferred none)
    have hBD : Kept (fun b => (Value.slice A0 n0 c0).ownBlock = some b) w (W.putObj D (.deferred none)) := h4.putObj (.inr (by omega)) _
    have hOD := own_keepB h3 fun g hg => hkD.block g (h3.lt g hg).2 fun e => hnD (e ▸ .inr hg)
    have HOD := hidp hOD
    have HRx := hidp hRx
    have H5 := hidp h5
    clear hk h2 h3 hnD hOD hRx h5
    go_wp2
    refine leave_mark (.inl rfl) (D := D) HK.out rfl (v := .slice A5 (l0 ++ xs).length c5) ?_ ⟨_, xs, rfl, HRx.out, HOD.out, hBD, fun g hg => (H5.out g hg).imp id (fun h => by omega)⟩
    simp [results, Try.f28, go_sem]
  case stop => rintro D cd C' W hD hlt hnD h; exact h.elim
end Go.Proofs.Ytologegkbcedhaa
