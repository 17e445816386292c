/- rules.Atoms (printed by tools/gen81.py). -/
import Derived.Test.YtbmbpannhncpjaaDoorU7
import Derived.Test.YtbmbpannhncpjaaDoorU17
import Derived.Test.YtbmbpannhncpjaaDoorU15
namespace Go.Proofs.YtbmbpannhncpjaaDoor
open Go.RowKit Go.Sort Go.Shelf
attribute [local go_sem] Oper.semAt_some

def atK (y : DRu) : At := ⟨y.2.op, y.2.course, y.2.n, y.2.d⟩
def atAdd (ks : List At) (y : DRu) : List At := if withinB y.2.op 5 9 = true then addKey ks (atK y) else ks
def atSet (l : List DRu) : List At := l.foldl atAdd []
theorem atSet_len (l : List DRu) : (atSet l).length ≤ l.length := by
  have : ∀ (l : List DRu) (a : List At), (l.foldl atAdd a).length ≤ a.length + l.length := by
    intro l
    induction l with
    | nil => simp
    | cons x l ih =>
      intro a
      have h1 := ih (atAdd a x)
      have h2 : (atAdd a x).length ≤ a.length + 1 := by
        unfold atAdd
        split
        · exact addKey_len _ _
        · omega
      simp only [List.foldl_cons, List.length_cons]
      omega
  simpa [atSet] using this l []
/-- An atom as a rule without a name. -/
def atR (a : At) : Ru := .mk a.op a.course ByteArray.empty a.n a.d none 0 0 []
def rEnc (a : At) : List Value := [.int .i64 a.op, .int .i64 a.course, .string ByteArray.empty, .int .i64 a.n, .int .i64 a.d, .slice none 0 0]
theorem rEnc_len (a : At) : (rEnc a).length = 6 := rfl
theorem rEnc_one (x : At) : ∀ u ∈ rEnc x, u.oneCell' = true := by
  intro u hu; simp [rEnc] at hu; rcases hu with rfl | rfl | rfl | rfl | rfl | rfl <;> rfl
theorem ruInfo : (Tryd.prog.info? 24).map (fun i => (i.zero, i.size, i.bytes)) = some (some (.agg #[.int .i64 0, .int .i64 0, .string ByteArray.empty, .int .i64 0, .int .i64 0, .slice none 0 0]), 6, 72) := by kernel_rfl
theorem ruSl_of {W : World} {n₀ n c : Nat} {A : Option Addr} {l : List At} (h : Rows 6 (Rep.flat rEnc) W n₀ A n c l) : ruSl 1 W n₀ A n c (l.map atR) := by
  refine ⟨by simp [h.1], h.2.1, h.2.2.1, fun hn => ?_⟩
  obtain ⟨b, off, e, hlt, hx⟩ := h.2.2.2 hn
  refine ⟨b, off, e, hlt, fun i x hi => ?_⟩
  rw [List.getElem?_map] at hi
  cases hl : l[i]? with
  | none => rw [hl] at hi; cases hi
  | some a =>
    rw [hl] at hi
    obtain rfl := Option.some.inj hi
    obtain ⟨cs, rfl, hc⟩ := hx i a hl
    exact ⟨_, ⟨rfl, Rows.nil (show (0 : Nat) ≤ 9223372036854775807 by decide)⟩, hc⟩
def AtomsPost (x : Ru) (w : World) (e : Ending) (w' : World) : Prop := ∃ (A : Option Addr) (n c : Nat) (d : List At), e = .returned (.slice A n c) ∧ d.Perm (atSet (partsD 1 x)) ∧ SortedA d ∧ ruSl 1 w' w'.heap.size A n c (d.map atR) ∧ Below w.heap.size w w'

set_option maxRecDepth 100000 in
set_option maxHeartbeats 4000000 in
theorem uAtoms_any (h : Nat) (x : Ru) (w : World) (hr : RuIn h w w.heap.size x) (hlen : (partsD 1 x).length ≤ 1000000) :
    Calls Tryd.prog 15 #[.agg #[.int .i64 x.op, .int .i64 x.course, .string x.name, .int .i64 x.n, .int .i64 x.d, .slice x.kA x.kn x.kc]] w (AtomsPost x w) := by
  have hmm := @run_makeMap Tryd.prog
  refine calls_of_wp_marks Tryd.func15 rfl ?_
  simp only [Tryd.ntmps15, List.size_toArray, List.length_cons, List.length_nil, Nat.reduceAdd, Nat.reduceSub, Array.replicate_succ, Array.replicate_zero, List.push_toArray, List.append_toArray, List.nil_append, List.cons_append]
  obtain ⟨W0, hW0⟩ : ∃ W0, ((w.alloc (.cells #[.int .i64 x.op, .int .i64 x.course, .string x.name, .int .i64 x.n, .int .i64 x.d, .slice x.kA x.kn x.kc] 24)).alloc (.map #[] 0)).alloc (.cells #[.map (some (w.heap.size + 1))] 54) = W0 := ⟨_, rfl⟩
  have hBW : Below w.heap.size w W0 := by rw [← hW0]; exact (((Below.refl _ w).alloc (Nat.le_refl _) _).alloc (by simp) _).alloc (by simp; omega) _
  have hz0 : W0.heap.size = w.heap.size + 3 := by rw [← hW0]; simp
  obtain ⟨B2, hB2⟩ : ∃ b, w.heap.size + 1 = b := ⟨_, rfl⟩
  obtain ⟨B3, hB3⟩ : ∃ b, B2 + 1 = b := ⟨_, rfl⟩
  rw [hB2] at hW0
  have g1 : W0.heap[w.heap.size]? = some (.cells #[.int .i64 x.op, .int .i64 x.course, .string x.name, .int .i64 x.n, .int .i64 x.d, .slice x.kA x.kn x.kc] 24 (0, 0)) := by
    rw [← hW0, Below.heap_alloc _ _ _ (by simp; omega), Below.heap_alloc _ _ _ (by simp)]
    exact World.alloc_heap_new _ _
  have g2 : KM aV W0 B2 ([] : List At) := by
    have h1 := KM.made (K := aV) (w.alloc (.cells #[.int .i64 x.op, .int .i64 x.course, .string x.name, .int .i64 x.n, .int .i64 x.d, .slice x.kA x.kn x.kc] 24))
    rw [World.size_alloc, hB2] at h1
    rw [← hW0]
    exact h1.keep (Below.heap_alloc _ _ _ h1.lt)
  have g3 : W0.heap[B3]? = some (.cells #[.map (some B2)] 54 (0, 0)) := by
    rw [← hW0]
    have := World.alloc_heap_new ((w.alloc (.cells #[.int .i64 x.op, .int .i64 x.course, .string x.name, .int .i64 x.n, .int .i64 x.d, .slice x.kA x.kn x.kc] 24)).alloc (.map #[] 0)) (.cells #[.map (some B2)] 54)
    rwa [World.size_alloc, World.size_alloc, hB2, hB3] at this
  have HW0 := hidp hW0
  have HB2 := hidp hB2
  have HB3 := hidp hB3
  have HZ0 := hidp hz0
  have G2 := hidp g2
  have G3 := hidp g3
  have x0 := cell_of_heap (o := 0) g1
  have x1 := cell_of_heap (o := 1) g1
  have x2 := cell_of_heap (o := 2) g1
  have x3 := cell_of_heap (o := 3) g1
  have x4 := cell_of_heap (o := 4) g1
  have x5 := cell_of_heap (o := 5) g1
  simp only [List.getElem?_toArray, List.getElem?_cons_zero, List.getElem?_cons_succ] at x0 x1 x2 x3 x4 x5
  have l1 := lt_of_heap g1
  have HL := hidp hlen
  clear hW0 hB2 hB3 hz0 g1 g2 g3 hlen
  go_wp2_with fail
  rw [show w.heap.size + 1 = B2 from HB2.out, HB3.out, HW0.out]
  refine (uparts_any x W0).mono ?_
  rintro e w1 ⟨rfl, hw1⟩
  go_wp2_with fail
  have hb1 : w1.heap[W0.heap.size]? = some (ruCells x) := by
    rw [← hw1, Below.heap_alloc _ _ _ (by simp)]; exact World.alloc_heap_new _ _
  have hb2 : w1.heap[W0.heap.size + 1]? = some (.cells #[.func (.func 51) #[] #[.pointer (some ⟨W0.heap.size + 1, 0, none⟩)]] 82 (0, 0)) := by
    rw [← hw1]
    have := World.alloc_heap_new (W0.alloc (ruCells x)) (.cells #[.func (.func 51) #[] #[.pointer (some ⟨W0.heap.size + 1, 0, none⟩)]] 82)
    rwa [World.size_alloc] at this
  have hBe : Below W0.heap.size W0 w1 := by rw [← hw1]; exact ((Below.refl _ W0).alloc (Nat.le_refl _) _).alloc (by simp) _
  have hz1 : w1.heap.size = W0.heap.size + 2 := by rw [← hw1]; simp
  have k2 := G2.out.keep (hBe.block _ G2.out.lt)
  have k3 := (hBe.block _ (lt_of_heap G3.out)).trans G3.out
  have hB1w : Below w.heap.size w w1 := hBW.trans (hBe.mono hBW.size)
  have hseq := parts2_seq (W0.heap.size + 1) W0.heap.size w.heap.size h x w1 (cell_of_heap hb2) hb1 (hr.below hB1w)
  obtain ⟨z0, z0'⟩ : W0.heap.size ≤ w.heap.size + 3 ∧ w.heap.size + 3 ≤ W0.heap.size := by have := HZ0.out; omega
  obtain ⟨y2, y2'⟩ : w.heap.size + 1 ≤ B2 ∧ B2 ≤ w.heap.size + 1 := by have := HB2.out; omega
  obtain ⟨y3, y3'⟩ : B2 + 1 ≤ B3 ∧ B3 ≤ B2 + 1 := by have := HB3.out; omega
  obtain ⟨y4, y4'⟩ : w1.heap.size ≤ W0.heap.size + 2 ∧ W0.heap.size + 2 ≤ w1.heap.size := by omega
  have K2 := hidp k2
  have K3 := hidp k3
  clear hb1 hb2 hw1 k2 k3 G2 G3 HW0 hz1 HZ0 HB2 HB3 x0 x1 x2 x3 x4 x5
  refine wp_rangeM (gf := 52) (lb := #[.pointer (some ⟨W0.heap.size + 1, 0, none⟩), .pointer (some ⟨W0.heap.size, 0, none⟩)]) rfl (enters_of Tryd.func52 (by kernel_rfl) rfl) hseq (fun b => b = B2) ?S (fun _ => rfl) ?M
    (fun pre W => W.heap[B3]? = some (.cells #[.map (some B2)] 54 (0, 0)) ∧ KM aV W B2 (atSet pre) ∧ Below w.heap.size w W)
    (fun _ _ => False)
    ?hI ?hIx ?h0 (fun ll pre y a' W => ∃ (B5 : Nat), W.heap[B3]? = some (.cells #[.map (some B2)] 54 (0, 0)) ∧ KM aV W B2 (atSet pre) ∧ Below w.heap.size w W ∧
        B5 ≠ ll ∧ B3 < B5 ∧ W.heap[B5]? = some (.cells #[.int .i64 y.2.op, .int .i64 y.2.course, .string y.2.name, .int .i64 y.2.n, .int .i64 y.2.d, .slice y.2.kA y.2.kn y.2.kc] 24 (0, 0)) ∧
        a' = { tmps := #[.agg #[.int .i64 x.op, .int .i64 x.course, .string x.name, .int .i64 x.n, .int .i64 x.d, .slice x.kA x.kn x.kc], .pointer (some ⟨w.heap.size, 0, none⟩), .slice none 0 0, .pointer (some ⟨B3, 0, none⟩), undef, .pointer (some ⟨B5, 0, none⟩), undef, undef, undef, .map (some B2), .agg #[.int .i64 x.op, .int .i64 x.course, .string x.name, .int .i64 x.n, .int .i64 x.d, .slice x.kA x.kn x.kc], .func (.func 52) #[] #[.pointer (some ⟨W0.heap.size + 1, 0, none⟩), .pointer (some ⟨W0.heap.size, 0, none⟩)], .int .i64 y.1, .agg #[.int .i64 y.2.op, .int .i64 y.2.course, .string y.2.name, .int .i64 y.2.n, .int .i64 y.2.d, .slice y.2.kA y.2.kn y.2.kc], undef, undef, undef, undef, undef, undef, undef, undef, undef, undef, undef, undef, undef, undef, undef, undef, undef, undef, undef, undef, undef, undef, undef, undef, undef, undef, undef, undef, undef, undef, undef, undef, undef, undef, undef, undef], defers := [] })
    ?hAx ?assign ?body ?done ?stop
  case S =>
    have hs := hBW.size
    rintro b (hb | rfl | rfl) <;> exact ⟨by omega, rfl, by omega⟩
  case M => rintro b rfl; omega
  case hI =>
    rintro pre W1 W2 ⟨h1, h2, h5⟩ hk
    exact ⟨(hk.block _ (lt_of_heap h1) (by omega)).trans h1, h2.keep (hk.block _ h2.lt (by omega)), h5.trans (hk.toBelow h5.size (by omega))⟩
  case hIx => rintro cd W1 W2 h; exact h.elim
  case h0 => exact ⟨K3.out, K2.out, hB1w⟩
  case hAx =>
    rintro ll pre y a' W2 W3 hll ⟨B5, h1, h2, h5, h6, h7, h8, rfl⟩ _ hk
    exact ⟨B5, (hk.block _ (lt_of_heap h1) (by omega)).trans h1, h2.keep (hk.block _ h2.lt (by omega)), h5.trans (hk.toBelow h5.size (by omega)), h6, h7, (hk.block _ (lt_of_heap h8) h6).trans h8, rfl⟩
  case assign =>
    rintro ll m pre y suf W1 K hll hlt _ ⟨h1, h2, h5⟩ hK
    have l1 := lt_of_heap h1
    have H2 := hidp h2
    clear h2
    simp only [duEnc]
    gi_wp2
    exact hK _ _ ((Kept.refl _ _).alloc _) ⟨W1.heap.size, (Below.heap_alloc _ _ _ l1).trans h1, H2.out.keep (Below.heap_alloc _ _ _ H2.out.lt), h5.alloc h5.size _, by omega, by omega, World.alloc_heap_new _ _, rfl⟩
  case body =>
    rintro ll m pre y suf a' W2 hll hxs ⟨B5, h1, h2, h5, h6, h7, h8, rfl⟩ _
    have l1 := lt_of_heap h1
    have l3 := lt_of_heap h8
    have e0 := cell_of_heap (o := 0) h1
    have r0 := cell_of_heap (o := 0) h8
    have r1 := cell_of_heap (o := 1) h8
    have r2 := cell_of_heap (o := 2) h8
    have r3 := cell_of_heap (o := 3) h8
    have r4 := cell_of_heap (o := 4) h8
    have r5 := cell_of_heap (o := 5) h8
    simp only [List.getElem?_toArray, List.getElem?_cons_zero, List.getElem?_cons_succ] at e0 r0 r1 r2 r3 r4 r5
    obtain ⟨w2, hup, hkm3, hg, hsz⟩ := km_update (P := Tryd.prog) a_ops h2 (atK y)
    have hk2 : Kept (fun b => b = B2) W2 w2 := (Kept.refl _ _).grown hg fun r e => .inl (by cases e; rfl)
    have hb2 : Below w.heap.size w w2 := h5.trans (hk2.toBelow h5.size (by omega))
    have h12 := (hk2.block B3 l1 (by omega)).trans h1
    have HS : Hid (atSet (pre ++ [y]) = atAdd (atSet pre) y) := by show _ = _; simp [atSet]
    have H2 := hidp h2
    have H1 := hidp h1
    have H3 := hidp hkm3
    have H12 := hidp h12
    simp only [aV, atK] at hup
    clear h1 h2 h8 hxs hkm3 hg hsz h12
    have HW := hidp (fun W => uwithin_any y.2.op 5 9 W)
    obtain ⟨q, hq⟩ : ∃ q, withinB y.2.op 5 9 = q := ⟨_, rfl⟩
    have HQ := hidp hq
    clear hq
    gi_wp2_with fail
    refine ⟨trivial, fun h => by simp [Fence.wide] at h, CallsIn.inRound ll (callsIn_wide.2 ((HW.out _).mono ?_))⟩
    rintro e w5 ⟨rfl, rfl⟩
    rw [HQ.out]
    cases q
    · have HA : Hid (atAdd (atSet pre) y = atSet pre) := by show _ = _; simp [atAdd, HQ.out]
      gi_wp2_with fail
      exact ⟨Kept.refl _ _, H1.out, by rw [HS.out, HA.out]; exact H2.out, h5⟩
    · have HA : Hid (atAdd (atSet pre) y = addKey (atSet pre) (atK y)) := by show _ = _; simp [atAdd, HQ.out]
      gi_wp2_with fail
      exact ⟨hk2, H12.out, by rw [HS.out, HA.out]; exact H3.out, hb2⟩
  case done =>
    rintro D W hD hlt ⟨h1, h2, h5⟩ hk
    have HK := hidp hk
    have l1 := lt_of_heap h1
    have e0 := cell_of_heap (o := 0) h1
    simp only [List.getElem?_toArray, List.getElem?_cons_zero] at e0
    have H1 := hidp h1
    have H2 := hidp h2
    clear h1 h2 hk hseq
    have hl : (atSet (partsD 1 x)).length ≤ 1000000 := Nat.le_trans (atSet_len _) HL.out
    go_wp2_with fail
    refine (atomKeys_any _ _).mono ?_
    rintro e w1' ⟨rfl, hw1⟩
    have hm1 : w1'.heap[W.heap.size]? = some (.cells #[.map (some B2)] 54 (0, 0)) := by rw [← hw1]; exact World.alloc_heap_new _ _
    have hkm1 : KM aV w1' B2 (atSet (partsD 1 x)) := by rw [← hw1]; exact H2.out.keep (Below.heap_alloc _ _ _ H2.out.lt)
    have hbw1 : Below w.heap.size w w1' := by rw [← hw1]; exact h5.alloc h5.size _
    have hD1 : w1'.heap[D]? = some (.deferred (some [])) := by rw [← hw1]; exact (Below.heap_alloc _ _ _ hlt).trans HK.out
    have hlm := lt_of_heap hm1
    have hlk := hkm1.lt
    have hlD := lt_of_heap hD1
    have HSq := hidp (atoms1_seq W.heap.size B2 (atSet (partsD 1 x)) w1' (cell_of_heap hm1) hkm1)
    have HD1 := hidp hD1
    clear hw1 hm1 hkm1 hD1
    go_wp2_with fail
    refine (sortedA_any 56 _ (enters_of Tryd.func56 (by kernel_rfl) rfl) _ _ w1' HSq.out (fun q h => by rcases h with h | h <;> omega) (fun xs h => by rw [h.length_eq]; exact hl)).mono ?_
    rintro e w2 ⟨v, xs, d, rfl, hx, hp, hs, ho, hb2⟩
    have hB2 : Below w.heap.size w w2 := hbw1.trans (hb2.mono hbw1.size)
    have hD2 := (hb2.block D hlD).trans HD1.out
    obtain ⟨A2, c2, rfl, hrow⟩ := own_rows aEnc_len (by decide) ho
    obtain ⟨m, hm⟩ : ∃ m, d.length = m := ⟨_, rfl⟩
    rw [hm] at hrow
    rw [hm]
    have hmk : m ≤ 1000000 := by rw [← hm, hp.length_eq, hx.length_eq]; exact hl
    have hcap := hrow.2.2.1
    have hlen := hrow.2.1
    have HP := hidp (hp.trans hx)
    have HSo := hidp hs
    have HR := hidp hrow
    have HD2 := hidp hD2
    have HM := hidp hm
    have hlD2 := lt_of_heap HD2.out
    obtain ⟨i0, hi, hz, hss, hbb⟩ := info_parts ruInfo
    clear hx hp hs ho hb2 hrow hD2 hl hbw1 hlm hlk hm
    go_wp2_with fail
    go_loopw [2, 32] (fun v i wr => ∃ (k : Nat), k ≤ m ∧ i = .int .i64 k ∧ wr.ownsRow w2.heap.size 24 6 v k ((d.take k).flatMap rEnc) ∧ Below w2.heap.size w2 wr) (fun _ i _ => m - (intOf i).toNat)
    case atStart => exact ⟨0, by omega, rfl, World.ownsRow_nil _ _ _ _, Below.refl _ _⟩
    case round =>
      obtain ⟨k, hk, rfl, hown, hbe⟩ := hrel
      have HO := hidp hown
      clear hown
      by_cases hlt' : k < m
      · obtain ⟨b, off, a, rfl, hb, hzk, c0, c1, c2', c3⟩ := aSl.get (HR.out.below aStable hbe) hlt'
        have HZ := hidp hzk
        have hkn : (k : Int) < m := by omega
        have lb := lt_of_cell c0
        obtain ⟨v', w5, hrun, hown', hg, hat⟩ := run_append_one (P := Tryd.prog) (ty := 22) (l := d.take k) (enc := rEnc) (w := wr.alloc (.cells #[.int .i64 a.op, .int .i64 a.course, .int .i64 a.n, .int .i64 a.d] 60)) (base := w2.heap.size) Tryd.underlying22 hi hz hss hbb rfl rEnc_len (by decide) rEnc_one (HO.out.alloc _) a (by omega) (by omega) (by have := hbe.size; simp; omega)
        have hb5 : Below w2.heap.size w2 w5 := ((hbe.alloc hbe.size _).alloc (by have := hbe.size; simp; omega) _).grown hg (by have := hbe.size; simp; omega) (fun g e => (HO.out.lt g e).1)
        obtain ⟨A5, c5, rfl, _⟩ := own_rows rEnc_len (by decide) hown'
        obtain ⟨A4, c4, rfl, _⟩ := own_rows rEnc_len (by decide) HO.out
        have HO' := hidp hown'
        simp only [World.size_alloc] at hrun
        have HR0 := hidp hrun
        have HT : Hid (d.take (k + 1) = d.take k ++ [a]) := take_snoc HZ.out
        clear hzk hown' hrun hg hat
        go_wp2_with (at_builtin; refine wpList_append_known rfl (.tmp 36) (.tmp 46) 22 rfl rfl rfl HR0.out ?_)
        go_roundw
        case rel => exact ⟨k + 1, by omega, by go_num, by rw [HT.out]; exact HO'.out, hb5⟩
        case measure => simp [intOf]; omega
      · obtain rfl : k = m := by omega
        obtain ⟨A4, c4, rfl, hrow⟩ := own_rows rEnc_len (by decide) HO.out
        have hT : d.take k = d := List.take_of_length_le (by rw [HM.out]; omega)
        rw [hT] at hrow
        have HRw := hidp hrow
        have HD3 := hidp ((hbe.block D hlD2).trans HD2.out)
        have hB3 := hB2.trans (hbe.mono hB2.size)
        clear hrow hT
        go_wp2_with fail
        refine leave_mark (.inl rfl) (D := D) HD3.out rfl (v := .slice A4 k c4) ?_ ⟨A4, k, c4, d, rfl, HP.out, HSo.out, ?_, ?_⟩
        · simp [results, Tryd.f15, go_sem]
        · have h9 : (wr.putObj D (.deferred none)).heap.size = wr.heap.size := by simp
          exact ruSl_of (rows_putD rEnc_len (by decide) HRw.out HD3.out h9)
        · exact hB3.trans (((Kept.refl (fun b => b = D) _).putObj (r := D) (.inl rfl) (.deferred none)).toBelow hB3.size (by omega))
  case stop => rintro D cd W hD hlt h; exact h.elim
end Go.Proofs.YtbmbpannhncpjaaDoor
