/- FactsPast: the plain law, and walked. Regions printed by tools/gen36.py. -/
import Derived.Test.YtoalmffhiinbbaaF32
namespace Go.Proofs.Ytoalmffhiinbbaa
open Go.RowKit Go.Shelf

theorem ofF_past {l more : List Fc} {known : Int} (hm : ∀ f ∈ more, known < f.known) (k : Ky) {t : Int} (ht : t ≤ known) : ofF (l ++ more) k t = ofF l k t := by
  rw [ofF, ofF, List.filter_append]
  have : more.filter (fun f => decide (f.key = k) && decide (f.known ≤ t)) = [] := by
    rw [List.filter_eq_nil_iff]
    intro f hf
    have := hm f hf
    simp; omega
  rw [this, List.append_nil]
theorem atF_past {l more : List Fc} {known : Int} (hm : ∀ f ∈ more, known < f.known) (k : Ky) (term : Int) {t : Int} (ht : t ≤ known) : atF (l ++ more) k term t = atF l k term t := by
  rw [atF, ofF_past hm k ht, atF]
theorem pointsF_past {l more : List Fc} {known : Int} (hm : ∀ f ∈ more, known < f.known) (k : Ky) (a b : Int) : pointsF (l ++ more) k a b known = pointsF l k a b known := by
  simp only [pointsF, pointsTo, atF_past hm k _ (Int.le_refl _)]
theorem uptoF_past {l more : List Fc} {known : Int} (hm : ∀ f ∈ more, known < f.known) : uptoF (l ++ more) known = uptoF l known := by
  rw [uptoF, uptoF, List.filter_append]
  have : more.filter (fun f => decide (f.known ≤ known)) = [] := by
    rw [List.filter_eq_nil_iff]
    intro f hf
    have := hm f hf
    simp; omega
  rw [this, List.append_nil]
theorem spansF_past {l more : List Fc} {known : Int} (hm : ∀ f ∈ more, known < f.known) (h0 : 0 ≤ known) (k : Ky) : spansF (l ++ more) k 0 known = spansF l k 0 known := by
  have : ∀ t, diffB (l ++ more) k 0 known t = diffB l k 0 known t := fun t => by
    unfold diffB
    rw [atF_past hm k t h0, atF_past hm k t (Int.le_refl known)]
  simp only [spansF, spansTo, this]
theorem spansTo_same {l : List Fc} {k : Ky} {b a : Int} (h : ∀ t, atF l k t b = atF l k t a) (n : Nat) : spansTo l k b a n = [] := by
  induction n with
  | zero => rfl
  | succ n ih => rw [spansTo_step, ih, if_neg (by simp [diffB, h])]
theorem ofF_none {l : List Fc} {k : Ky} (h : k ∉ keysF l) (t : Int) : ofF l k t = [] := by
  rw [ofF, List.filter_eq_nil_iff]
  intro f hf
  have : f.key ≠ k := fun e => h ((keysF_mem l k).2 ⟨f, hf, e⟩)
  simp [this]
theorem changeOf_none {l : List Fc} {k : Ky} (h : k ∉ keysF l) (b a : Int) : changeOf l b a k = [] :=
  changeOf_no (spansTo_same (fun t => by rw [atF, atF, ofF_none h, ofF_none h]) 1024)
theorem flatMap_filter {α β : Type} {g : α → List β} {p : α → Bool} : ∀ {l : List α}, (∀ x ∈ l, p x = false → g x = []) → (l.filter p).flatMap g = l.flatMap g
  | [], _ => rfl
  | x :: l, h => by
    have ih := flatMap_filter (l := l) fun y hy => h y (by simp [hy])
    rw [List.filter_cons]
    split
    · rw [List.flatMap_cons, List.flatMap_cons, ih]
    · rename_i hp
      rw [List.flatMap_cons, h x (by simp) (by simpa using hp), List.nil_append, ih]
theorem sorted_eq {a b : List Ky} (ha : a.Pairwise (fun x y => x.lt y = true)) (hb : b.Pairwise (fun x y => x.lt y = true)) (h : ∀ k, k ∈ a ↔ k ∈ b) : a = b := by
  have na : a.Nodup := ha.imp fun {x y} h => by rintro rfl; rw [Ky.lt_irrefl] at h; cases h
  have nb : b.Nodup := hb.imp fun {x y} h => by rintro rfl; rw [Ky.lt_irrefl] at h; cases h
  refine List.Perm.eq_of_pairwise (le := fun x y => x.lt y = true) (fun x y _ _ h1 h2 => ?_) ha hb ((List.perm_ext_iff_of_nodup na nb).2 h)
  rw [lt_asymm h1] at h2; cases h2
theorem changedF_past {l more : List Fc} {known : Int} (hm : ∀ f ∈ more, known < f.known) (h0 : 0 ≤ known) : changedF (l ++ more) 0 known = changedF l 0 known := by
  have hsub : (keysF (l ++ more)).filter (fun k => decide (k ∈ keysF l)) = keysF l := by
    refine sorted_eq ((keysF_sorted _).filter _) (keysF_sorted _) fun k => ?_
    rw [List.mem_filter, keysF_mem, decide_eq_true_eq, keysF_mem]
    constructor
    · exact fun h => h.2
    · rintro ⟨f, hf, rfl⟩
      exact ⟨⟨f, by simp [hf], rfl⟩, f, hf, rfl⟩
  have hch : changeOf (l ++ more) 0 known = changeOf l 0 known := funext fun k => by rw [changeOf, changeOf, spansF_past hm h0]
  rw [changedF, changedF, hch]
  conv => rhs; rw [← hsub]
  rw [flatMap_filter]
  intro k _ hk
  exact changeOf_none (by simpa using hk) _ _

set_option maxRecDepth 100000 in
set_option maxHeartbeats 4000000 in
theorem lPast_any (A A' : Option Addr) (n c n' c' : Nat) (l more : List Fc) (k : Ky) (term known : Int) (w : World) (hl : fSl w w.heap.size A n c l) (hmo : fSl w w.heap.size A' n' c' more) :
    Calls Try.prog 6 #[.slice A n c, .slice A' n' c', .agg (kEnc k).toArray, .int .i64 term, .int .i64 known] w fun e w' => e = .returned (.bool true) ∧ Below w.heap.size w w' := by
  show Calls Try.prog 6 #[.slice A n c, .slice A' n' c', .agg #[.int .i64 k.kind, .int .i64 k.subj, .int .i64 k.obj], .int .i64 term, .int .i64 known] w _
  obtain ⟨i0, hi, hz, hs, hbb⟩ := info_parts kInfo
  obtain ⟨j0, hji, hjz, hjs, hjb⟩ := info_parts fInfo
  obtain ⟨W, hW⟩ : ∃ W, w.alloc (.cells #[.int .i64 k.kind, .int .i64 k.subj, .int .i64 k.obj] 24) = W := ⟨_, rfl⟩
  have hBW : Below w.heap.size w W := hW ▸ (Below.refl _ w).alloc (Nat.le_refl _) _
  have hbox : W.heap[w.heap.size]? = some (.cells #[.int .i64 k.kind, .int .i64 k.subj, .int .i64 k.obj] 24 (0, 0)) := hW ▸ World.alloc_heap_new _ _
  have HL : Hid (∀ W', Below W.heap.size W W' → fSl W' W'.heap.size A n c l) := fun W' h => (hl.keep fStable hBW.size hBW.block).keep fStable h.size h.block
  have HL' : Hid (∀ W', Below W.heap.size W W' → fSl W' W'.heap.size A' n' c' more) := fun W' h => (hmo.keep fStable hBW.size hBW.block).keep fStable h.size h.block
  have HF : Hid (∀ W', Below W.heap.size W W' → W'.cell? ⟨w.heap.size, 0, none⟩ = some (.int .i64 k.kind) ∧ W'.cell? ⟨w.heap.size, 1, none⟩ = some (.int .i64 k.subj) ∧ W'.cell? ⟨w.heap.size, 2, none⟩ = some (.int .i64 k.obj)) := fun W' h => by
    have := (h.block _ (lt_of_heap hbox)).trans hbox
    exact ⟨cell_of_heap this, cell_of_heap this, cell_of_heap this⟩
  have HW := hidp hW
  have HBW := hidp hBW
  have hlen := hl.2.1
  have hcap := hl.2.2.1
  have hlen' := hmo.2.1
  have hcap' := hmo.2.2.1
  have HN := hidp hl.1
  have HN' := hidp hmo.1
  clear hW hBW hbox hl hmo
  go_enter Try.func6, Try.ntmps6
  go_wp2_with fail
  rw [HW.out]
  refine (sane07_any W).mono ?_
  rintro e w1 ⟨rfl, hb1⟩
  by_cases hn : 10 < n
  · have hd : decide (10 < n) = true := by simpa using hn
    go_wp2_with fail
    go_ret
    exact ⟨rfl, HBW.out.trans (hb1.mono HBW.out.size)⟩
  have hd : decide (10 < n) = false := by simpa using hn
  by_cases hn' : 6 < n'
  · have hd' : decide (6 < n') = true := by simpa using hn'
    go_wp2_with fail
    go_ret
    exact ⟨rfl, HBW.out.trans (hb1.mono HBW.out.size)⟩
  have hd' : decide (6 < n') = false := by simpa using hn'
  by_cases hk0 : known < 0
  · have hd0 : decide (known < 0) = true := by simpa using hk0
    go_wp2_with fail
    go_ret
    exact ⟨rfl, HBW.out.trans (hb1.mono HBW.out.size)⟩
  have hd0 : decide (known < 0) = false := by simpa using hk0
  have HK0 : Hid (0 ≤ known) := by show _ ≤ _; omega
  clear hk0
  have hn10 : n ≤ 10 := by omega
  have hn6 : n' ≤ 6 := by omega
  clear hn hn'
  go_wp2_with fail
  go_loopw [11] (fun i wr => ∃ q : Nat, q ≤ n' ∧ i = .int .i64 q ∧ (∀ f ∈ more.take q, known < f.known) ∧ Below W.heap.size W wr) (fun i _ => n' - (intOf i).toNat)
  case atStart => exact ⟨0, by omega, rfl, by simp, hb1⟩
  case round =>
    obtain ⟨q, hq, rfl, hall, hbe⟩ := hrel
    have HA := hidp hall
    clear hall hb1
    by_cases hlt : q < n'
    · obtain ⟨b, off, x, rfl, hb, hzk, -, -, -, -, -, -, c6, -⟩ := fSl.get (HL'.out _ hbe) hlt
      have hqn : (q : Int) < n' := by omega
      have hbl := lt_of_cell c6
      obtain ⟨z, hz'⟩ : ∃ z, decide (x.known ≤ known) = z := ⟨_, rfl⟩
      have HZ := hidp hz'
      have HX := hidp hzk
      clear hzk
      cases z
      · go_wp2_with fail
        go_roundw
        case rel =>
          refine ⟨q + 1, by omega, by go_num, fun f hf => ?_, hbe⟩
          rw [take_snoc HX.out] at hf
          rcases List.mem_append.1 hf with hf | hf
          · exact HA.out f hf
          · simp at hf
            subst hf
            have := HZ.out
            simp at this
            omega
        case measure => simp [intOf]; omega
      · go_wp2_with fail
        go_ret
        exact ⟨rfl, HBW.out.trans (hbe.mono HBW.out.size)⟩
    · obtain rfl : q = n' := by omega
      have HM : Hid (∀ f ∈ more, known < f.known) := fun f hf => HA.out f (by rw [List.take_of_length_le (by rw [← HN'.out]; omega)]; exact hf)
      clear HA
      have hB1 : Below wr.heap.size wr (wr.alloc (.cells #[] 28)) := (Below.refl _ wr).alloc (Nat.le_refl _) _
      have hown0 := World.ownsRow_made (base := wr.heap.size) (e := 28) (size := 8) wr #[] 0 (Nat.le_refl _) (by decide) (by simp)
      obtain ⟨v1, w2, hrun1, hown1, hg1, hat1⟩ := run_append_rows (P := Try.prog) (ty := 22) (l := []) (enc := fEnc) Try.underlying22 hji hjz hjs hjb rfl fEnc_len (by decide) fEnc_one hown0 ((HL.out _ hbe).keep fStable hB1.size hB1.block) (by omega) (by omega) hB1.size
      have hB2 : Below wr.heap.size wr w2 := hB1.grown hg1 hB1.size (fun g e => by simp [Value.ownBlock] at e; omega)
      have hown1' : w2.ownsRow wr.heap.size 28 8 v1 n (l.flatMap fEnc) := by simpa using hown1
      obtain ⟨v2, w3, hrun2, hown2, hg2, hat2⟩ := run_append_rows (P := Try.prog) (ty := 22) (l := l) (enc := fEnc) Try.underlying22 hji hjz hjs hjb rfl fEnc_len (by decide) fEnc_one hown1' ((HL'.out _ hbe).keep fStable hB2.size hB2.block) (by omega) (by omega) hB2.size
      have hB3 : Below wr.heap.size wr w3 := hB2.grown hg2 hB2.size (fun g e => (hown1'.lt g e).1)
      obtain ⟨Ax, cx, rfl, rx⟩ := own_rows fEnc_len (by decide) hown2
      obtain ⟨A1, c1, rfl, -⟩ := own_rows fEnc_len (by decide) hown1'
      have hBw3 := hbe.trans (hB3.mono hbe.size)
      obtain ⟨c0, c1', c2⟩ := HF.out w3 hBw3
      have hcx := rx.2.2.1
      have hnx := rx.2.1
      have HR1 := hidp hrun1
      have HR2 := hidp hrun2
      have HRX := hidp rx
      have hww : w.heap.size < w3.heap.size := by have := hBw3.size; have := HBW.out.size; have hz := congrArg (fun w => w.heap.size) HW.out; simp at hz; omega
      clear hown0 hrun1 hown1 hg1 hat1 hB2 hown1' hrun2 hown2 hg2 hat2 hB1 rx hB3
      go_wp2_with (at_builtin; first | refine wpList_append_known rfl (.tmp 47) (.tmp 48) 22 rfl rfl rfl HR1.out ?_ | refine wpList_append_known rfl (.tmp 49) (.tmp 50) 22 rfl rfl rfl HR2.out ?_)
      obtain ⟨X, hX⟩ : ∃ X, l ++ more = X := ⟨_, rfl⟩
      obtain ⟨nx, hnx'⟩ : ∃ nx, n + q = nx := ⟨_, rfl⟩
      obtain ⟨wv, hwv⟩ : ∃ wv, w3.alloc (.cells #[.int .i64 k.kind, .int .i64 k.subj, .int .i64 k.obj] 24) = wv := ⟨_, rfl⟩
      have hv1 : wv.heap[w3.heap.size]? = some (.cells #[.int .i64 k.kind, .int .i64 k.subj, .int .i64 k.obj] 24 (0, 0)) := hwv ▸ World.alloc_heap_new _ _
      have hBv : Below w3.heap.size w3 wv := hwv ▸ (Below.refl _ w3).alloc (Nat.le_refl _) _
      have hownv : wv.ownsRow w3.heap.size 24 3 (.slice (some ⟨w3.heap.size, 0, none⟩) 1 1) (1 + 0) (([k] ++ (X.take 0).map Fc.key).flatMap kEnc) :=
        ⟨by simp [kEnc], .inr ⟨w3.heap.size, 1, _, rfl, Nat.le_refl _, hv1, Nat.le_refl _, by decide, rfl, by simp [kEnc]⟩⟩
      have hnx16 : nx ≤ 16 := by omega
      rw [hX] at HRX
      rw [hnx'] at HRX hnx ⊢
      rw [hwv]
      have HX := hidp hX
      have HNX := hidp hnx'
      have HXR : Hid (∀ W', Below w3.heap.size w3 W' → fSl W' W'.heap.size Ax nx cx X) := fun W' h => HRX.out.keep fStable h.size h.block
      have HXN := hidp HRX.out.1
      have HBw3 := hidp hBw3
      have HOV := hidp hownv
      have HBV := hidp hBv
      clear hX hnx' hwv hv1 hownv hBv c0 c1' c2 HR1 HR2 HRX hBw3 hbe hww
      go_loopw [13, 14] (fun v i wr => ∃ p : Nat, p ≤ nx ∧ i = .int .i64 p ∧ wr.ownsRow w3.heap.size 24 3 v (1 + p) (([k] ++ (X.take p).map Fc.key).flatMap kEnc) ∧ Below w3.heap.size w3 wr) (fun _ i _ => nx - (intOf i).toNat)
      case atStart => exact ⟨0, by omega, rfl, HOV.out, HBV.out⟩
      case round =>
        obtain ⟨p, hp, rfl, hown, hbe⟩ := hrel
        have HO := hidp hown
        clear hown HOV HBV
        by_cases hlt : p < nx
        · obtain ⟨b, off, x, rfl, hb, hzk, c0, c1, c2, -⟩ := fSl.get (HXR.out _ hbe) hlt
          have hpn : (p : Int) < nx := by omega
          have hbl := lt_of_cell c0
          obtain ⟨v', w5, hrun, hown', hg, hat⟩ := run_append_one (P := Try.prog) (ty := 37) (l := [k] ++ (X.take p).map Fc.key) (enc := kEnc) (w := wr) (base := w3.heap.size) Try.underlying37 hi hz hs hbb rfl kEnc_len (by decide) kEnc_one HO.out x.key (by omega) (by omega) hbe.size
          have hb5 : Below w3.heap.size w3 w5 := (hbe.alloc hbe.size _).grown hg (by have := hbe.size; simp; omega) (fun g e => (HO.out.lt g e).1)
          have HR0 := hidp hrun
          have HO5 : Hid (w5.ownsRow w3.heap.size 24 3 v' (1 + (p + 1)) (([k] ++ (X.take (p + 1)).map Fc.key).flatMap kEnc)) := by
            have : [k] ++ (X.take (p + 1)).map Fc.key = [k] ++ (X.take p).map Fc.key ++ [x.key] := by rw [take_snoc hzk]; simp
            show World.ownsRow _ _ _ _ _ _ _
            rw [this]
            exact hown'
          clear hrun hown' hg hat hzk
          go_wp2_with (at_builtin; refine wpList_append_known rfl (.tmp 60) (.tmp 66) 37 rfl rfl rfl HR0.out ?_)
          go_roundw
          case rel => exact ⟨p + 1, by omega, by go_num, HO5.out, hb5⟩
          case measure => simp [intOf]; omega
        · obtain rfl : p = nx := by omega
          obtain ⟨Ak, ck, rfl, rks⟩ := own_rows kEnc_len (by decide) HO.out
          obtain ⟨ks, hks⟩ : ∃ ks, [k] ++ (X.take p).map Fc.key = ks := ⟨_, rfl⟩
          obtain ⟨nk, hnk⟩ : ∃ nk, 1 + p = nk := ⟨_, rfl⟩
          obtain ⟨w4, hw4⟩ : ∃ w4, w4 = wr := ⟨_, rfl⟩
          subst hw4
          rw [hks, hnk] at rks
          rw [hnk]
          have hck := rks.2.1
          have hck2 := rks.2.2.1
          have HKS := hidp rks
          have HB4 := hidp hbe
          clear hks rks HO hbe
          go_wp2_with fail
          clear hnk
          go_loopw [15] (fun i wr => ∃ q : Nat, q ≤ nk ∧ i = .int .i64 q ∧ Below w4.heap.size w4 wr) (fun i _ => nk - (intOf i).toNat)
          case atStart => exact ⟨0, by omega, rfl, Below.refl _ _⟩
          case round =>
            obtain ⟨j, hj, rfl, hbe⟩ := hrel
            have HLx : Hid (∀ W', Below w4.heap.size w4 W' → fSl W' W'.heap.size A n c l ∧ fSl W' W'.heap.size Ax p cx X) := fun W' h => by
              have h1 := HB4.out.trans (h.mono HB4.out.size)
              exact ⟨HL.out W' (HBw3.out.trans (h1.mono HBw3.out.size)), HXR.out W' h1⟩
            by_cases hlt : j < nk
            · obtain ⟨bq, oq, kq, rfl, hbq, hzq, c0, c1, c2⟩ := kSl.get (HKS.out.keep kStable hbe.size hbe.block) hlt
              have hqn : (j : Int) < nk := by omega
              have HZ := hidp hzq
              have hbl1 := lt_of_cell c0
              clear hzq
              go_wp2_with fail
              refine (fAt_any _ _ _ l kq term known _ (HLx.out _ hbe).1).mono ?_
              rintro e w5 ⟨rfl, hb5⟩
              have hB5 := hbe.trans (hb5.mono hbe.size)
              obtain ⟨V, hV⟩ : ∃ V, (atF l kq term known).getD 0 = V := ⟨_, rfl⟩
              obtain ⟨S, hS⟩ : ∃ S, (atF l kq term known).isSome = S := ⟨_, rfl⟩
              have HE : Hid (atF X kq term known = atF l kq term known) := by show _ = _; rw [← HX.out]; exact atF_past HM.out kq term (Int.le_refl _)
              rw [hV, hS]
              have HV := hidp hV
              have HS := hidp hS
              clear c0 c1 c2 hbe hb5 hV hS hbl1
              obtain ⟨_, _, kq', e, _, hzq, c0, c1, c2⟩ := kSl.get (HKS.out.keep kStable hB5.size hB5.block) hlt
              cases e
              cases HZ.out.symm.trans hzq
              have hbl1 := lt_of_cell c0
              clear hzq
              go_wp2_with fail
              refine (fAt_any _ _ _ X kq term known _ (HLx.out _ hB5).2).mono ?_
              rintro e w6 ⟨rfl, hb6⟩
              rw [HE.out, HV.out, HS.out]
              have hB7 := hB5.trans (hb6.mono hB5.size)
              have HB7 := hidp hB7
              clear c0 c1 c2 hB5 hb6 hbl1
              have HLL : Hid (∀ W', Below w6.heap.size w6 W' → fSl W' W'.heap.size A n c l ∧ fSl W' W'.heap.size Ax p cx X) := fun W' h => HLx.out W' (HB7.out.trans (h.mono HB7.out.size))
              have HKQ : Hid (∀ W', Below w6.heap.size w6 W' → bq < W'.heap.size ∧ W'.cell? ⟨bq, oq + j * 3, none⟩ = some (.int .i64 kq.kind) ∧ W'.cell? ⟨bq, oq + j * 3 + 1, none⟩ = some (.int .i64 kq.subj) ∧ W'.cell? ⟨bq, oq + j * 3 + 2, none⟩ = some (.int .i64 kq.obj)) := fun W' h => by
                have h1 := HB7.out.trans (h.mono HB7.out.size)
                obtain ⟨_, _, kq', e, hb', hzq, c0, c1, c2⟩ := kSl.get (HKS.out.keep kStable h1.size h1.block) hlt
                cases e
                cases HZ.out.symm.trans hzq
                exact ⟨hb', c0, c1, c2⟩
              have HPE : Hid (pointsF X kq 0 40 known = pointsF l kq 0 40 known) := by show _ = _; rw [← HX.out]; exact pointsF_past HM.out kq 0 40
              clear hB7
              go_wp2_with fail
              refine wp_region_S w6.heap.size 26 (fun _ => false) (Nat.le_refl _) (by kernel_rfl) (by kernel_rfl) (by kernel_rfl) ?_
              dsimp only [List.take, List.drop]
              apply relS_det (mask := [])
              · rfl
              · kernel_rfl
              · kernel_rfl
              · dsimp only [oblS]
                rintro w9 h9
                go_simp
                exact ⟨Below.refl _ _, rfl⟩
              dsimp only [List.nil_append, List.cons_append]
              apply relS_det (mask := [false])
              · rfl
              · kernel_rfl
              · kernel_rfl
              · dsimp only [oblS]
                rintro w9 h9
                go_simp
                exact ⟨Below.refl _ _, rfl⟩
              dsimp only [List.nil_append, List.cons_append]
              apply relS_det (mask := [true, true]) (x := .bool false)
              · rfl
              · kernel_rfl
              · kernel_rfl
              · dsimp only [oblS]
                rintro w9 h9
                go_simp
                exact ⟨Below.refl _ _, by simp [IsV]⟩
              dsimp only [List.nil_append, List.cons_append]
              apply relS_det (mask := [false, false, true])
              · rfl
              · kernel_rfl
              · kernel_rfl
              · dsimp only [oblS]
                rintro w9 h9
                go_simp
                exact ⟨Below.refl _ _, rfl⟩
              dsimp only [List.nil_append, List.cons_append]
              apply relS_detg (mask := [false, false, false, true]) (t := 99) (want := false)
              · rfl
              · kernel_rfl
              · kernel_rfl
              · dsimp only [oblS]
                refine ⟨by rfl, ?_⟩
                rintro w9 h9
                go_simp
                exact ⟨Below.refl _ _, rfl⟩
              dsimp only [List.nil_append, List.cons_append]
              apply relS_detg (mask := [false, false, false, true, false]) (t := 99) (want := false)
              · rfl
              · kernel_rfl
              · kernel_rfl
              · dsimp only [oblS]
                refine ⟨by rfl, ?_⟩
                rintro w9 h9
                go_simp
                exact ⟨Below.refl _ _, rfl⟩
              dsimp only [List.nil_append, List.cons_append]
              apply relS_detg (mask := [false, false, false, true, true, true]) (t := 99) (want := false) (x := .bool false)
              · rfl
              · kernel_rfl
              · kernel_rfl
              · dsimp only [oblS]
                refine ⟨by rfl, ?_⟩
                rintro w9 h9
                go_simp
                exact ⟨Below.refl _ _, by simp [IsV]⟩
              dsimp only [List.nil_append, List.cons_append]
              apply relS_det (mask := [false, false, false, true, false, false, true])
              · rfl
              · kernel_rfl
              · kernel_rfl
              · dsimp only [oblS]
                rintro w9 h9
                go_simp
                exact ⟨Below.refl _ _, rfl⟩
              dsimp only [List.nil_append, List.cons_append]
              apply relS_det (mask := [false, false, false, false, false, false, false, true])
              · rfl
              · kernel_rfl
              · kernel_rfl
              · dsimp only [oblS]
                rintro w9 h9
                go_simp
                exact ⟨Below.refl _ _, rfl⟩
              dsimp only [List.nil_append, List.cons_append]
              apply relS_detg (mask := [false, false, false, false, false, false, false, false, true]) (t := 104) (want := false)
              · rfl
              · kernel_rfl
              · kernel_rfl
              · dsimp only [oblS]
                refine ⟨by rfl, ?_⟩
                rintro w9 h9
                go_simp
                exact ⟨Below.refl _ _, rfl⟩
              dsimp only [List.nil_append, List.cons_append]
              apply relS_detg (mask := [false, false, false, false, false, false, false, false, true, false]) (t := 104) (want := false)
              · rfl
              · kernel_rfl
              · kernel_rfl
              · dsimp only [oblS]
                refine ⟨by rfl, ?_⟩
                rintro w9 h9
                go_simp
                exact ⟨Below.refl _ _, rfl⟩
              dsimp only [List.nil_append, List.cons_append]
              apply relS_detg (mask := [false, false, false, false, false, false, false, false, true, false, false]) (t := 104) (want := false)
              · rfl
              · kernel_rfl
              · kernel_rfl
              · dsimp only [oblS]
                refine ⟨by rfl, ?_⟩
                rintro w9 h9
                go_simp
                exact ⟨Below.refl _ _, rfl⟩
              dsimp only [List.nil_append, List.cons_append]
              apply relS_detg (mask := [false, false, false, false, false, false, false, false, true, false, true, true]) (t := 104) (want := false)
              · rfl
              · kernel_rfl
              · kernel_rfl
              · dsimp only [oblS]
                refine ⟨by rfl, ?_⟩
                rintro w9 h9
                go_simp
                exact ⟨Below.refl _ _, rfl⟩
              dsimp only [List.nil_append, List.cons_append]
              apply relS_detg (mask := [false, false, false, false, false, false, false, false, true, false, false, false, true]) (t := 104) (want := false) (x := .agg #[.int .i64 kq.kind, .int .i64 kq.subj, .int .i64 kq.obj])
              · rfl
              · kernel_rfl
              · kernel_rfl
              · dsimp only [oblS]
                refine ⟨by rfl, ?_⟩
                rintro w9 h9
                obtain ⟨zz, z0, z1, z2⟩ := HKQ.out w9 h9
                go_simp
                exact ⟨Below.refl _ _, rfl⟩
              dsimp only [List.nil_append, List.cons_append]
              apply relS_detg (mask := [false, false, false, false, false, false, false, false, true, false, false, false, false, false]) (t := 104) (want := false)
              · rfl
              · kernel_rfl
              · kernel_rfl
              · dsimp only [oblS]
                refine ⟨by rfl, ?_⟩
                rintro w9 h9
                go_simp
                exact ⟨Below.refl _ _, rfl⟩
              dsimp only [List.nil_append, List.cons_append]
              apply relS_anyg (mask := [false, false, false, false, false, false, false, false, true, true, false, false, false, true, true]) (t := 104) (want := false) (T := ptsT (pointsF l kq 0 40 known)) (hT := ptsT_stable _)
              · rfl
              · kernel_rfl
              · kernel_rfl
              · dsimp only [oblS]
                refine ⟨by rfl, ?_⟩
                rintro w9 h9 T' hT'
                go_simp
                refine (fPoints_any _ _ _ l kq 0 40 known _ (HLL.out w9 h9).1).mono ?_
                rintro e w7 ⟨A7, n7, c7, rfl, r7, hb7⟩
                exact ⟨_, rfl, hb7, hT' _ _ ⟨A7, n7, c7, rfl, r7⟩⟩
              dsimp only [List.nil_append, List.cons_append]
              apply relS_detg (mask := [false, false, false, false, false, false, false, false, true, false, false, false, false, false, false, false]) (t := 104) (want := false)
              · rfl
              · kernel_rfl
              · kernel_rfl
              · dsimp only [oblS]
                refine ⟨by rfl, ?_⟩
                rintro w9 h9
                go_simp
                exact ⟨Below.refl _ _, rfl⟩
              dsimp only [List.nil_append, List.cons_append]
              apply relS_detg (mask := [false, false, false, false, false, false, false, false, true, false, false, false, false, false, false, false, false]) (t := 104) (want := false)
              · rfl
              · kernel_rfl
              · kernel_rfl
              · dsimp only [oblS]
                refine ⟨by rfl, ?_⟩
                rintro w9 h9
                go_simp
                exact ⟨Below.refl _ _, rfl⟩
              dsimp only [List.nil_append, List.cons_append]
              apply relS_detg (mask := [false, false, false, false, false, false, false, false, true, false, false, false, false, false, false, false, false, false]) (t := 104) (want := false)
              · rfl
              · kernel_rfl
              · kernel_rfl
              · dsimp only [oblS]
                refine ⟨by rfl, ?_⟩
                rintro w9 h9
                go_simp
                exact ⟨Below.refl _ _, rfl⟩
              dsimp only [List.nil_append, List.cons_append]
              apply relS_detg (mask := [false, false, false, false, false, false, false, false, true, false, false, false, false, false, false, false, false, true, true]) (t := 104) (want := false)
              · rfl
              · kernel_rfl
              · kernel_rfl
              · dsimp only [oblS]
                refine ⟨by rfl, ?_⟩
                rintro w9 h9
                go_simp
                exact ⟨Below.refl _ _, rfl⟩
              dsimp only [List.nil_append, List.cons_append]
              apply relS_detg (mask := [false, false, false, false, false, false, false, false, true, false, false, false, false, false, false, false, false, false, false, true]) (t := 104) (want := false) (x := .agg #[.int .i64 kq.kind, .int .i64 kq.subj, .int .i64 kq.obj])
              · rfl
              · kernel_rfl
              · kernel_rfl
              · dsimp only [oblS]
                refine ⟨by rfl, ?_⟩
                rintro w9 h9
                obtain ⟨zz, z0, z1, z2⟩ := HKQ.out w9 h9
                go_simp
                exact ⟨Below.refl _ _, rfl⟩
              dsimp only [List.nil_append, List.cons_append]
              apply relS_detg (mask := [false, false, false, false, false, false, false, false, true, false, false, false, false, false, false, false, false, false, false, false, false]) (t := 104) (want := false)
              · rfl
              · kernel_rfl
              · kernel_rfl
              · dsimp only [oblS]
                refine ⟨by rfl, ?_⟩
                rintro w9 h9
                go_simp
                exact ⟨Below.refl _ _, rfl⟩
              dsimp only [List.nil_append, List.cons_append]
              apply relS_anyg (mask := [false, false, false, false, false, false, false, false, true, false, false, false, false, false, false, false, true, false, false, false, true, true]) (t := 104) (want := false) (T := ptsT (pointsF l kq 0 40 known)) (hT := ptsT_stable _)
              · rfl
              · kernel_rfl
              · kernel_rfl
              · dsimp only [oblS]
                refine ⟨by rfl, ?_⟩
                rintro w9 h9 T' hT'
                go_simp
                refine (fPoints_any _ _ _ X kq 0 40 known _ (HLL.out w9 h9).2).mono ?_
                rintro e w7 ⟨A7, n7, c7, rfl, r7, hb7⟩
                rw [HPE.out] at r7
                exact ⟨_, rfl, hb7, hT' _ _ ⟨A7, n7, c7, rfl, r7⟩⟩
              dsimp only [List.nil_append, List.cons_append]
              apply relS_detg (mask := [false, false, false, false, false, false, false, false, true, false, false, false, false, false, false, true, false, false, false, false, false, false, true]) (t := 104) (want := false) (x := .bool true)
              · rfl
              · kernel_rfl
              · kernel_rfl
              · dsimp only [oblS]
                intro v111 v118
                refine ⟨by rfl, ?_⟩
                rintro w9 ⟨⟨h9, t111⟩, t118⟩
                obtain ⟨A1, n1, c1, rfl, r1⟩ := t111
                obtain ⟨A2, n2, c2, rfl, r2⟩ := t118
                go_simp
                refine (pSame_any _ _ _ _ _ _ _ _ _ r1 r2).mono ?_
                rintro e w7 ⟨rfl, hb7⟩
                exact ⟨_, rfl, hb7, by rw [decide_eq_true rfl]; rfl⟩
              dsimp only [List.nil_append, List.cons_append]
              apply relS_detg (mask := [false, false, false, false, false, false, false, false, true, false, false, false, false, false, false, false, false, false, false, false, false, false, false, true]) (t := 104) (want := false)
              · rfl
              · kernel_rfl
              · kernel_rfl
              · dsimp only [oblS]
                refine ⟨by rfl, ?_⟩
                rintro w9 h9
                go_simp
                exact ⟨Below.refl _ _, rfl⟩
              dsimp only [List.nil_append, List.cons_append]
              apply relS_det (mask := [false, false, false, false, false, false, false, false, true, false, false, false, false, false, false, false, false, false, false, false, false, false, false, false, true])
              · rfl
              · kernel_rfl
              · kernel_rfl
              · dsimp only [oblS]
                rintro w9 h9
                go_simp
                exact ⟨Below.refl _ _, rfl⟩
              dsimp only [List.nil_append, List.cons_append]
              refine relS_end (by rfl) ?_
              dsimp only [finS]
              -- rintro v111 v118 w8 ⟨⟨hb, t111⟩, t118⟩
              rintro v111 v118 w8 ⟨⟨hb8, -⟩, -⟩
              go_frame
              have hB9 := HB7.out.trans (hb8.mono HB7.out.size)
              clear hb8
              go_wp2_with fail
              go_roundw
              case rel => exact ⟨j + 1, by omega, by go_num, hB9⟩
              case measure => simp [intOf]; omega
            · obtain rfl : j = nk := by omega
              have hxr := HLx.out _ hbe
              go_wp2_with fail
              refine (fUpto_any _ _ _ X known _ hxr.2 (by omega)).mono ?_
              rintro e w5 ⟨A5, n5, c5, rfl, r5, hb5⟩
              have hB5 := hbe.trans (hb5.mono hbe.size)
              have hxr5 := HLx.out _ hB5
              have R5 := hidp r5
              clear hb5 r5 hxr
              go_wp2_with fail
              refine (fUpto_any _ _ _ l known _ hxr5.1 (by omega)).mono ?_
              rintro e w6 ⟨A6, n6, c6, rfl, r6, hb6⟩
              have hB6 := hB5.trans (hb6.mono hB5.size)
              have hxr6 := HLx.out _ hB6
              have R5' := hidp (R5.out.keep fStable hb6.size hb6.block)
              have R6 := hidp r6
              clear hb6 r6 hxr5 R5
              go_wp2_with fail
              refine (fSame_any _ _ _ _ _ _ _ _ _ R5'.out R6.out).mono ?_
              rintro e w7 ⟨rfl, hb7⟩
              rw [decide_eq_true (by rw [← HX.out]; exact uptoF_past HM.out)]
              have hB7 := hB6.trans (hb7.mono hB6.size)
              have hxr7 := HLx.out _ hB7
              clear hb7 R5' R6 hxr6
              go_wp2_with fail
              refine (fChanged_any _ _ _ X 0 known _ hxr7.2 (by omega)).mono ?_
              rintro e w8 ⟨A8, n8, c8, raw8, rfl, r8, ok8, hb8⟩
              have hB8 := hB7.trans (hb8.mono hB7.size)
              have hxr8 := HLx.out _ hB8
              have R8 := hidp r8
              have O8 := hidp ok8
              clear hb8 r8 ok8 hxr7
              go_wp2_with fail
              refine (fChanged_any _ _ _ l 0 known _ hxr8.1 (by omega)).mono ?_
              rintro e w9 ⟨A9, n9, c9, raw9, rfl, r9, ok9, hb9⟩
              have hB9 := hB8.trans (hb9.mono hB8.size)
              have R8' := hidp (R8.out.keep cStable hb9.size hb9.block)
              have O8' := hidp (O8.out.below hb9)
              have R9 := hidp r9
              have O9 := hidp ok9
              clear hb9 r9 ok9 hxr8 R8 O8
              go_wp2_with fail
              refine (rSameChanges_any _ _ _ _ _ _ _ _ _ _ _ R8'.out R9.out O8'.out O9.out).mono ?_
              rintro e w10 ⟨rfl, hb10⟩
              rw [decide_eq_true (by rw [← HX.out]; exact changedF_past HM.out HK0.out)]
              have hB10 := hB9.trans (hb10.mono hB9.size)
              go_wp2_with fail
              go_ret
              have h1 := HB4.out.trans (hB10.mono HB4.out.size)
              have h2 := HBw3.out.trans (h1.mono HBw3.out.size)
              exact ⟨rfl, HBW.out.trans (h2.mono HBW.out.size)⟩
def PastCalls : Prop := ∀ (A A' : Option Addr) (n c n' c' : Nat) (l more : List Fc) (k : Ky) (term known : Int) (w : World), fSl w w.heap.size A n c l → fSl w w.heap.size A' n' c' more → Calls Try.prog 6 #[.slice A n c, .slice A' n' c', .agg (kEnc k).toArray, .int .i64 term, .int .i64 known] w fun e w' => e = .returned (.bool true) ∧ Below w.heap.size w w'
theorem past_calls : PastCalls := lPast_any
end Go.Proofs.Ytoalmffhiinbbaa
