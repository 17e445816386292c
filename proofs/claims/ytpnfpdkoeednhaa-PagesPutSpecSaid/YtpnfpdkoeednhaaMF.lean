/- Several texts in one: A9 A10 A11 A12. -/
import Derived.Test.YtpnfpdkoeednhaaMD
import Derived.Test.YtpnfpdkoeednhaaM5
import Derived.Test.YtpnfpdkoeednhaaM4
import Derived.Test.YtpnfpdkoeednhaaMC
import Derived.Test.YtpnfpdkoeednhaaM3
section
/- slices.AppendSeq, slices.Collect at facts, over whatever iterator (F27, turned to facts). -/
namespace Go.Proofs.Ytpnfpdkoeednhaa
open Go.RowKit Go.Shelf
attribute [local go_sem] Oper.semAt_some

def AppFPost (R : List Fc → Prop) (w : World) (e : Ending) (w' : World) : Prop := ∃ v xs, e = .returned v ∧ R xs ∧ w'.ownsRow w.heap.size 31 8 v xs.length (xs.flatMap fEnc) ∧ Below w.heap.size w w'
def CApp (Bs : Nat) (v : Value) : Nat → Prop := fun b => b = Bs ∨ v.ownBlock = some b

set_option maxRecDepth 100000 in
set_option maxHeartbeats 2000000 in
theorem appSeqF_any (gf : Nat) (lb : Array Value) (eg : ∀ args w, (callFunc gf args).run Try.prog w = .ok (.enter gf args) w) (R : List Fc → Prop) (S : Nat → Prop) (w : World)
    (hseq : SeqG Try.prog gf lb (fun x : Fc => #[.agg #[.int .i64 x.key.kind, .int .i64 x.key.subj, .int .i64 x.key.obj, .int .i64 x.val, .int .i64 x.fr, .int .i64 x.to, .int .i64 x.known, .int .i64 x.no]]) R S w) (hS : ∀ b, S b → b < w.heap.size) (hR : ∀ xs, R xs → xs.length ≤ 1000000) :
    Calls Try.prog 72 #[.slice none 0 0, .func (.func gf) #[] lb] w (AppFPost R w) := by
  obtain ⟨i0, hi, hz, hs, hbb⟩ := info_parts fInfo
  refine calls_of_wp_marks Try.func72 rfl ?_
  simp only [Try.ntmps72, List.size_toArray, List.length_cons, List.length_nil, Nat.reduceAdd, Nat.reduceSub, Array.replicate_succ, Array.replicate_zero, List.push_toArray, List.append_toArray, List.nil_append, List.cons_append]
  obtain ⟨W0, hW0⟩ : ∃ W0, w.alloc (.cells #[.slice none 0 0] 41) = W0 := ⟨_, rfl⟩
  have hBW : Below w.heap.size w W0 := by rw [← hW0]; exact (Below.refl _ w).alloc (Nat.le_refl _) _
  have hz0 : W0.heap.size = w.heap.size + 1 := by rw [← hW0]; simp
  have g1 : W0.heap[w.heap.size]? = some (.cells #[.slice none 0 0] 41 (0, 0)) := by rw [← hW0]; exact World.alloc_heap_new _ _
  have HW0 := hidp hW0
  have G1 := hidp g1
  have HSq := hidp (hseq.later fun b hb => hBW.block b (hS b hb))
  have HR := hidp hR
  have HS := hidp hS
  clear hW0 g1 hseq hR hS
  go_wp2_with fail
  rw [HW0.out]
  refine wp_rangeG (gf := gf) (lb := lb) rfl eg HSq.out (CApp w.heap.size (.slice none 0 0)) ?S (fun _ => rfl) ?M
    (fun pre C W => ∃ v, C = CApp w.heap.size v ∧ W.heap[w.heap.size]? = some (.cells #[v] 41 (0, 0)) ∧ W.ownsRow (w.heap.size + 1) 31 8 v pre.length (pre.flatMap fEnc) ∧ Below w.heap.size w W)
    (fun _ _ _ => False)
    ?hI ?hIx ?h0 (fun ll pre x C a' W => ∃ (B5 : Nat) (v : Value), C = CApp w.heap.size v ∧ W.heap[w.heap.size]? = some (.cells #[v] 41 (0, 0)) ∧ W.ownsRow (w.heap.size + 1) 31 8 v pre.length (pre.flatMap fEnc) ∧ Below w.heap.size w W ∧
        B5 ≠ ll ∧ w.heap.size < B5 ∧ W.heap[B5]? = some (.cells #[.int .i64 x.key.kind, .int .i64 x.key.subj, .int .i64 x.key.obj, .int .i64 x.val, .int .i64 x.fr, .int .i64 x.to, .int .i64 x.known, .int .i64 x.no] 31 (0, 0)) ∧
        a' = { tmps := #[.slice none 0 0, .func (.func gf) #[] lb, .pointer (some ⟨w.heap.size, 0, none⟩), undef, .slice none 0 0, .pointer (some ⟨B5, 0, none⟩), .func (.func gf) #[] lb, .agg #[.int .i64 x.key.kind, .int .i64 x.key.subj, .int .i64 x.key.obj, .int .i64 x.val, .int .i64 x.fr, .int .i64 x.to, .int .i64 x.known, .int .i64 x.no], undef, undef, undef, undef, undef], defers := [] })
    ⟨?hAx, ?assign, ?body⟩ ?done ?stop
  case S =>
    intro b hb
    have := HS.out b hb
    refine ⟨by omega, rfl, ?_⟩
    rintro (h | h)
    · omega
    · simp [Value.ownBlock] at h
  case M =>
    rintro b (h | h)
    · omega
    · simp [Value.ownBlock] at h
  case hI =>
    rintro pre C1 W1 W2 ⟨v, rfl, h2, h3, h4⟩ hk
    have hk' : ∀ b, b < W1.heap.size → CApp w.heap.size v b → W2.heap[b]? = W1.heap[b]? := fun b hb hc => hk.block b hb fun h => h.2 hc
    exact ⟨v, rfl, (hk' _ (lt_of_heap h2) (.inl rfl)).trans h2, own_keepB h3 fun g hg => hk' g (h3.lt g hg).2 (.inr hg), h4.trans (hk.toBelow h4.size (fun b hb h => by omega))⟩
  case hIx => rintro cd C1 W1 W2 h; exact h.elim
  case h0 => exact ⟨_, rfl, G1.out, World.ownsRow_nil _ _ _ _, hBW⟩
  case hAx =>
    rintro ll pre x C1 a' W2 W3 hll hnl ⟨B5, v, rfl, h2, h3, h4, h5, h6, h7, rfl⟩ _ hk
    have hk' : ∀ b, b < W2.heap.size → CApp w.heap.size v b → W3.heap[b]? = W2.heap[b]? := fun b hb hc => hk.block b hb fun h => hnl (h ▸ hc)
    exact ⟨B5, v, rfl, (hk' _ (lt_of_heap h2) (.inl rfl)).trans h2, own_keepB h3 fun g hg => hk' g (h3.lt g hg).2 (.inr hg), h4.trans (hk.toBelow h4.size (fun b hb h => by omega)), h5, h6, (hk.block _ (lt_of_heap h7) h5).trans h7, rfl⟩
  case assign =>
    rintro ll m pre x suf C1 W1 K hll hlt hnl _ ⟨v, rfl, h2, h3, h4⟩ _ hK
    have l2 := lt_of_heap h2
    have H3 := hidp h3
    clear h3
    gi_wp2
    exact hK _ _ ((Kept.refl _ _).alloc _) ⟨W1.heap.size, v, rfl, (Below.heap_alloc _ _ _ l2).trans h2, H3.out.alloc _, h4.alloc h4.size _, by omega, by omega, World.alloc_heap_new _ _, rfl⟩
  case body =>
    rintro ll m pre x suf C1 a' W2 hll hnl hxs ⟨B5, v, rfl, h2, h3, h4, h5, h6, h7, rfl⟩ _ hCl
    have hlen := HR.out _ hxs
    simp only [List.length_append, List.length_cons] at hlen
    obtain ⟨v', w5, hrun, hown', hg, hat⟩ := run_append_one (P := Try.prog) (ty := 41) (l := pre) (enc := fEnc) (w := W2) (base := w.heap.size + 1) Try.underlying41 hi hz hs hbb rfl fEnc_len (by decide) fEnc_one h3 x (by omega) (by omega) (by have := h4.size; have := lt_of_heap h2; omega)
    obtain ⟨A5, c5, rfl, _⟩ := own_rows fEnc_len (by decide) hown'
    have hvB : ∀ g, v.ownBlock = some g → w.heap.size + 1 ≤ g ∧ g < W2.heap.size := fun g hg => h3.lt g hg
    have l2 := lt_of_heap h2
    have l7 := lt_of_heap h7
    have e5 : w5.heap[w.heap.size]? = some (.cells #[v] 41 (0, 0)) := (hg.block _ (by simp; omega) (fun e => by have := hvB _ e.symm; omega)).trans ((Below.heap_alloc _ _ _ l2).trans h2)
    have hb5 : Below w.heap.size w w5 := (h4.alloc h4.size _).grown hg (by have := h4.size; simp; omega) (fun g e => by have := hvB _ e; omega)
    have hk5 : Kept (CApp w.heap.size v) W2 w5 := ((Kept.refl _ _).alloc _).grown hg fun g e => .inl (.inr e)
    have hz5 : W2.heap.size + 1 ≤ w5.heap.size := by have := hg.size; simpa using this
    have c2 := cell_of_heap (o := 0) h2
    have x0 := cell_of_heap (o := 0) h7
    have x1 := cell_of_heap (o := 1) h7
    have x2 := cell_of_heap (o := 2) h7
    have x3 := cell_of_heap (o := 3) h7
    have x4 := cell_of_heap (o := 4) h7
    have x5 := cell_of_heap (o := 5) h7
    have x6 := cell_of_heap (o := 6) h7
    have x7 := cell_of_heap (o := 7) h7
    have s5 := frozen_of_heap (o := 0) e5
    simp only [List.getElem?_toArray, List.getElem?_cons_zero, List.getElem?_cons_succ] at c2 x0 x1 x2 x3 x4 x5 x6 x7
    have l5 := lt_of_heap e5
    have hd5 : w5.cell? ⟨w.heap.size, 0, none⟩ = some v := by rw [cell_of_heap e5]; rfl
    have HR0 := hidp hrun
    have HO' := hidp hown'
    have E5 := hidp e5
    have HVB := hidp hvB
    have HAT := hidp hat
    have HZ5 := hidp hz5
    clear h2 h3 h7 hrun hown' e5 hvB hat hg hxs hCl hz5
    gi_wp2_with (gi_at_builtin; refine wpListIn_append_known rfl (.tmp 8) (.tmp 10) 41 rfl rfl rfl HR0.out ?_)
    refine ⟨CApp w.heap.size (.slice A5 (pre.length + 1) c5), hk5.setCell (.inl (.inl rfl)) _, ?_, _, rfl, heap_set1 E5.out _, ?_, hb5.setCell (Nat.le_refl _) _⟩
    · have hlo := HO'.out.lt
      have hz := HZ5.out
      rintro b (h | h)
      · subst h
        exact ⟨by simpa [World.setCell] using l5, .inl (.inl rfl)⟩
      · refine ⟨by simpa [World.setCell] using (hlo b h).2, ?_⟩
        rcases HAT.out with h' | h'
        · exact .inl (.inr (by rw [← h', h]))
        · rw [h'] at h
          injection h with h
          exact .inr (by omega)
    · rw [List.length_append]
      exact own_keepB HO'.out fun g hg => heap_set_ne rfl (by have := (HO'.out.lt g hg).1; omega) _ _
  case done =>
    rintro xs D C' W hRx hD hlt hnD ⟨v, rfl, h2, h3, h4⟩ hk
    obtain ⟨A5, c5, rfl, _⟩ := own_rows fEnc_len (by decide) h3
    have c2 := cell_of_heap (o := 0) h2
    simp only [List.getElem?_toArray, List.getElem?_cons_zero] at c2
    have HK := hidp hk
    have H3 := hidp h3
    have l2 := lt_of_heap h2
    have hkD : Kept (fun b => b = D) W (W.putObj D (.deferred none)) := (Kept.refl (fun b => b = D) W).putObj (r := D) (.inl rfl) (.deferred none)
    have hBD := h4.trans (hkD.toBelow h4.size (by omega))
    have hOD := own_keepB h3 fun g hg => hkD.block g (h3.lt g hg).2 fun e => hnD (e ▸ .inr hg)
    have HOD := hidp (own_monoB hOD (Nat.le_succ _))
    have HRx := hidp hRx
    clear hk h2 h3 hnD hOD hRx
    go_wp2
    refine leave_mark (.inl rfl) (D := D) HK.out rfl (v := .slice A5 xs.length c5) ?_ ⟨_, xs, rfl, HRx.out, HOD.out, hBD⟩
    simp [results, Try.f72, go_sem]
  case stop => rintro D cd C' W hD hlt hnD h; exact h.elim
set_option maxHeartbeats 400000 in
theorem collectF_any (gf : Nat) (lb : Array Value) (eg : ∀ args w, (callFunc gf args).run Try.prog w = .ok (.enter gf args) w) (R : List Fc → Prop) (S : Nat → Prop) (w : World)
    (hseq : SeqG Try.prog gf lb (fun x : Fc => #[.agg #[.int .i64 x.key.kind, .int .i64 x.key.subj, .int .i64 x.key.obj, .int .i64 x.val, .int .i64 x.fr, .int .i64 x.to, .int .i64 x.known, .int .i64 x.no]]) R S w) (hS : ∀ b, S b → b < w.heap.size) (hR : ∀ xs, R xs → xs.length ≤ 1000000) :
    Calls Try.prog 50 #[.func (.func gf) #[] lb] w (AppFPost R w) := by
  go_enter Try.func50, Try.ntmps50
  go_wp2_with fail
  refine (appSeqF_any gf lb eg R S w hseq hS hR).mono ?_
  rintro e w1 ⟨v, xs, rfl, h1, h2, h3⟩
  go_wp2_with fail
  go_ret
  exact ⟨v, xs, rfl, h1, h2, h3⟩
end Go.Proofs.Ytpnfpdkoeednhaa

end
section
/- pages.root, All, At (printed by tools/gen133.py). -/
namespace Go.Proofs.Ytpnfpdkoeednhaa
open Go.RowKit

/-- Such a version is. -/
def verOk (s : Ps) (v : Int) : Bool := checkP (psV s) s.roots && (decide (0 ≤ v) && decide (v < s.roots.length))
def verR (s : Ps) (v : Int) : Int := if verOk s v = true then s.roots.getD v.toNat 0 else 0
def allV (s : Ps) (v : Int) : List Fc := if verOk s v = true then allT (psV s) (verR s v).toNat else []
theorem verOk_page {s : Ps} {v : Int} (h : verOk s v = true) : 0 ≤ verR s v ∧ verR s v < (psV s).length ∧ OkT (psV s) (verR s v).toNat := by
  have h0 := h
  unfold verOk checkP at h
  simp only [Bool.and_eq_true, decide_eq_true_eq, List.all_eq_true] at h
  have hv : s.roots[v.toNat]? = some (s.roots.getD v.toNat 0) := by rw [List.getD_eq_getElem?_getD, List.getElem?_eq_getElem (by omega)]; rfl
  have hr := h.1.2 _ (List.mem_of_getElem? hv)
  unfold rootP at hr
  simp only [Bool.and_eq_true, decide_eq_true_eq] at hr
  have he : verR s v = s.roots.getD v.toNat 0 := by unfold verR; rw [if_pos h0]
  rw [he]
  exact ⟨hr.1.1, hr.1.2, true, [], hr.2⟩
set_option maxRecDepth 100000 in
set_option maxHeartbeats 4000000 in
theorem pgroot_any (s : Ps) (v : Int) (w : World) (hps : PsIn s w w.heap.size) (hsm : ∀ g ∈ s.gs, g.fn ≤ 1000000 ∧ g.kn ≤ 1000000) :
    Calls Try.prog 49 #[.agg #[.slice s.pA s.pn s.pc, .slice s.rA s.rn s.rc], .int .i64 v] w fun e w' => e = .returned (.tuple #[.int .i64 (verR s v), .int .i64 (errP (verOk s v))]) ∧ Below w.heap.size w w' := by
  have HPs : Hid (∀ W, Below w.heap.size w W → PsIn s W W.heap.size) := fun W h => hps.later h
  have HSm := hidp hsm
  have hrc := hps.roots.2.1
  have hrcc := hps.roots.2.2.1
  have HRn : Hid (s.rn = s.roots.length) := hps.roots.1
  obtain ⟨W0, hW0⟩ : ∃ W0, w.alloc (.cells #[.slice s.pA s.pn s.pc, .slice s.rA s.rn s.rc] 25) = W0 := ⟨_, rfl⟩
  have HB0 : Hid (Below w.heap.size w W0) := hW0 ▸ (Below.refl _ w).alloc (Nat.le_refl _) _
  have HGp : Hid (W0.heap[w.heap.size]? = some (.cells #[.slice s.pA s.pn s.pc, .slice s.rA s.rn s.rc] 25 (0, 0))) := hW0 ▸ World.alloc_heap_new _ _
  have HW0 := hidp hW0
  clear hW0 hps hsm
  go_enter Try.func49, Try.ntmps49
  have p0 := cell_of_heap (o := 0) HGp.out
  have p1 := cell_of_heap (o := 1) HGp.out
  have lp := lt_of_heap HGp.out
  simp only [List.getElem?_toArray, List.getElem?_cons_zero, List.getElem?_cons_succ] at p0 p1
  go_wp2_with fail
  try rw [HW0.out]
  refine (pgCheck_any s _ (HPs.out _ HB0.out) HSm.out).mono ?_
  rintro e w1 ⟨rfl, hb1⟩
  have HB1 := hidp (HB0.out.trans (hb1.mono HB0.out.size))
  have HGp1 := hidp ((hb1.block _ (lt_of_heap HGp.out)).trans HGp.out)
  clear p0 p1 lp hb1
  have p0 := cell_of_heap (o := 0) HGp1.out
  have p1 := cell_of_heap (o := 1) HGp1.out
  have lp := lt_of_heap HGp1.out
  simp only [List.getElem?_toArray, List.getElem?_cons_zero, List.getElem?_cons_succ] at p0 p1
  obtain ⟨ck, hck⟩ : ∃ b, checkP (psV s) s.roots = b := ⟨_, rfl⟩
  rw [hck]
  have HCk := hidp hck
  clear hck
  cases ck
  · have HV : Hid (verOk s v = false) := by show _ = _; unfold verOk; rw [HCk.out]; rfl
    have HR : Hid (verR s v = 0) := by show _ = _; unfold verR; rw [HV.out]; rfl
    simp only [errP, Bool.false_eq_true, if_false]
    go_wp2_with fail
    go_ret2
    exact ⟨by rw [HR.out, HV.out]; rfl, HB1.out⟩
  simp only [errP, if_true]
  obtain ⟨z0, hz0⟩ : ∃ b, decide (v < 0) = b := ⟨_, rfl⟩
  obtain ⟨z1, hz1⟩ : ∃ b, decide (v ≥ (s.rn : Int)) = b := ⟨_, rfl⟩
  have HZ0 := hidp hz0
  have HZ1 := hidp hz1
  have HV : Hid (verOk s v = (!z0 && !z1)) := by
    show _ = _
    unfold verOk
    rw [HCk.out, ← HRn.out, ← HZ0.out, ← HZ1.out, Bool.eq_iff_iff]
    simp
  have HNo : Hid (verOk s v = false → verR s v = 0) := fun h => by unfold verR; rw [h]; rfl
  cases z0
  rotate_left
  · go_wp2_with fail
    go_ret2
    exact ⟨by rw [HNo.out (by rw [HV.out]; rfl), HV.out]; rfl, HB1.out⟩
  cases z1
  rotate_left
  · go_wp2_with fail
    go_ret2
    exact ⟨by rw [HNo.out (by rw [HV.out]; rfl), HV.out]; rfl, HB1.out⟩
  have hv : 0 ≤ v ∧ v < s.rn := ⟨by have := of_decide_eq_false HZ0.out; omega, by have := of_decide_eq_false HZ1.out; omega⟩
  obtain ⟨vn, rfl⟩ : ∃ n : Nat, v = n := ⟨v.toNat, by omega⟩
  have hvn : vn < s.rn := by omega
  obtain ⟨b, off, r, hA, _, hr, c0⟩ := iSl.get (HPs.out _ HB1.out).roots hvn
  have hix := fun W => ix_intsP (c := s.rc) hA hvn W
  have lb := lt_of_cell c0
  have HR : Hid (verR s vn = r) := by
    show _ = _
    unfold verR
    rw [if_pos (by rw [HV.out]; rfl), Int.toNat_natCast, List.getD_eq_getElem?_getD, hr]; rfl
  clear hr hA
  go_wp2_with fail
  go_ret2
  exact ⟨by rw [HR.out, HV.out]; rfl, HB1.out⟩
/-- The iterator over a version's facts, and its list. -/
theorem allColl_any (s : Ps) (v : Int) (w : World) (hsm : ∀ g ∈ s.gs, g.fn ≤ 1000000 ∧ g.kn ≤ 1000000) (hv : verOk s v = true) (hlen : (allV s v).length ≤ 1000000) (P A : Nat)
    (hP : w.heap[P]? = some (.cells #[.slice s.pA s.pn s.pc, .slice s.rA s.rn s.rc] 25 (0, 0))) (hA : w.heap[A]? = some (.cells #[.int .i64 (verR s v)] 3 (0, 0))) (n₀ : Nat) (hps0 : PsIn s w n₀) (hnP : n₀ ≤ P) (hnA : n₀ ≤ A) :
    Calls Try.prog 50 #[.func (.func 62) #[] #[.pointer (some ⟨P, 0, none⟩), .pointer (some ⟨A, 0, none⟩)]] w (AppFPost (fun xs => xs = allV s v) w) := by
  have h := verOk_page hv
  have he : allV s v = allT (psV s) (verR s v).toNat := by unfold allV; rw [if_pos hv]
  have hA' : w.heap[A]? = some (.cells #[.int .i64 ((verR s v).toNat : Nat)] 3 (0, 0)) := by rw [Int.toNat_of_nonneg h.1]; exact hA
  have hseq := all1_seq s n₀ ((verR s v).toNat + 1) (verR s v).toNat (by omega) h.2.2 P A w hnP hnA hP hA' hps0 hsm
  rw [← he] at hseq
  exact collectF_any 62 _ (enters_of Try.func62 (by kernel_rfl) rfl) (fun xs => xs = allV s v) _ w hseq.toC.toG (fun b hb => by
    rcases hb with hb | rfl | rfl
    · have := lt_of_heap hP; omega
    · exact lt_of_heap hP
    · exact lt_of_heap hA) (fun xs hx => by rw [hx]; exact hlen)
set_option maxRecDepth 100000 in
set_option maxHeartbeats 4000000 in
theorem pgAll_any (s : Ps) (v : Int) (w : World) (hps : PsIn s w w.heap.size) (hsm : ∀ g ∈ s.gs, g.fn ≤ 1000000 ∧ g.kn ≤ 1000000) (hlen : (allV s v).length ≤ 1000000) :
    Calls Try.prog 19 #[.agg #[.slice s.pA s.pn s.pc, .slice s.rA s.rn s.rc], .int .i64 v] w fun e w' => ∃ A n c, e = .returned (.tuple #[.slice A n c, .int .i64 (errP (verOk s v))]) ∧ fSl w' w'.heap.size A n c (allV s v) ∧ Below w.heap.size w w' := by
  have HLen := hidp hlen
  have HPs : Hid (∀ W, Below w.heap.size w W → PsIn s W W.heap.size) := fun W h => hps.later h
  have HSm := hidp hsm
  have hrc := hps.roots.2.1
  have hrcc := hps.roots.2.2.1
  have HRn : Hid (s.rn = s.roots.length) := hps.roots.1
  obtain ⟨W0, hW0⟩ : ∃ W0, w.alloc (.cells #[.slice s.pA s.pn s.pc, .slice s.rA s.rn s.rc] 25) = W0 := ⟨_, rfl⟩
  have HB0 : Hid (Below w.heap.size w W0) := hW0 ▸ (Below.refl _ w).alloc (Nat.le_refl _) _
  have HGp : Hid (W0.heap[w.heap.size]? = some (.cells #[.slice s.pA s.pn s.pc, .slice s.rA s.rn s.rc] 25 (0, 0))) := hW0 ▸ World.alloc_heap_new _ _
  have HW0 := hidp hW0
  clear hW0 hps hsm
  go_enter Try.func19, Try.ntmps19
  have p0 := cell_of_heap (o := 0) HGp.out
  have p1 := cell_of_heap (o := 1) HGp.out
  have lp := lt_of_heap HGp.out
  simp only [List.getElem?_toArray, List.getElem?_cons_zero, List.getElem?_cons_succ] at p0 p1
  go_wp2_with fail
  try rw [HW0.out]
  refine (pgroot_any s v _ (HPs.out _ HB0.out) HSm.out).mono ?_
  rintro e w1 ⟨rfl, hb1⟩
  have HB1 := hidp (HB0.out.trans (hb1.mono HB0.out.size))
  have HGp1 := hidp ((hb1.block _ (lt_of_heap HGp.out)).trans HGp.out)
  clear p0 p1 lp hb1
  have p0 := cell_of_heap (o := 0) HGp1.out
  have p1 := cell_of_heap (o := 1) HGp1.out
  have lp := lt_of_heap HGp1.out
  simp only [List.getElem?_toArray, List.getElem?_cons_zero, List.getElem?_cons_succ] at p0 p1
  obtain ⟨ok, hok⟩ : ∃ b, verOk s v = b := ⟨_, rfl⟩
  rw [hok]
  have HOk := hidp hok
  clear hok
  cases ok
  · have HE : Hid (allV s v = []) := by show _ = _; unfold allV; rw [HOk.out]; rfl
    simp only [errP, Bool.false_eq_true, if_false]
    go_wp2_with fail
    go_ret2
    exact ⟨none, 0, 0, by rw [HOk.out]; rfl, by rw [HE.out]; exact Rows.nil (Nat.zero_le _), HB1.out⟩
  simp only [errP, if_true]
  go_wp2_with fail
  refine (pgall_any s (verR s v) w1).mono ?_
  rintro e w2 ⟨rfl, hP, hA, hb2⟩
  have HB2 := hidp (HB1.out.trans (hb2.mono HB1.out.size))
  have HCo := hidp (allColl_any s v w2 HSm.out HOk.out HLen.out _ _ hP hA w1.heap.size ((HPs.out _ HB1.out).keep (Nat.le_refl _) hb2.block) (Nat.le_refl _) (by omega))
  clear p0 p1 lp hb2 hP hA
  go_wp2_with fail
  refine HCo.out.mono ?_
  rintro e w3 ⟨v3, xs, rfl, rfl, ho, hb3⟩
  obtain ⟨A3, c3, rfl, hr3⟩ := own_rows fEnc_len (by decide) ho
  have HR3 := hidp hr3
  have HB3 := hidp (HB2.out.trans (hb3.mono HB2.out.size))
  clear ho hr3 hb3
  go_wp2_with fail
  go_ret2
  exact ⟨A3, (allV s v).length, c3, by rw [HOk.out]; rfl, HR3.out, HB3.out⟩
end Go.Proofs.Ytpnfpdkoeednhaa

end
section
/- pages.At (printed by tools/gen134.py). -/
namespace Go.Proofs.Ytpnfpdkoeednhaa
open Go.RowKit

set_option maxRecDepth 100000 in
set_option maxHeartbeats 4000000 in
theorem pgAt_any (s : Ps) (v : Int) (k : Ky) (term known : Int) (w : World) (hps : PsIn s w w.heap.size) (hsm : ∀ g ∈ s.gs, g.fn ≤ 1000000 ∧ g.kn ≤ 1000000) (hlen : (allV s v).length ≤ 1000000) :
    Calls Try.prog 25 #[.agg #[.slice s.pA s.pn s.pc, .slice s.rA s.rn s.rc], .int .i64 v, .agg #[.int .i64 k.kind, .int .i64 k.subj, .int .i64 k.obj], .int .i64 term, .int .i64 known] w fun e w' =>
      e = .returned (.tuple #[.int .i64 ((atF (allV s v) k term known).getD 0), .bool (atF (allV s v) k term known).isSome, .int .i64 (errP (verOk s v))]) ∧ Below w.heap.size w w' := by
  have HLen := hidp hlen
  have HPs : Hid (∀ W, Below w.heap.size w W → PsIn s W W.heap.size) := fun W h => hps.later h
  have HSm := hidp hsm
  obtain ⟨W0, hW0⟩ : ∃ W0, (w.alloc (.cells #[.slice s.pA s.pn s.pc, .slice s.rA s.rn s.rc] 25)).alloc (.cells #[.int .i64 k.kind, .int .i64 k.subj, .int .i64 k.obj] 27) = W0 := ⟨_, rfl⟩
  have HB0 : Hid (Below w.heap.size w W0) := hW0 ▸ ((Below.refl _ w).alloc (Nat.le_refl _) _).alloc (by simp) _
  have HGp : Hid (W0.heap[w.heap.size]? = some (.cells #[.slice s.pA s.pn s.pc, .slice s.rA s.rn s.rc] 25 (0, 0))) := hW0 ▸ (Below.heap_alloc _ _ _ (by simp)).trans (World.alloc_heap_new _ _)
  have HGk : Hid (W0.heap[w.heap.size + 1]? = some (.cells #[.int .i64 k.kind, .int .i64 k.subj, .int .i64 k.obj] 27 (0, 0))) := by
    show _ = _
    rw [← hW0]; have := World.alloc_heap_new (w.alloc (.cells #[.slice s.pA s.pn s.pc, .slice s.rA s.rn s.rc] 25)) (.cells #[.int .i64 k.kind, .int .i64 k.subj, .int .i64 k.obj] 27); rwa [World.size_alloc] at this
  have HW0 := hidp hW0
  clear hW0 hps hsm hlen
  go_enter Try.func25, Try.ntmps25
  have p0 := cell_of_heap (o := 0) HGp.out
  have p1 := cell_of_heap (o := 1) HGp.out
  have lp := lt_of_heap HGp.out
  simp only [List.getElem?_toArray, List.getElem?_cons_zero, List.getElem?_cons_succ] at p0 p1
  go_wp2_with fail
  try rw [HW0.out]
  refine (pgroot_any s v _ (HPs.out _ HB0.out) HSm.out).mono ?_
  rintro e w1 ⟨rfl, hb1⟩
  have HB1 := hidp (HB0.out.trans (hb1.mono HB0.out.size))
  have HGp1 := hidp ((hb1.block _ (lt_of_heap HGp.out)).trans HGp.out)
  have HGk1 := hidp ((hb1.block _ (lt_of_heap HGk.out)).trans HGk.out)
  clear p0 p1 lp hb1
  have p0 := cell_of_heap (o := 0) HGp1.out
  have p1 := cell_of_heap (o := 1) HGp1.out
  have lp := lt_of_heap HGp1.out
  simp only [List.getElem?_toArray, List.getElem?_cons_zero, List.getElem?_cons_succ] at p0 p1
  have k0 := cell_of_heap (o := 0) HGk1.out
  have k1 := cell_of_heap (o := 1) HGk1.out
  have k2 := cell_of_heap (o := 2) HGk1.out
  have lk := lt_of_heap HGk1.out
  simp only [List.getElem?_toArray, List.getElem?_cons_zero, List.getElem?_cons_succ] at k0 k1 k2
  obtain ⟨ok, hok⟩ : ∃ b, verOk s v = b := ⟨_, rfl⟩
  rw [hok]
  have HOk := hidp hok
  clear hok
  cases ok
  · have HE : Hid (allV s v = []) := by show _ = _; unfold allV; rw [HOk.out]; rfl
    have HAt : Hid (atF [] k term known = none) := by show _ = _; rfl
    simp only [errP, Bool.false_eq_true, if_false]
    go_wp2_with fail
    go_ret3
    exact ⟨by rw [HOk.out, HE.out, HAt.out]; rfl, HB1.out⟩
  simp only [errP, if_true]
  obtain ⟨at1, hat1⟩ : ∃ z, atF (allV s v) k term known = z := ⟨_, rfl⟩
  have HAt := hidp hat1
  clear hat1
  have HW1 : Hid (∀ W, Below w1.heap.size w1 W → Below w.heap.size w W) := fun W h => HB1.out.trans (h.mono HB1.out.size)
  go_wp2_with fail
  refine wp_region_S w1.heap.size 13 (fun _ => false) (Nat.le_refl _) (by kernel_rfl) (by kernel_rfl) (by kernel_rfl) ?_
  dsimp only [List.take, List.drop]
  apply relS_det (mask := []) (x := .agg #[.slice s.pA s.pn s.pc, .slice s.rA s.rn s.rc])
  · rfl
  · kernel_rfl
  · kernel_rfl
  · dsimp only [oblS]
    rintro w9 h9
    have hc9 := (bcell h9).1
    go_simp
    exact ⟨Below.refl _ _, rfl⟩
  dsimp only [List.nil_append, List.cons_append]
  apply relS_det (mask := [false]) (x := .int .i64 (verR s v))
  · rfl
  · kernel_rfl
  · kernel_rfl
  · dsimp only [oblS]
    rintro w9 h9
    go_simp
    exact ⟨Below.refl _ _, rfl⟩
  dsimp only [List.nil_append, List.cons_append]
  apply relS_any (mask := [true, true]) (T := fun u W' => ∃ P2 A2, u = .func (.func 62) #[] #[.pointer (some ⟨P2, 0, none⟩), .pointer (some ⟨A2, 0, none⟩)] ∧ w1.heap.size ≤ P2 ∧ w1.heap.size ≤ A2 ∧ W'.heap[P2]? = some (.cells #[.slice s.pA s.pn s.pc, .slice s.rA s.rn s.rc] 25 (0, 0)) ∧ W'.heap[A2]? = some (.cells #[.int .i64 (verR s v)] 3 (0, 0))) (hT := fun v w w' hb ⟨P2, A2, e, h1, h2, h3, h4⟩ => ⟨P2, A2, e, h1, h2, (hb.block _ (lt_of_heap h3)).trans h3, (hb.block _ (lt_of_heap h4)).trans h4⟩)
  · rfl
  · kernel_rfl
  · kernel_rfl
  · dsimp only [oblS]
    rintro w9 h9 T' hT'
    go_simp
    refine (pgall_any s (verR s v) w9).mono ?_
    rintro e w7 ⟨rfl, h1, h2, hb7⟩
    exact ⟨_, rfl, hb7, hT' _ _ ⟨_, _, rfl, h9.size, by have := h9.size; omega, h1, h2⟩⟩
  dsimp only [List.nil_append, List.cons_append]
  apply relS_any (mask := [false, false, true]) (T := fun u W' => ∃ A n c, u = .slice A n c ∧ fSl W' W'.heap.size A n c (allV s v)) (hT := fun v w w' hb ⟨A, n, c, e, h⟩ => ⟨A, n, c, e, h.keep (Rep.flat_stable _) hb.size hb.block⟩)
  · rfl
  · kernel_rfl
  · kernel_rfl
  · dsimp only [oblS]
    intro v26
    rintro w9 ⟨h9, t26⟩ T' hT'
    obtain ⟨P2, A2, e26, h1, h2, h3, h4⟩ := t26
    subst e26
    go_simp
    refine (allColl_any s v w9 HSm.out HOk.out HLen.out P2 A2 h3 h4 w1.heap.size ((HPs.out _ HB1.out).keep (Nat.le_refl _) h9.block) h1 h2).mono ?_
    rintro e w7 ⟨u7, xs, rfl, rfl, ho, hb7⟩
    obtain ⟨A7, c7, rfl, hr7⟩ := own_rows fEnc_len (by decide) ho
    exact ⟨_, rfl, hb7, hT' _ _ ⟨_, _, _, rfl, hr7⟩⟩
  dsimp only [List.nil_append, List.cons_append]
  apply relS_det (mask := [false, false, false, false]) (x := .agg #[.int .i64 k.kind, .int .i64 k.subj, .int .i64 k.obj])
  · rfl
  · kernel_rfl
  · kernel_rfl
  · dsimp only [oblS]
    rintro w9 h9
    have hc9 := (bcell h9).1
    go_simp
    exact ⟨Below.refl _ _, rfl⟩
  dsimp only [List.nil_append, List.cons_append]
  apply relS_det (mask := [false, false, false, false, false])
  · rfl
  · kernel_rfl
  · kernel_rfl
  · dsimp only [oblS]
    rintro w9 h9
    go_simp
    exact ⟨Below.refl _ _, rfl⟩
  dsimp only [List.nil_append, List.cons_append]
  apply relS_det (mask := [false, false, false, false, false, false])
  · rfl
  · kernel_rfl
  · kernel_rfl
  · dsimp only [oblS]
    rintro w9 h9
    go_simp
    exact ⟨Below.refl _ _, rfl⟩
  dsimp only [List.nil_append, List.cons_append]
  apply relS_det (mask := [false, false, false, true, true, true, true]) (x := .tuple #[.int .i64 (at1.getD 0), .bool at1.isSome])
  · rfl
  · kernel_rfl
  · kernel_rfl
  · dsimp only [oblS]
    intro v27
    rintro w9 ⟨h9, t27⟩
    obtain ⟨A7, n7, c7, e27, h27⟩ := t27
    subst e27
    go_simp
    refine (fAt_any A7 n7 c7 (allV s v) k term known w9 h27).mono ?_
    rintro e w7 ⟨rfl, hb7⟩
    exact ⟨_, rfl, hb7, by rw [HAt.out]; rfl⟩
  dsimp only [List.nil_append, List.cons_append]
  apply relS_det (mask := [false, false, false, false, false, false, false, true]) (x := .tuple #[.int .i64 (at1.getD 0), .bool at1.isSome])
  · rfl
  · kernel_rfl
  · kernel_rfl
  · dsimp only [oblS]
    rintro w9 h9
    go_simp
    exact ⟨Below.refl _ _, rfl⟩
  dsimp only [List.nil_append, List.cons_append]
  apply relS_det (mask := [false, false, false, false, false, false, false, false, true]) (x := .int .i64 (at1.getD 0))
  · rfl
  · kernel_rfl
  · kernel_rfl
  · dsimp only [oblS]
    rintro w9 h9
    go_simp
    exact ⟨Below.refl _ _, rfl⟩
  dsimp only [List.nil_append, List.cons_append]
  apply relS_det (mask := [false, false, false, false, false, false, false, false, true, false]) (x := .bool at1.isSome)
  · rfl
  · kernel_rfl
  · kernel_rfl
  · dsimp only [oblS]
    rintro w9 h9
    go_simp
    exact ⟨Below.refl _ _, rfl⟩
  dsimp only [List.nil_append, List.cons_append]
  apply relS_det (mask := [false, false, false, false, false, false, false, false, false, true, false]) (x := .int .i64 (at1.getD 0))
  · rfl
  · kernel_rfl
  · kernel_rfl
  · dsimp only [oblS]
    rintro w9 h9
    go_simp
    exact ⟨Below.refl _ _, rfl⟩
  dsimp only [List.nil_append, List.cons_append]
  apply relS_det (mask := [false, false, false, false, false, false, false, false, false, false, true, false]) (x := .bool at1.isSome)
  · rfl
  · kernel_rfl
  · kernel_rfl
  · dsimp only [oblS]
    rintro w9 h9
    go_simp
    exact ⟨Below.refl _ _, rfl⟩
  dsimp only [List.nil_append, List.cons_append]
  refine relS_end (by rfl) ?_
  dsimp only [finS]
  rintro v26 v27 w8 ⟨⟨hb8, _⟩, _⟩
  have HB8 := hidp (HW1.out _ hb8)
  clear p0 p1 lp k0 k1 k2 lk hb8
  go_simp
  go_wp2_with fail
  go_ret3
  exact ⟨by rw [HOk.out, HAt.out]; rfl, HB8.out⟩
end Go.Proofs.Ytpnfpdkoeednhaa

end
section
/- pages.Reach's walk: the pages below a page. -/
namespace Go.Proofs.Ytpnfpdkoeednhaa
open Go.RowKit
theorem run_store_fnR {P : Program} {w : World} {a : Addr} {f : Fn} {fr cs : Array Value} {m : Mode} : (store a (.func f fr cs) m).run P w = stored P w a (.func f fr cs) m := run_store P w a _ m rfl
attribute [local go_sem] run_store_fnR

/-- The pages below a page, as they are met. -/
def reachG (ps : List Pv) : Nat → Nat → List Int
  | 0, _ => []
  | n + 1, p =>
    match ps[p]? with
    | none => []
    | some g => (p : Int) :: g.kids.flatMap fun (kid : Int) => if 0 ≤ kid ∧ kid < p then reachG ps n kid.toNat else []
theorem reachG_fuel (ps : List Pv) : ∀ n m p : Nat, p < n → p < m → reachG ps n p = reachG ps m p
  | 0, _, _, h, _ => by omega
  | _ + 1, 0, _, _, h => by omega
  | n + 1, m + 1, p, _, _ => by
    unfold reachG
    split
    · rfl
    · rename_i g _
      congr 2
      funext kid
      split
      · rename_i h
        exact reachG_fuel ps n m _ (by omega) (by omega)
      · rfl
def reachT (ps : List Pv) (p : Nat) : List Int := reachG ps (p + 1) p
def reachK (ps : List Pv) (p : Nat) (kid : Int) : List Int := if 0 ≤ kid ∧ kid < p then reachT ps kid.toNat else []
theorem reachT_eq {ps : List Pv} {p : Nat} {g : Pv} (hg : ps[p]? = some g) : reachT ps p = (p : Int) :: g.kids.flatMap (reachK ps p) := by
  unfold reachT reachG
  rw [hg]
  dsimp only
  congr 2
  funext kid
  unfold reachK
  split
  · rename_i h
    exact reachG_fuel ps _ _ _ (by omega) (by omega)
  · rfl
/-- The boxes of pages.Reach. -/
structure ReachB (s : Ps) (R P V : Nat) (w : World) : Prop where
  p : w.heap[P]? = some (.cells #[.slice s.pA s.pn s.pc, .slice s.rA s.rn s.rc] 25 (0, 0))
  v : w.heap[V]? = some (.cells #[.func (.func 51) #[] #[.pointer (some ⟨R, 0, none⟩), .pointer (some ⟨P, 0, none⟩), .pointer (some ⟨V, 0, none⟩)]] 92 (0, 0))
  ne : P ≠ R ∧ V ≠ R
theorem ReachB.kept {s : Ps} {R P V base : Nat} {w w' : World} (h : ReachB s R P V w) (hP : P < base) (hV : V < base) (hk : Kept (fun b => b = R ∨ base ≤ b) w w') : ReachB s R P V w' :=
  ⟨(hk.block _ (lt_of_heap h.p) (by have := h.ne.1; omega)).trans h.p, (hk.block _ (lt_of_heap h.v) (by have := h.ne.2; omega)).trans h.v, h.ne⟩
/-- The pages so far, in their box. -/
structure ReachS (R base : Nat) (xs : List Int) (w : World) : Prop where
  ex : ∃ A c, w.heap[R]? = some (.cells #[.slice A xs.length c] 23 (0, 0)) ∧ w.ownsRow base 3 1 (.slice A xs.length c) xs.length (xs.flatMap iEnc)
theorem flatMap_take_le {α β : Type} (f : α → List β) (l : List α) (n : Nat) : ((l.take n).flatMap f).length ≤ (l.flatMap f).length := by
  conv => rhs; rw [← List.take_append_drop n l, List.flatMap_append, List.length_append]
  omega
theorem reachK_nat {ps : List Pv} {q kn : Nat} (h : kn < q) : reachK ps q (kn : Int) = reachT ps kn := by
  unfold reachK; rw [if_pos (by omega)]; simp
set_option maxRecDepth 100000 in
set_option maxHeartbeats 4000000 in
theorem reach1_any (s : Ps) (n₀ base R P V : Nat) (hP : P < base) (hV : V < base) (hR : R < base) (hn : n₀ ≤ R) (hsm : ∀ g ∈ s.gs, g.fn ≤ 1000000 ∧ g.kn ≤ 1000000) : ∀ (k q : Nat), q < k → OkT (psV s) q → ∀ (xs : List Int) (w : World), ReachB s R P V w → ReachS R base xs w → PsIn s w n₀ → base ≤ w.heap.size → xs.length + (reachT (psV s) q).length ≤ 1000000 →
    Calls Try.prog 51 #[.int .i64 q, .pointer (some ⟨R, 0, none⟩), .pointer (some ⟨P, 0, none⟩), .pointer (some ⟨V, 0, none⟩)] w fun e w' => e = .returned (.tuple #[]) ∧ ReachS R base (xs ++ reachT (psV s) q) w' ∧ Kept (fun b => b = R ∨ base ≤ b) w w' := by
  obtain ⟨i0, hi, hz, hss, hbb⟩ := info_parts iInfo
  intro k
  induction k with
  | zero => intro q hq; omega
  | succ k ih =>
  intro q hqk hokt xs w hbox hrs hps hbw hlen
  have HIH := hidp ih
  obtain ⟨gv, hgv, hkids⟩ := hokt.page
  obtain ⟨g, hg, rfl⟩ : ∃ g, s.gs[q]? = some g ∧ gv = pgV g := by
    unfold psV at hgv
    rw [List.getElem?_map] at hgv
    cases hg : s.gs[q]? with
    | none => rw [hg] at hgv; cases hgv
    | some g => rw [hg] at hgv; exact ⟨g, rfl, by cases hgv; rfl⟩
  have HRT : Hid (reachT (psV s) q = (q : Int) :: g.kids.flatMap (reachK (psV s) q)) := reachT_eq hgv
  obtain ⟨A, c, hbR, hown⟩ := hrs.ex
  have hlR := lt_of_heap hbR
  have hlo := fun b hb => hown.lt b hb
  obtain ⟨v5, w5, hrun, hown5, hg5, hat5⟩ := run_append_one (P := Try.prog) (ty := 23) (l := xs) (enc := iEnc) (w := w) (base := base) Try.underlying23 hi hz hss hbb rfl iEnc_len (by decide) iEnc_one hown (q : Int) (by rw [HRT.out] at hlen; simp at hlen; omega) (by rw [HRT.out] at hlen; simp at hlen; omega) hbw
  obtain ⟨A5, c5, rfl, _⟩ := own_rows iEnc_len (by decide) hown5
  have hk5 : Kept (fun b => b = R ∨ base ≤ b) w w5 := ((Kept.refl (fun b => b = R ∨ base ≤ b) w).alloc _).grown hg5 fun r e => .inl (.inr (hlo r e).1)
  have hR5 : w5.heap[R]? = some (.cells #[.slice A xs.length c] 23 (0, 0)) := (hg5.block _ (by simp; omega) (fun e => by have := (hlo R e.symm).1; omega)).trans ((Below.heap_alloc _ _ _ hlR).trans hbR)
  have hk6 : Kept (fun b => b = R ∨ base ≤ b) w (w5.setCell ⟨R, 0, none⟩ (.slice A5 (xs.length + 1) c5)) := hk5.setCell (p := ⟨R, 0, none⟩) (.inl (.inl rfl)) _
  have hS6 : ReachS R base (xs ++ [(q : Int)]) (w5.setCell ⟨R, 0, none⟩ (.slice A5 (xs.length + 1) c5)) := ⟨A5, c5, by rw [List.length_append]; exact heap_set1 hR5 _, by
    rw [List.length_append]
    exact own_keepB hown5 fun g hg => heap_set_ne rfl (by have := (hown5.lt g hg).1; omega) _ _⟩
  have HBk : Hid (∀ W, Kept (fun b => b = R ∨ base ≤ b) w W → ReachB s R P V W) := fun W hk => hbox.kept hP hV hk
  have HPs : Hid (∀ W, Kept (fun b => b = R ∨ base ≤ b) w W → PsIn s W n₀) := fun W hk => hps.keep (Nat.le_refl _) fun b hb => hk.block b (by omega) (by omega)
  have HK6 := hidp hk6
  have HS6 := hidp hS6
  have HRun := hidp hrun
  have HPn : Hid (s.pn = s.gs.length) := hps.pages.1
  have HKids := hidp hkids
  have HLen := hidp hlen
  have HGv := hidp hgv
  have HGg := hidp hg
  have HBw := hidp hbw
  have HSm : Hid (g.kn ≤ 1000000) := (hsm g (List.mem_of_getElem? hg)).2
  have HKn : Hid (g.kn = g.kids.length) := (hps.each g (List.mem_of_getElem? hg)).2.1
  have hqn : q < s.pn := by rw [hps.pages.1]; exact (List.getElem?_eq_some_iff.1 hg).1
  have hpc := hps.pages.2.1
  have hpcc := hps.pages.2.2.1
  have hgb := (hbox.kept hP hV hk6).p
  have lp6 := lt_of_heap hgb
  have cp6 := cell_of_heap (o := 0) hgb
  obtain ⟨bp, op, g', hpA, _, hg', _, k1⟩ := pgSl.get (hps.keep (Nat.le_refl _) fun b hb => hk6.block b (by omega) (by omega)).pages hqn
  obtain rfl : g' = g := by rw [hg] at hg'; exact (Option.some.inj hg').symm
  have hixp := fun W => ix_Pages (c := s.pc) hpA hqn W
  have lk1 := lt_of_cell k1
  have hcR := cell_of_heap (o := 0) hbR
  have hcR5 := cell_of_heap (o := 0) hR5
  have hzR5 := frozen_of_heap (o := 0) hR5
  have hl5 := lt_of_heap hR5
  simp only [List.getElem?_toArray, List.getElem?_cons_zero] at hcR hcR5 cp6
  clear hS6 hk6 hk5 hbR hR5 hown hown5 hg5 hat5 hlo hrs hps hbox ih hgv hkids hg hg' hbw hlen hokt hgb hpA hrun hsm
  go_enter Try.func51, Try.ntmps51
  go_wp2_with (at_builtin; refine wpList_append_known rfl (.tmp 7) (.tmp 9) 23 rfl rfl rfl HRun.out ?_)
  clear lp6 cp6 k1 hixp lk1 hcR hcR5 hzR5 hl5 hqn hpc hpcc
  obtain ⟨W6, hW6⟩ : ∃ W6, w5.setCell ⟨R, 0, none⟩ (.slice A5 (xs.length + 1) c5) = W6 := ⟨_, rfl⟩
  rw [hW6] at HK6 HS6 ⊢
  have HSum : Hid (∀ j, (xs ++ [(q : Int)] ++ (g'.kids.take j).flatMap (reachK (psV s) q)).length ≤ 1000000) := by
    intro j
    have h1 := HLen.out
    have h2 := flatMap_take_le (reachK (psV s) q) g'.kids j
    rw [HRT.out] at h1
    simp only [List.length_append, List.length_cons, List.length_nil] at h1 ⊢
    omega
  clear hW6 HRun
  go_loopw [6, 18] (fun kv i wr => ∃ (j : Nat) (v6 : Value), j ≤ g'.kn ∧ i = .int .i64 j ∧ kv = v6 ∧ ReachS R base (xs ++ [(q : Int)] ++ (g'.kids.take j).flatMap (reachK (psV s) q)) wr ∧ Kept (fun b => b = R ∨ base ≤ b) w wr) (fun _ i _ => g'.kn - (intOf i).toNat)
  case atStart => exact ⟨0, _, by omega, rfl, rfl, by rw [List.take_zero, List.flatMap_nil, List.append_nil]; exact HS6.out, HK6.out⟩
  case round =>
  obtain ⟨j, v6, hj, rfl, rfl, hrs, hkr⟩ := hrel
  have HRs := hidp hrs
  have HKr := hidp hkr
  clear hrs hkr
  by_cases hjn : j < g'.kn
  · have hjn' : (j : Int) < g'.kn := by omega
    obtain ⟨kn, hkd, hknq, hok⟩ : ∃ kn : Nat, g'.kids[j]? = some (kn : Int) ∧ kn < q ∧ OkT (psV s) kn := by
      have hjl : j < g'.kids.length := by rw [← HKn.out]; exact hjn
      rcases HKids.out with h | h
      · exact absurd (show g'.kids.length = 0 from h) (by omega)
      · exact h.2 j hjl
    obtain ⟨bk, ok, kid, hkA, _, hkid, k0⟩ := iSl.get ((HPs.out wr HKr.out).each g' (List.mem_of_getElem? HGg.out)).2 hjn
    obtain rfl : kid = (kn : Int) := by rw [hkd] at hkid; exact (Option.some.inj hkid).symm
    have hixk := fun W => ix_intsP (c := g'.kc) hkA hjn W
    have lk0 := lt_of_cell k0
    have hgv := (HBk.out wr HKr.out).v
    have cv := cell_of_heap (o := 0) hgv
    have lv := lt_of_heap hgv
    simp only [List.getElem?_toArray, List.getElem?_cons_zero] at cv
    have HKd := hidp hkd
    have HOk := hidp hok
    have HT : Hid (xs ++ [(q : Int)] ++ (g'.kids.take j).flatMap (reachK (psV s) q) ++ reachT (psV s) kn = xs ++ [(q : Int)] ++ (g'.kids.take (j + 1)).flatMap (reachK (psV s) q)) := by
      show _ = _
      rw [take_snoc HKd.out, List.flatMap_append, List.flatMap_cons, List.flatMap_nil, List.append_nil, reachK_nat hknq, List.append_assoc]
    have HL : Hid ((xs ++ [(q : Int)] ++ (g'.kids.take j).flatMap (reachK (psV s) q)).length + (reachT (psV s) kn).length ≤ 1000000) := by
      have h := HSum.out (j + 1)
      rw [← HT.out, List.length_append] at h
      exact h
    clear hkd hok hkid hgv hkA
    have hgk : g'.kn ≤ 1000000 := HSm.out
    go_wp2_with fail
    refine (HIH.out kn (by omega) HOk.out _ wr (HBk.out wr HKr.out) HRs.out (HPs.out wr HKr.out) (by have := HBw.out; have := HKr.out.size; omega) HL.out).mono ?_
    rintro e w7 ⟨rfl, hrs7, hk7⟩
    have HRs7 := hidp hrs7
    have HK7 := hidp (HKr.out.trans hk7)
    clear hrs7 hk7 cv lv k0 lk0 hixk
    go_wp2_with fail
    go_roundw
    case rel => exact ⟨j + 1, _, by omega, by go_num, rfl, by rw [← HT.out]; exact HRs7.out, HK7.out⟩
    case measure => simp [intOf]; omega
  have hje : j = g'.kn := by omega
  subst hje
  have hjn' : ¬ ((g'.kn : Int) < g'.kn) := by omega
  have HEnd : Hid (xs ++ [(q : Int)] ++ (g'.kids.take g'.kn).flatMap (reachK (psV s) q) = xs ++ reachT (psV s) q) := by
    show _ = _
    rw [HKn.out, List.take_length, HRT.out, List.append_assoc, List.singleton_append]
  clear hjn hj
  go_wp2_with fail
  go_end0
  exact ⟨rfl, by rw [← HEnd.out]; exact HRs.out, HKr.out⟩
end Go.Proofs.Ytpnfpdkoeednhaa

end

