/- facts.Alike and facts.Upto walked, and the reference's. -/
import Derived.Test.YtoalmffhiinbbaaF18
import Derived.Test.YtoalmffhiinbbaaF6
import Derived.Test.YtoalmffhiinbbaaF10
namespace Go.Proofs.Ytoalmffhiinbbaa
open Go.RowKit Go.Shelf

abbrev Rd := Ky × Int × Int
def rdEnc (r : Rd) : List Value := [.int .i64 r.1.kind, .int .i64 r.1.subj, .int .i64 r.1.obj, .int .i64 r.2.1, .int .i64 r.2.2]
theorem rdEnc_len (x : Rd) : (rdEnc x).length = 5 := rfl
abbrev RdSl := Rows 5 (Rep.flat rdEnc)
theorem rdStable : (Rep.flat rdEnc).Stable := Rep.flat_stable _
theorem RdSl.get {n₀ n c k : Nat} {A : Option Addr} {l : List Rd} {W : World} (h : RdSl W n₀ A n c l) (hk : k < n) :
    ∃ b off m, A = some ⟨b, off, none⟩ ∧ b < n₀ ∧ l[k]? = some m ∧ W.cell? ⟨b, off + k * 5, none⟩ = some (.int .i64 m.1.kind) ∧ W.cell? ⟨b, off + k * 5 + 1, none⟩ = some (.int .i64 m.1.subj) ∧ W.cell? ⟨b, off + k * 5 + 2, none⟩ = some (.int .i64 m.1.obj) ∧ W.cell? ⟨b, off + k * 5 + 3, none⟩ = some (.int .i64 m.2.1) ∧ W.cell? ⟨b, off + k * 5 + 4, none⟩ = some (.int .i64 m.2.2) := by
  obtain ⟨b, off, m, cs, e, hlt, hk', rfl, hc⟩ := Rows.get h hk
  exact ⟨b, off, m, e, hlt, hk', hc 0 _ rfl, hc 1 _ rfl, hc 2 _ rfl, hc 3 _ rfl, hc 4 _ rfl⟩

set_option maxRecDepth 100000 in
set_option maxHeartbeats 400000 in
theorem fUpto1_any (bk : Nat) (known : Int) (a : Fc) (W : World) (hk : W.heap[bk]? = some (.cells #[.int .i64 known] 3 (0, 0))) :
    Calls Try.prog 48 #[.agg #[.int .i64 a.key.kind, .int .i64 a.key.subj, .int .i64 a.key.obj, .int .i64 a.val, .int .i64 a.fr, .int .i64 a.to, .int .i64 a.known, .int .i64 a.no], .pointer (some ⟨bk, 0, none⟩)] W fun e w' => e = .returned (.bool (decide (known < a.known))) ∧ Below W.heap.size W w' := by
  have c1 := cell_of_heap (o := 0) hk
  have h1 := lt_of_heap hk
  simp only [List.getElem?_toArray, List.getElem?_cons_zero] at c1
  go_enter Try.func48, Try.ntmps48
  go_wp2_with fail
  go_ret
  exact ⟨rfl, (Below.refl _ _).alloc (Nat.le_refl _) _⟩

/-- What Upto hands back. -/
def UptoPost (l : List Fc) (known : Int) (w : World) (e : Ending) (w' : World) : Prop := ∃ A n c, e = .returned (.slice A n c) ∧ fSl w' w'.heap.size A n c (uptoF l known) ∧ Below w.heap.size w w'
theorem uptoF_eq (l : List Fc) (known : Int) : (l.filter fun f => !decide (known < f.known)) = uptoF l known := by
  unfold uptoF
  congr 1
  funext f
  by_cases h : f.known ≤ known
  · have : ¬ known < f.known := by omega
    simp [h, this]
  · have : known < f.known := by omega
    simp [h, this]
set_option maxRecDepth 100000 in
set_option maxHeartbeats 1000000 in
theorem fIndex_nil (fv : Value) (w : World) : Calls Try.prog 52 #[.slice none 0 0, fv] w fun e w' => e = .returned (.int .i64 (-1)) ∧ Below w.heap.size w w' := by
  go_enter Try.func52, Try.ntmps52
  go_wp2_with fail
  go_loopw [5, 8] (fun _ i wr => i = .int .i64 0 ∧ Below w.heap.size w wr) (fun _ _ _ => 0)
  case atStart => exact ⟨rfl, Below.refl _ _⟩
  case round =>
    obtain ⟨rfl, hbe⟩ := hrel
    go_wp2_with fail
    go_ret
    exact ⟨rfl, hbe⟩
set_option maxRecDepth 100000 in
set_option maxHeartbeats 1000000 in
theorem fDelete_nil (fv : Value) (w : World) : Calls Try.prog 46 #[.slice none 0 0, fv] w fun e w' => e = .returned (.slice none 0 0) ∧ Below w.heap.size w w' := by
  go_enter Try.func46, Try.ntmps46
  go_wp2_with fail
  refine (fIndex_nil fv w).mono ?_
  rintro e w1 ⟨rfl, hb1⟩
  go_wp2_with fail
  go_ret
  exact ⟨rfl, hb1⟩
set_option maxRecDepth 100000 in
set_option maxHeartbeats 1000000 in
theorem fUpto_any (A : Option Addr) (n c : Nat) (l : List Fc) (known : Int) (w : World) (hl : fSl w w.heap.size A n c l) (hn : n ≤ 1000000) :
    Calls Try.prog 28 #[.slice A n c, .int .i64 known] w (UptoPost l known w) := by
  have hB0 : Below w.heap.size w (w.alloc (.cells #[.int .i64 known] 3)) := (Below.refl _ w).alloc (Nat.le_refl _) _
  have hkey := World.alloc_heap_new w (.cells #[.int .i64 known] 3)
  have HB0 := hidp hB0
  have HKey := hidp hkey
  clear hB0 hkey
  rcases A with _ | ad
  · have hn0 : n = 0 := by
      rcases Nat.eq_zero_or_pos n with h | h
      · exact h
      · obtain ⟨_, _, he, _⟩ := hl.2.2.2 h
        cases he
    subst hn0
    have hl0 : l = [] := List.eq_nil_of_length_eq_zero hl.1.symm
    go_enter Try.func28, Try.ntmps28
    go_wp2_with fail
    refine (fClone_any none 0 c l _ (hl.keep fStable (by simp) (fun b hb => Below.heap_alloc _ _ _ hb)) (by omega)).mono ?_
    rintro e w2 ⟨v, rfl, hown, hvn, _, hb2⟩
    obtain rfl := hvn rfl
    have hB2 := HB0.out.trans (hb2.mono (by simp))
    clear hl0
    go_wp2_with fail
    refine (fDelete_nil _ _).mono ?_
    rintro e w3 ⟨rfl, hb3⟩
    go_wp2_with fail
    go_ret
    have hl0 : l = [] := List.eq_nil_of_length_eq_zero hl.1.symm
    exact ⟨none, 0, 0, rfl, by rw [hl0]; exact Rows.nil (by decide), hB2.trans (hb3.mono hB2.size)⟩
  · go_enter Try.func28, Try.ntmps28
    go_wp2_with fail
    refine (fClone_any (some ad) n c l _ (hl.keep fStable (by simp) (fun b hb => Below.heap_alloc _ _ _ hb)) (by omega)).mono ?_
    rintro e w2 ⟨v, rfl, hown, _, hvs, hb2⟩
    obtain ⟨G, c', rfl⟩ := hvs (by simp)
    have hB2 := HB0.out.trans (hb2.mono (by simp))
    have hk2 := (hb2.block _ (by simp)).trans HKey.out
    have HK2 := hidp hk2
    have hbl : (w.alloc (.cells #[.int .i64 known] 3)).heap.size ≤ w2.heap.size := hb2.size
    go_wp2_with fail
    refine (fDelete_any 48 #[] #[.pointer (some ⟨w.heap.size, 0, none⟩)] (fun f => decide (known < f.known)) (w.alloc (.cells #[.int .i64 known] 3)).heap.size n c' G l w2 hown hbl (enters_of Try.func48 (by kernel_rfl) rfl) (fun m W hW => fUpto1_any w.heap.size known m W ((hW.block _ (by simp)).trans HK2.out))).mono ?_
    rintro e w3 ⟨k, rfl, hown3, hb3⟩
    rw [uptoF_eq] at hown3
    obtain ⟨A3, c3, hv3, r3⟩ := own_rows fEnc_len (by decide) hown3
    have hB3 := hB2.trans (hb3.mono (by simp))
    injection hv3 with e1 e2 e3
    subst e1 e3
    go_wp2_with fail
    go_ret
    exact ⟨_, k, _, rfl, r3, hB3⟩

set_option maxRecDepth 100000 in
set_option maxHeartbeats 2000000 in
theorem rUpto_any (A : Option Addr) (n c : Nat) (l : List Fc) (known : Int) (w : World) (hl : fSl w w.heap.size A n c l) (hn : n ≤ 1000000) :
    Calls Try.prog 29 #[.slice A n c, .int .i64 known] w (UptoPost l known w) := by
  obtain ⟨i0, hi, hz, hs, hbb⟩ := info_parts fInfo
  have HN := hidp hl.1
  have hcap := hl.2.2.1
  have hlen := hl.2.1
  have hown0 := World.ownsRow_made (base := w.heap.size) (e := 28) (size := 8) w #[] 0 (Nat.le_refl _) (by decide) (by simp)
  have hB1 : Below w.heap.size w (w.alloc (.cells #[] 28)) := (Below.refl _ w).alloc (Nat.le_refl _) _
  have HOwn := hidp hown0
  have HB1 := hidp hB1
  clear hown0 hB1
  go_enter Try.func29, Try.ntmps29
  go_wp2_with fail
  go_loopw [5, 6] (fun p i wr => ∃ k m : Nat, k ≤ n ∧ i = .int .i64 k ∧ m ≤ k ∧ wr.ownsRow w.heap.size 28 8 p m ((uptoF (l.take k) known).flatMap fEnc) ∧ Below w.heap.size w wr) (fun _ i _ => n - (intOf i).toNat)
  case atStart => exact ⟨0, 0, by omega, rfl, by omega, HOwn.out, HB1.out⟩
  case round =>
    obtain ⟨k, m, hk, rfl, hmk, hown, hbe⟩ := hrel
    have HO := hidp hown
    clear hown
    by_cases hlt : k < n
    · obtain ⟨b, off, x, rfl, hb, hzx, c0, c1, c2, c3, c4, c5, c6, c7⟩ := fSl.get (hl.below fStable hbe) hlt
      have HX := hidp hzx
      clear hzx
      have hwb := lt_of_cell c0
      by_cases hv : x.known ≤ known
      · have HU : Hid (uptoF (l.take (k + 1)) known = uptoF (l.take k) known ++ [x]) := by
          show _ = _; rw [take_snoc HX.out, uptoF, uptoF, List.filter_append]; simp [hv]
        obtain ⟨v', w5, hrun, hown', hg, hat⟩ := run_append_one (P := Try.prog) (ty := 22) (l := uptoF (l.take k) known) (enc := fEnc) (w := wr) (base := w.heap.size) Try.underlying22 hi hz hs hbb rfl fEnc_len (by decide) fEnc_one HO.out x (by omega) (by omega) hbe.size
        have HO' := hidp hown'
        have HR0 := hidp hrun
        have hb5 : Below w.heap.size w w5 := (hbe.alloc hbe.size _).grown hg (by have := hbe.size; simp; omega) (fun g e => (HO.out.lt g e).1)
        clear hown' hg hat hrun
        go_wp2_with (at_builtin; refine wpList_append_known rfl (.tmp 21) (.tmp 26) 22 rfl rfl rfl HR0.out ?_)
        go_roundw
        case rel => exact ⟨k + 1, m + 1, by omega, by go_num, by omega, by rw [HU.out]; exact HO'.out, hb5⟩
        case measure => simp [intOf]; omega
      · have HU : Hid (uptoF (l.take (k + 1)) known = uptoF (l.take k) known) := by
          show _ = _; rw [take_snoc HX.out, uptoF, uptoF, List.filter_append]; simp [hv]
        go_wp2_with fail
        go_roundw
        case rel => exact ⟨k + 1, m, by omega, by go_num, by omega, by rw [HU.out]; exact HO.out, hbe⟩
        case measure => simp [intOf]; omega
    · obtain rfl : k = n := by omega
      have HT : Hid (l.take k = l) := List.take_of_length_le (by rw [← HN.out]; omega)
      obtain ⟨A5, c5, rfl, r5⟩ := own_rows fEnc_len (by decide) HO.out
      go_wp2_with fail
      go_ret
      exact ⟨A5, m, c5, rfl, by have := r5; rw [HT.out] at this; exact this, hbe⟩
end Go.Proofs.Ytoalmffhiinbbaa
