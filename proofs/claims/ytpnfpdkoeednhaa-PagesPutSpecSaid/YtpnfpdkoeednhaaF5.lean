/- slices' functions at facts (printed by wip/tools/genslices.py). -/
import Derived.Test.YtpnfpdkoeednhaaF1
import Derived.Test.YtpnfpdkoeednhaaM1
import Derived.Shelf.Abstract
namespace Go.Proofs.Ytpnfpdkoeednhaa
open Go.RowKit Go.Shelf

abbrev fSl := Rows 8 (Rep.flat fEnc)
theorem fStable : (Rep.flat fEnc).Stable := Rep.flat_stable _
theorem fSl.get {n₀ n c k : Nat} {A : Option Addr} {l : List (Fc)} {W : World} (h : fSl W n₀ A n c l) (hk : k < n) :
    ∃ b off m, A = some ⟨b, off, none⟩ ∧ b < n₀ ∧ l[k]? = some m ∧ W.cell? ⟨b, off + k * 8, none⟩ = some (.int .i64 m.key.kind) ∧ W.cell? ⟨b, off + k * 8 + 1, none⟩ = some (.int .i64 m.key.subj) ∧ W.cell? ⟨b, off + k * 8 + 2, none⟩ = some (.int .i64 m.key.obj) ∧ W.cell? ⟨b, off + k * 8 + 3, none⟩ = some (.int .i64 m.val) ∧ W.cell? ⟨b, off + k * 8 + 4, none⟩ = some (.int .i64 m.fr) ∧ W.cell? ⟨b, off + k * 8 + 5, none⟩ = some (.int .i64 m.to) ∧ W.cell? ⟨b, off + k * 8 + 6, none⟩ = some (.int .i64 m.known) ∧ W.cell? ⟨b, off + k * 8 + 7, none⟩ = some (.int .i64 m.no) := by
  obtain ⟨b, off, m, cs, e, hlt, hk', rfl, hc⟩ := Rows.get h hk
  exact ⟨b, off, m, e, hlt, hk', hc 0 _ rfl, hc 1 _ rfl, hc 2 _ rfl, hc 3 _ rfl, hc 4 _ rfl, hc 5 _ rfl, hc 6 _ rfl, hc 7 _ rfl⟩
theorem fInfo : (Try.prog.info? 31).map (fun i => (i.zero, i.size, i.bytes)) = some (some (.agg #[.int .i64 0, .int .i64 0, .int .i64 0, .int .i64 0, .int .i64 0, .int .i64 0, .int .i64 0, .int .i64 0]), 8, 64) := by kernel_rfl
set_option maxRecDepth 100000 in
set_option maxHeartbeats 4000000 in
theorem fIndex_any (g : FuncId) (fs cs : Array Value) (p : Fc → Bool) (A : Option Addr) (n c : Nat) (l : List (Fc)) (w : World) (hl : fSl w w.heap.size A n c l)
    (eg : ∀ args w, (callFunc g args).run Try.prog w = .ok (.enter g args) w)
    (hp : ∀ (m : Fc) (W : World), Below w.heap.size w W → Calls Try.prog g (fs.push (.agg #[.int .i64 m.key.kind, .int .i64 m.key.subj, .int .i64 m.key.obj, .int .i64 m.val, .int .i64 m.fr, .int .i64 m.to, .int .i64 m.known, .int .i64 m.no]) ++ cs) W fun e W' => e = .returned (.bool (p m)) ∧ Below W.heap.size W W') :
    Calls Try.prog 75 #[.slice A n c, .func (.func g) fs cs] w fun e w' => e = .returned (.int .i64 (firstM p l)) ∧ Below w.heap.size w w' := by
  have HN := hidp hl.1
  have hcap := hl.2.2.1
  have hlen := hl.2.1
  have HP := hidp hp
  clear hp
  go_enter Try.func75, Try.ntmps75
  go_wp2
  go_loopw [5, 8] (fun _ i wr => ∃ k : Nat, k ≤ n ∧ i = .int .i64 k ∧ (l.take k).all (fun m => !p m) = true ∧ Below w.heap.size w wr) (fun _ i _ => n - (intOf i).toNat)
  case atStart => exact ⟨0, by omega, rfl, rfl, Below.refl _ _⟩
  case round =>
    obtain ⟨k, hk, rfl, hno, hbe⟩ := hrel
    have HA := hidp hno
    clear hno
    by_cases hlt : k < n
    · obtain ⟨b, off, m, rfl, hb, hzk, c0, c1, c2, c3, c4, c5, c6, c7⟩ := fSl.get (hl.below fStable hbe) hlt
      have hbb := lt_of_cell c0
      have HZ := hidp hzk
      have hc := HP.out m
      obtain ⟨bo, hbo⟩ : ∃ bo, p m = bo := ⟨_, rfl⟩
      rw [hbo] at hc
      have HC := hidp hc
      have HB := hidp hbo
      clear hzk hc hbo
      go_wp2_with fail
      refine (HC.out _ hbe).mono ?_
      rintro e w1 ⟨rfl, hb1⟩
      have hbe1 := hbe.trans (hb1.mono hbe.size)
      cases bo
      · go_wp2_with fail
        go_roundw
        case rel => exact ⟨k + 1, by omega, by go_num, by rw [take_snoc HZ.out, List.all_append, HA.out]; simp [HB.out], hbe1⟩
        case measure => simp [intOf]; omega
      · go_wp2_with fail
        go_ret
        exact ⟨ret_int (firstM_at HZ.out HB.out HA.out).symm, hbe1⟩
    · obtain rfl : k = n := by omega
      go_wp2_with fail
      go_ret
      refine ⟨ret_int ?_, hbe⟩
      have h1 := HA.out
      rw [List.take_of_length_le (by rw [← HN.out]; omega)] at h1
      exact (firstM_no h1).symm

set_option maxRecDepth 100000 in
set_option maxHeartbeats 1000000 in
theorem fContains_any (g : FuncId) (fs cs : Array Value) (p : Fc → Bool) (A : Option Addr) (n c : Nat) (l : List (Fc)) (w : World) (hl : fSl w w.heap.size A n c l)
    (eg : ∀ args w, (callFunc g args).run Try.prog w = .ok (.enter g args) w)
    (hp : ∀ (m : Fc) (W : World), Below w.heap.size w W → Calls Try.prog g (fs.push (.agg #[.int .i64 m.key.kind, .int .i64 m.key.subj, .int .i64 m.key.obj, .int .i64 m.val, .int .i64 m.fr, .int .i64 m.to, .int .i64 m.known, .int .i64 m.no]) ++ cs) W fun e W' => e = .returned (.bool (p m)) ∧ Below W.heap.size W W') :
    Calls Try.prog 54 #[.slice A n c, .func (.func g) fs cs] w fun e w' => e = .returned (.bool (l.any p)) ∧ Below w.heap.size w w' := by
  have hc := fIndex_any g fs cs p A n c l w hl eg hp
  have HG := hidp (firstM_ge p l)
  generalize firstM p l = q at hc HG
  have HC := hidp hc
  clear hc hp eg
  go_enter Try.func54, Try.ntmps54
  go_wp2_with fail
  refine HC.out.mono ?_
  rintro e w1 ⟨rfl, hb1⟩
  go_wp2_with fail
  go_ret
  exact ⟨ret_bool HG.out, hb1⟩

set_option maxRecDepth 100000 in
set_option maxHeartbeats 1000000 in
theorem fClone_any (A : Option Addr) (n c : Nat) (l : List (Fc)) (w : World) (hl : fSl w w.heap.size A n c l) (hn : n * 64 ≤ 140737488355328) :
    Calls Try.prog 65 #[.slice A n c] w fun e w' => ∃ v, e = .returned v ∧ w'.ownsRow w.heap.size 31 8 v n (l.flatMap fEnc) ∧ (A = none → v = .slice none 0 0) ∧ (A ≠ none → ∃ g c', v = .slice (some ⟨g, 0, none⟩) n c') ∧ Below w.heap.size w w' := by
  obtain ⟨i0, hi, hz, hs, hb⟩ := info_parts fInfo
  have hown := World.ownsRow_made (e := 31) (size := 8) w #[] 0 (Nat.le_refl _) (by decide) (by simp)
  obtain ⟨v, w1, hrun, hown1, hg, hat⟩ := run_append_rows (P := Try.prog) (ty := 41) (l := []) (enc := fEnc) Try.underlying41 hi hz hs hb rfl fEnc_len (by decide) fEnc_one hown (hl.keep fStable (W' := w.alloc (.cells #[] 31)) (Nat.le_refl _) (fun b hb => Below.heap_alloc _ _ _ hb)) (by omega) (by have := hl.2.1; have := hl.2.2.1; omega) (by simp)
  have HG := hidp hg
  have HO := hidp hown1
  have HAt := hidp hat
  clear hg hown1 hat hown
  have hq := fun (W : World) (a : Option Addr) (n c : Nat) => Lib.run_eql_slice_nil (P := Try.prog) W 41 31 a n c 0 0 Try.underlying41
  rcases A with _ | ad
  · go_enter Try.func65, Try.ntmps65
    go_wp2_with fail
    go_ret
    have hn0 : n = 0 := by
      rcases Nat.eq_zero_or_pos n with h | h
      · exact h
      · obtain ⟨_, _, he, _⟩ := hl.2.2.2 h
        cases he
    subst hn0
    have hl0 : l = [] := List.eq_nil_of_length_eq_zero hl.1.symm
    subst hl0
    exact ⟨_, rfl, World.ownsRow_nil _ _ _ _, fun _ => rfl, fun h => absurd rfl h, Below.refl _ _⟩
  · go_enter Try.func65, Try.ntmps65
    go_wp2_with (at_builtin; refine wpList_append_known rfl (.tmp 5) (.tmp 6) 41 rfl rfl rfl hrun ?_)
    go_ret
    have ho := HO.out
    have ha := HAt.out
    rw [Nat.zero_add] at ho
    refine ⟨_, rfl, by simpa using ho, fun h => (by cases h), fun _ => ?_, ((Below.refl _ _).alloc (Nat.le_refl _) _).grown HG.out (by simp) (fun g hg => ?_)⟩
    · rcases ho.2 with ⟨hv, _⟩ | ⟨g, c', cur, hv, _⟩
      · rw [hv] at ha
        simp [Value.ownBlock] at ha
      · exact ⟨g, c', hv⟩
    · simp [Value.ownBlock] at hg
      omega

end Go.Proofs.Ytpnfpdkoeednhaa

