/- pages.Reach. -/
import Derived.Test.YtpnfpdkoeednhaaMF
import Derived.Test.YtpnfpdkoeednhaaSortI
import Derived.Test.YtpnfpdkoeednhaaShelfI
namespace Go.Proofs.Ytpnfpdkoeednhaa
open Go.RowKit Go.Shelf Go.Sort

theorem sortI_own (base n : Nat) (v : Value) (l : List Int) (w : World) (hown : w.ownsRow base 3 1 v n (l.flatMap iEnc)) (hbase : base ≤ w.heap.size) (hn : n < 4611686018427387904) :
    Calls Try.prog 52 #[v] w fun e w' => e = .returned (.tuple #[]) ∧ w'.ownsRow base 3 1 v n ((l.mergeSort fun x y => decide (x ≤ y)).flatMap iEnc) ∧ Below base w w' := by
  have hlen := own_len iEnc_len (by decide) hown
  rcases hown.2 with ⟨rfl, rfl⟩ | ⟨G, cap, _, rfl, _⟩
  · have hl : l = [] := List.eq_nil_of_length_eq_zero hlen.symm
    subst hl
    exact (AnyG.slices_Sort_int_none Try.sortI none 0 w).mono fun e w' ⟨he, hb⟩ => by subst hb; exact ⟨he, by simpa using World.ownsRow_nil _ _ _ _, Below.refl _ _⟩
  · have hG := (hown.lt G rfl).1
    exact (sortI_kept (ρ := Try.sortI_ren) Try.sortI l hown hn).mono fun e w' ⟨he, h1, h2⟩ => ⟨he, h1, h2.toBelow hbase fun b hb h => by omega⟩

/-- The pages of a version, in order. -/
def reachV (s : Ps) (v : Int) : List Int := if verOk s v = true then (reachT (psV s) (verR s v).toNat).mergeSort fun x y => decide (x ≤ y) else []
attribute [local go_sem] run_store_fnR
set_option maxRecDepth 100000 in
set_option maxHeartbeats 4000000 in
theorem pgReach_any (s : Ps) (v : Int) (w : World) (hps : PsIn s w w.heap.size) (hsm : ∀ g ∈ s.gs, g.fn ≤ 1000000 ∧ g.kn ≤ 1000000) (hlen : (reachV s v).length ≤ 1000000) :
    Calls Try.prog 21 #[.agg #[.slice s.pA s.pn s.pc, .slice s.rA s.rn s.rc], .int .i64 v] w fun e w' => ∃ A n c, e = .returned (.tuple #[.slice A n c, .int .i64 (errP (verOk s v))]) ∧ iSl w' w'.heap.size A n c (reachV s v) ∧ Below w.heap.size w w' := by
  have HLen := hidp hlen
  have HPs : Hid (∀ W, Below w.heap.size w W → PsIn s W W.heap.size) := fun W h => hps.later h
  have HP0 := hidp hps
  have HSm := hidp hsm
  obtain ⟨W0, hW0⟩ : ∃ W0, (w.alloc (.cells #[.slice s.pA s.pn s.pc, .slice s.rA s.rn s.rc] 25)).alloc (.cells #[.slice none 0 0] 23) = W0 := ⟨_, rfl⟩
  have HB0 : Hid (Below w.heap.size w W0) := hW0 ▸ ((Below.refl _ w).alloc (Nat.le_refl _) _).alloc (by simp) _
  have HGp : Hid (W0.heap[w.heap.size]? = some (.cells #[.slice s.pA s.pn s.pc, .slice s.rA s.rn s.rc] 25 (0, 0))) := hW0 ▸ (Below.heap_alloc _ _ _ (by simp)).trans (World.alloc_heap_new _ _)
  have HGr : Hid (W0.heap[w.heap.size + 1]? = some (.cells #[.slice none 0 0] 23 (0, 0))) := by
    show _ = _
    rw [← hW0]; have := World.alloc_heap_new (w.alloc (.cells #[.slice s.pA s.pn s.pc, .slice s.rA s.rn s.rc] 25)) (.cells #[.slice none 0 0] 23); rwa [World.size_alloc] at this
  have HZ0 : Hid (W0.heap.size = w.heap.size + 2) := by show _ = _; rw [← hW0]; simp
  have HW0 := hidp hW0
  clear hW0 hps hsm hlen
  go_enter Try.func21, Try.ntmps21
  have p0 := cell_of_heap (o := 0) HGp.out
  have p1 := cell_of_heap (o := 1) HGp.out
  have lp := lt_of_heap HGp.out
  simp only [List.getElem?_toArray, List.getElem?_cons_zero, List.getElem?_cons_succ] at p0 p1
  go_wp2_with fail
  try rw [HW0.out]
  refine (pgroot_any s v _ (HPs.out _ HB0.out) HSm.out).mono ?_
  rintro e w1 ⟨rfl, hb1⟩
  have HB1 := hidp (HB0.out.trans (hb1.mono HB0.out.size))
  have HZ1 : Hid (w.heap.size + 2 ≤ w1.heap.size) := by have := HZ0.out; have := hb1.size; show _ ≤ _; omega
  have HGp1 := hidp ((hb1.block _ (lt_of_heap HGp.out)).trans HGp.out)
  have HGr1 := hidp ((hb1.block _ (lt_of_heap HGr.out)).trans HGr.out)
  clear p0 p1 lp hb1
  have r0 := cell_of_heap (o := 0) HGr1.out
  have z0 := frozen_of_heap (o := 0) HGr1.out
  have lr := lt_of_heap HGr1.out
  simp only [List.getElem?_toArray, List.getElem?_cons_zero] at r0
  obtain ⟨ok, hok⟩ : ∃ b, verOk s v = b := ⟨_, rfl⟩
  rw [hok]
  have HOk := hidp hok
  clear hok
  cases ok
  · have HE : Hid (reachV s v = []) := by show _ = _; unfold reachV; rw [HOk.out]; rfl
    simp only [errP, Bool.false_eq_true, if_false]
    go_wp2_with fail
    obtain ⟨W2, hW2⟩ : ∃ W2, w1.setCell ⟨w.heap.size + 1, 0, none⟩ (.slice none 0 0) = W2 := ⟨_, rfl⟩
    have g2 : W2.heap[w.heap.size + 1]? = some (.cells #[.slice none 0 0] 23 (0, 0)) := hW2 ▸ heap_set1 HGr1.out _
    have hB2 : Below w.heap.size w W2 := hW2 ▸ HB1.out.setCell (p := ⟨w.heap.size + 1, 0, none⟩) (by simp) _
    rw [hW2]
    have c2 := cell_of_heap (o := 0) g2
    simp only [List.getElem?_toArray, List.getElem?_cons_zero] at c2
    refine bodyPost_ret (v := .tuple #[.slice none 0 0, .int .i64 470]) ?_ rfl ⟨none, 0, 0, by rw [HOk.out]; rfl, by rw [HE.out]; exact Rows.nil (Nat.zero_le _), hB2⟩
    simp [results, Try.f21, go_sem, c2]
  simp only [errP, if_true]
  go_wp2_with fail
  obtain ⟨W2, hW2⟩ : ∃ W2, w1.alloc (.cells #[.func (.func 51) #[] #[.pointer (some ⟨w.heap.size + 1, 0, none⟩), .pointer (some ⟨w.heap.size, 0, none⟩), .pointer (some ⟨w1.heap.size, 0, none⟩)]] 92) = W2 := ⟨_, rfl⟩
  rw [hW2]
  have hb2 : Below w1.heap.size w1 W2 := hW2 ▸ (Below.refl _ w1).alloc (Nat.le_refl _) _
  have hz2 : W2.heap.size = w1.heap.size + 1 := by rw [← hW2]; simp
  have g2p : W2.heap[w.heap.size]? = some (.cells #[.slice s.pA s.pn s.pc, .slice s.rA s.rn s.rc] 25 (0, 0)) := (hb2.block _ (lt_of_heap HGp1.out)).trans HGp1.out
  have g2r : W2.heap[w.heap.size + 1]? = some (.cells #[.slice none 0 0] 23 (0, 0)) := (hb2.block _ (lt_of_heap HGr1.out)).trans HGr1.out
  have g2v : W2.heap[w1.heap.size]? = some (.cells #[.func (.func 51) #[] #[.pointer (some ⟨w.heap.size + 1, 0, none⟩), .pointer (some ⟨w.heap.size, 0, none⟩), .pointer (some ⟨w1.heap.size, 0, none⟩)]] 92 (0, 0)) := hW2 ▸ World.alloc_heap_new _ _
  have HB2 := hidp (HB1.out.trans (hb2.mono HB1.out.size))
  have hvp := verOk_page HOk.out
  obtain ⟨vn, hvn⟩ : ∃ n : Nat, verR s v = n := ⟨(verR s v).toNat, by omega⟩
  have HRV : Hid (reachV s v = (reachT (psV s) vn).mergeSort fun x y => decide (x ≤ y)) := by show _ = _; unfold reachV; rw [if_pos HOk.out, hvn, Int.toNat_natCast]
  have HLn : Hid ((reachT (psV s) vn).length ≤ 1000000) := by
    have h := HLen.out
    rw [HRV.out, List.length_mergeSort] at h
    exact h
  have HZ2 := hidp hz2
  have hokt := hvp.2.2
  rw [hvn, Int.toNat_natCast] at hokt
  rw [hvn]
  clear r0 z0 lr
  refine (reach1_any s w.heap.size W2.heap.size (w.heap.size + 1) w.heap.size w1.heap.size (by have := HZ1.out; omega) (by omega) (by have := HZ1.out; omega) (by omega) HSm.out (vn + 1) vn (by omega) hokt [] W2 ⟨g2p, g2v, by have := HZ1.out; omega⟩ ⟨none, 0, g2r, by simpa using World.ownsRow_nil _ _ _ _⟩ (HP0.out.keep (Nat.le_refl _) HB2.out.block) (Nat.le_refl _) (by simpa using HLn.out)).mono ?_
  rintro e w3 ⟨rfl, hrs, hk3⟩
  rw [List.nil_append] at hrs
  obtain ⟨A, c, g3, ho3⟩ := hrs.ex
  have HB3 : Hid (Below w.heap.size w w3) := HB2.out.trans (hk3.toBelow (by have := HB2.out.size; omega) fun b hb e => by have := HZ1.out; have := HZ2.out; have e2 : b = w.heap.size + 1 ∨ W2.heap.size ≤ b := e; omega)
  have HK3 := hidp hk3
  have HG3 := hidp g3
  have HO3 := hidp ho3
  have r3 := cell_of_heap (o := 0) g3
  have l3 := lt_of_heap g3
  simp only [List.getElem?_toArray, List.getElem?_cons_zero] at r3
  clear hrs hk3 g3 ho3 g2p g2r g2v hb2 hz2 hW2 hvp hokt
  go_wp2_with fail
  refine (sortI_own W2.heap.size _ _ (reachT (psV s) vn) w3 HO3.out HK3.out.size (by have := HLn.out; omega)).mono ?_
  rintro e w4 ⟨rfl, ho4, hb4⟩
  have HB4 : Hid (Below w.heap.size w w4) := HB3.out.trans (hb4.mono (by have := HB2.out.size; omega))
  have HO4 := hidp ho4
  have HG4 := hidp ((hb4.block _ (by have := HZ2.out; have := HZ1.out; omega)).trans HG3.out)
  have r4 := cell_of_heap (o := 0) HG4.out
  have z4 := frozen_of_heap (o := 0) HG4.out
  have l4 := lt_of_heap HG4.out
  simp only [List.getElem?_toArray, List.getElem?_cons_zero] at r4
  clear r3 l3 ho4 hb4
  go_wp2_with fail
  obtain ⟨W5, hW5⟩ : ∃ W5, w4.setCell ⟨w.heap.size + 1, 0, none⟩ (.slice A (reachT (psV s) vn).length c) = W5 := ⟨_, rfl⟩
  have g5 : W5.heap[w.heap.size + 1]? = some (.cells #[.slice A (reachT (psV s) vn).length c] 23 (0, 0)) := hW5 ▸ heap_set1 HG4.out _
  have hB5 : Below w.heap.size w W5 := hW5 ▸ HB4.out.setCell (p := ⟨w.heap.size + 1, 0, none⟩) (by simp) _
  have ho5 : W5.ownsRow W2.heap.size 3 1 (.slice A (reachT (psV s) vn).length c) (reachT (psV s) vn).length (((reachT (psV s) vn).mergeSort fun x y => decide (x ≤ y)).flatMap iEnc) := by
    rw [← hW5]
    exact own_keepB HO4.out fun g hg => heap_set_ne rfl (by have := (HO4.out.lt g hg).1; have := HZ2.out; have := HZ1.out; omega) _ _
  have hlm : (reachT (psV s) vn).length = ((reachT (psV s) vn).mergeSort fun x y => decide (x ≤ y)).length := (List.length_mergeSort _).symm
  have hr5 : iSl W5 W5.heap.size A (reachT (psV s) vn).length c (reachV s v) := by
    rw [HRV.out]
    obtain ⟨A5, c5, he, h⟩ := own_rows iEnc_len (by decide) ho5
    cases he
    exact h
  rw [hW5]
  have c5 := cell_of_heap (o := 0) g5
  simp only [List.getElem?_toArray, List.getElem?_cons_zero] at c5
  refine bodyPost_ret (v := .tuple #[.slice A (reachT (psV s) vn).length c, .int .i64 0]) ?_ rfl ⟨A, _, c, by rw [HOk.out]; rfl, hr5, hB5⟩
  simp [results, Try.f21, go_sem, c5]
end Go.Proofs.Ytpnfpdkoeednhaa

