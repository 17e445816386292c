/- The reference's Same; the law's same (printed by tools/gen153.py). -/
import Derived.Test.YtpnfpdkoeednhaaMI
import Derived.Test.YtpnfpdkoeednhaaAP14
import Derived.BigQuiet
namespace Go.Proofs.Ytpnfpdkoeednhaa
open Go.RowKit Go.Shelf

theorem begB_same {ps qs : List Pv} {rs ss : List Int} (h1 : ps.length = qs.length) (h2 : rs.length = ss.length) : begB ps qs rs ss = decide (ps = qs ∧ rs = ss) := by
  unfold begB
  rw [h1, h2, List.take_length, List.take_length]
  congr 1
  exact propext ⟨fun ⟨a, b⟩ => ⟨a.symm, b.symm⟩, fun ⟨a, b⟩ => ⟨a.symm, b.symm⟩⟩
set_option maxRecDepth 100000 in
set_option maxHeartbeats 4000000 in
theorem r47Same_any (s t : Ps) (w : World) (hs : PsIn s w w.heap.size) (ht : PsIn t w w.heap.size) :
    Calls Try.prog 16 #[psVal s, psVal t] w fun e w' => e = .returned (.bool (decide (psV s = psV t ∧ s.roots = t.roots))) ∧ Below w.heap.size w w' := by
  obtain ⟨n, hn⟩ : ∃ n, w.heap.size = n := ⟨_, rfl⟩
  obtain ⟨V, hV⟩ : ∃ V, w.alloc (.cells #[.slice s.pA s.pn s.pc, .slice s.rA s.rn s.rc] 25) = V := ⟨_, rfl⟩
  obtain ⟨W, hW⟩ : ∃ W, V.alloc (.cells #[.slice t.pA t.pn t.pc, .slice t.rA t.rn t.rc] 25) = W := ⟨_, rfl⟩
  have c0 : Below w.heap.size w V := hV ▸ (Below.refl _ w).alloc (Nat.le_refl _) _
  have c1 : Below V.heap.size V W := hW ▸ (Below.refl _ V).alloc (Nat.le_refl _) _
  have z0 : V.heap.size = n + 1 := by rw [← hV]; simp [hn]
  have g0 : W.heap[n]? = some (.cells #[.slice s.pA s.pn s.pc, .slice s.rA s.rn s.rc] 25 (0, 0)) := (c1.block _ (by omega)).trans (by rw [← hV, ← hn]; exact World.alloc_heap_new _ _)
  have g1 : W.heap[n + 1]? = some (.cells #[.slice t.pA t.pn t.pc, .slice t.rA t.rn t.rc] 25 (0, 0)) := by rw [← hW, ← z0]; exact World.alloc_heap_new _ _
  have cW := c0.trans (c1.mono c0.size)
  have HCW := hidp cW
  have HPs := hidp (hs.later cW)
  have HPt := hidp (ht.later cW)
  have HLs : Hid (s.pn = (psV s).length ∧ s.rn = s.roots.length) := ⟨by rw [psV_len]; exact hs.pages.1, hs.roots.1⟩
  have HLt : Hid (t.pn = (psV t).length ∧ t.rn = t.roots.length) := ⟨by rw [psV_len]; exact ht.pages.1, ht.roots.1⟩
  have x0 := cell_of_heap (o := 0) g0
  have x1 := cell_of_heap (o := 1) g0
  have x2 := lt_of_heap g0
  have y0 := cell_of_heap (o := 0) g1
  have y1 := cell_of_heap (o := 1) g1
  have y2 := lt_of_heap g1
  simp only [List.getElem?_toArray, List.getElem?_cons_zero, List.getElem?_cons_succ] at x0 x1 y0 y1
  clear c0 c1 cW g0 g1 hs ht
  by_cases hp : s.pn = t.pn
  · by_cases hr : s.rn = t.rn
    · have hp' : ((s.pn : Int) == (t.pn : Int)) = true := by rw [hp]; simp
      have hr' : ((s.rn : Int) == (t.rn : Int)) = true := by rw [hr]; simp
      have HP := hidp hp
      have HR := hidp hr
      clear hp hr
      go_enter Try.func16, Try.ntmps16
      go_wp2_with fail
      clear hV hW hn z0
      refine (begins_any s t W HPs.out HPt.out).mono ?_
      rintro e w2 ⟨rfl, hb2⟩
      rw [begB_same (by rw [← HLs.out.1, ← HLt.out.1]; exact HP.out) (by rw [← HLs.out.2, ← HLt.out.2]; exact HR.out)]
      obtain ⟨eq, heq⟩ : ∃ b, decide (psV s = psV t ∧ s.roots = t.roots) = b := ⟨_, rfl⟩
      have HEq := hidp heq
      rw [heq]
      clear heq
      have HB2 := hidp hb2
      clear hb2
      go_wp2_with fail
      go_ret
      exact ⟨ret_bool HEq.out.symm, HCW.out.trans (HB2.out.mono HCW.out.size)⟩
    · have hp' : ((s.pn : Int) == (t.pn : Int)) = true := by rw [hp]; simp
      have hr' : ((s.rn : Int) == (t.rn : Int)) = false := by simp; omega
      have HN : Hid (decide (psV s = psV t ∧ s.roots = t.roots) = false) := decide_eq_false fun ⟨_, h⟩ => hr (by rw [HLs.out.2, HLt.out.2, h])
      clear hp hr
      go_enter Try.func16, Try.ntmps16
      go_wp2_with fail
      go_ret
      exact ⟨ret_bool HN.out.symm, HCW.out⟩
  · have hp' : ((s.pn : Int) == (t.pn : Int)) = false := by simp; omega
    have HN : Hid (decide (psV s = psV t ∧ s.roots = t.roots) = false) := decide_eq_false fun ⟨h, _⟩ => hp (by rw [HLs.out.1, HLt.out.1, h])
    clear hp
    go_enter Try.func16, Try.ntmps16
    go_wp2_with fail
    go_ret
    exact ⟨ret_bool HN.out.symm, HCW.out⟩
end Go.Proofs.Ytpnfpdkoeednhaa

