/- PagesGrow, plainly. -/
import Derived.Test.YtpnfpdkoeednhaaAP16
namespace Go.Proofs.Ytpnfpdkoeednhaa
open Go.RowKit

theorem good_lvG {ps : List Pv} {p d : Nat} (h : GoodR ps p d) : walkP ps p true [] = some (allT ps p, d) ∧ d ≤ p + 1 := by
  have hw : walkP ps p true [] = some (allT ps p, d) := walkP_iff.2 ⟨h.1, rfl, ChainP.of_none.2 ⟨h.2.1, h.2.2⟩⟩
  exact ⟨hw, walkP_lv ps (p + 1) p true [] (allT ps p) d (by omega) hw⟩
theorem grow_law {ps : List Pv} {roots : List Int} {f : Fc} (h : putE ps roots f = 0) : ∃ d nm, GoodR ps (lastR roots) d ∧ (putPs ps roots f).length = ps.length + nm ∧ 1 ≤ nm ∧ nm ≤ 2 * d + 1 ∧ verB (putPs ps roots f) (putRs ps roots f) (roots.length : Nat) = true ∧
    nm ≤ (reachB (putPs ps roots f) (putRs ps roots f) (roots.length : Nat)).length ∧ ∀ i, i < nm → (reachB (putPs ps roots f) (putRs ps roots f) (roots.length : Nat))[(reachB (putPs ps roots f) (putRs ps roots f) (roots.length : Nat)).length - 1 - i]? = some (((putPs ps roots f).length : Int) - 1 - i) := by
  have hl := kept_last h
  obtain ⟨h1, h2, h3⟩ := putE_zero.1 h
  obtain ⟨d, hG, _⟩ := last_good h1
  obtain ⟨new, d', e, n1, n2, hG', _, _, hR⟩ := put_lawD hG h2 h3
  obtain ⟨r, d2, hr, h0, hG2, hre⟩ := reachB_good hl.2.1
  have hr2 : r = ((putW ps (lastR roots) f).2 : Int) := by
    rw [List.getElem?_append_right (Nat.le_refl _), Nat.sub_self] at hr
    simpa using hr.symm
  subst hr2
  rw [Int.toNat_natCast] at hre
  have e' : putPs ps roots f = ps ++ new := e
  rw [hre, e']
  have hin : ∀ q, ps.length ≤ q → q < (ps ++ new).length → (q : Int) ∈ reachT (ps ++ new) (putW ps (lastR roots) f).2 := fun q hq1 hq2 => by
    have h5 := hR q hq1 (by rw [e]; exact hq2)
    rw [e] at h5
    have h6 := hG'.1
    rw [e] at h6
    exact rch_mem h5 true _ h6
  obtain ⟨t1, t2⟩ := reachL_tail hin
  exact ⟨d, new.length, hG, List.length_append, n1, n2, by rw [← e']; exact hl.2.1, t1, t2⟩
end Go.Proofs.Ytpnfpdkoeednhaa
