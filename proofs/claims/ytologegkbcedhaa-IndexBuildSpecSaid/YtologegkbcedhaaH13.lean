/- IndexBuildSpec walked. -/
import Derived.Test.YtologegkbcedhaaH12
import Derived.Test.YtologegkbcedhaaH4
namespace Go.Proofs.Ytologegkbcedhaa
open Go.RowKit Go.Shelf

/-- What a decision's reads weigh. -/
def DeB (l : List De) : Prop := ∀ x ∈ l, x.1.rn ≤ 70368744177664
theorem fewD_bd {l : List De} (h : fewD l = true) : l.length ≤ 12 ∧ (allTo (l.map (·.2)) l.length).length ≤ 60 := by
  simpa [fewD] using h
def BuildSpecCalls : Prop := ∀ (A : Option Addr) (n c : Nat) (l : List De) (w : World), deSl w w.heap.size A n c l → DeB l →
  Calls Try.prog 3 #[.slice A n c] w fun e w' => e = .returned (.bool true) ∧ Below w.heap.size w w'
set_option maxRecDepth 100000 in
set_option maxHeartbeats 2000000 in
theorem buildSpec_calls : BuildSpecCalls := by
  intro A n c l w hl hB
  have HL := hidp hl
  have HN := hidp hl.1
  clear hl
  go_enter Try.func3, Try.ntmps3
  go_wp2_with fail
  refine (sane35_any w).mono ?_
  rintro e w1 ⟨rfl, hb1⟩
  have hl1 := HL.out.keep deStable hb1.size hb1.block
  go_wp2_with fail
  refine (qFew_any A n c l w1 hl1 hB).mono ?_
  rintro e w2 ⟨rfl, hb2⟩
  have hl2 := hl1.keep deStable hb2.size hb2.block
  have hB2 := hb1.trans (hb2.mono hb1.size)
  obtain ⟨z, hz⟩ : ∃ z, fewD l = z := ⟨_, rfl⟩
  rw [hz]
  cases z
  · clear hl1 hl2
    go_wp2_with fail
    go_ret
    exact ⟨rfl, hB2⟩
  · obtain ⟨h12, h60⟩ := fewD_bd hz
    rw [← HN.out] at h12
    have h60' : (allTo (l.map (·.2)) n).length ≤ 60 := by rw [HN.out]; exact h60
    have HL2 := hidp hl2
    clear hl1 hl2 hz h60
    go_wp2_with fail
    refine (xBuild_any A n c l w2 HL2.out (by omega) (by omega)).mono ?_
    rintro e w3 ⟨A3, n3, c3, rfl, r3, hb3⟩
    have HL3 := hidp (HL2.out.keep deStable hb3.size hb3.block)
    have HR3 := hidp r3
    have hB3 := hB2.trans (hb3.mono hB2.size)
    clear r3 hb3
    go_wp2_with fail
    refine (qBuild_any A n c l w3 HL3.out (by omega) (by omega)).mono ?_
    rintro e w4 ⟨A4, n4, c4, rfl, r4, hb4⟩
    have HR34 := hidp (HR3.out.keep lStable hb4.size hb4.block)
    have HR4 := hidp r4
    have hB4 := hB3.trans (hb4.mono hB3.size)
    clear r4 hb4
    go_wp2_with fail
    refine (qSame_any A3 A4 n3 n4 c3 c4 _ _ w4 HR34.out HR4.out).mono ?_
    rintro e w5 ⟨rfl, hb5⟩
    go_wp2_with fail
    go_ret
    exact ⟨rfl, hB4.trans (hb5.mono hB4.size)⟩
end Go.Proofs.Ytologegkbcedhaa
