/- FactsChangedSpec walked. -/
import Derived.Test.YtoalmffhiinbbaaF32
namespace Go.Proofs.Ytoalmffhiinbbaa
open Go.RowKit Go.Shelf

set_option maxRecDepth 100000 in
set_option maxHeartbeats 2000000 in
theorem lChangedSpec_any (A B : Option Addr) (n c m cb : Nat) (l : List Fc) (reads : List Rd) (before after : Int) (w : World) (hl : fSl w w.heap.size A n c l) (hr : RdSl w w.heap.size B m cb reads) :
    Calls Try.prog 5 #[.slice A n c, .slice B m cb, .int .i64 before, .int .i64 after] w fun e w' => e = .returned (.bool true) ∧ Below w.heap.size w w' := by
  have HL : Hid (∀ W', Below w.heap.size w W' → fSl W' W'.heap.size A n c l) := fun W' h => hl.keep fStable h.size h.block
  have HR : Hid (∀ W', Below w.heap.size w W' → RdSl W' W'.heap.size B m cb reads) := fun W' h => hr.keep rdStable h.size h.block
  have hlen := hl.2.1
  have hcap := hl.2.2.1
  have hlen2 := hr.2.1
  have hcap2 := hr.2.2.1
  clear hl hr
  go_enter Try.func5, Try.ntmps5
  go_wp2_with fail
  refine (sane07_any w).mono ?_
  rintro e w1 ⟨rfl, hb1⟩
  by_cases hn : 14 < n
  · have hd : decide (14 < n) = true := by simpa using hn
    go_wp2_with fail
    go_ret
    exact ⟨rfl, hb1⟩
  · have hd : decide (14 < n) = false := by simpa using hn
    by_cases hm : 6 < m
    · have hd2 : decide (6 < m) = true := by simpa using hm
      go_wp2_with fail
      go_ret
      exact ⟨rfl, hb1⟩
    · have hd2 : decide (6 < m) = false := by simpa using hm
      go_wp2_with fail
      refine (fChanged_any A n c l before after _ (HL.out _ hb1) (by omega)).mono ?_
      rintro e w2 ⟨A2, n2, c2, raw2, rfl, r2, ok2, hb2⟩
      have hB2 := hb1.trans (hb2.mono hb1.size)
      have H2 := hidp r2
      have O2 := hidp ok2
      clear r2 ok2 hb2
      go_wp2_with fail
      refine (rChanged_any A n c l before after _ (HL.out _ hB2) (by omega)).mono ?_
      rintro e w3 ⟨A3, n3, c3, raw3, rfl, r3, ok3, hb3⟩
      have hB3 := hB2.trans (hb3.mono hB2.size)
      have H3 := hidp r3
      have O3 := hidp ok3
      have H2' := hidp (H2.out.keep cStable hb3.size hb3.block)
      have O2' := hidp (O2.out.below hb3)
      clear r3 ok3 hb3 H2 O2
      go_wp2_with fail
      refine (rSameChanges_any A2 A3 n2 n3 _ _ _ _ _ _ _ H2'.out H3.out O2'.out O3.out).mono ?_
      rintro e w4 ⟨rfl, hb4⟩
      rw [decide_eq_true rfl]
      have hB4 := hB3.trans (hb4.mono hB3.size)
      clear hb4 H2' O2' H3 O3
      go_wp2_with fail
      refine (fAlike_any A B n c m cb l reads before after _ (HL.out _ hB4) (HR.out _ hB4)).mono ?_
      rintro e w5 ⟨rfl, hb5⟩
      have hB5 := hB4.trans (hb5.mono hB4.size)
      clear hb5
      obtain ⟨al, hal⟩ : ∃ al, alikeF l reads before after = al := ⟨_, rfl⟩
      rw [hal]
      have HAL := hidp hal
      clear hal
      go_wp2_with fail
      refine (rAlike_any A B n c m cb l reads before after _ (HL.out _ hB5) (HR.out _ hB5)).mono ?_
      rintro e w6 ⟨rfl, hb6⟩
      have hB6 := hB5.trans (hb6.mono hB5.size)
      clear hb6
      rw [HAL.out]
      have hee : (al == al) = true := by simp
      go_wp2_with fail
      refine (fUpto_any A n c l before _ (HL.out _ hB6) (by omega)).mono ?_
      rintro e w7 ⟨A7, n7, c7, rfl, r7, hb7⟩
      have hB7 := hB6.trans (hb7.mono hB6.size)
      have H7 := hidp r7
      clear r7 hb7
      go_wp2_with fail
      refine (rUpto_any A n c l before _ (HL.out _ hB7) (by omega)).mono ?_
      rintro e w8 ⟨A8, n8, c8, rfl, r8, hb8⟩
      have hB8 := hB7.trans (hb8.mono hB7.size)
      have H7' := hidp (H7.out.keep fStable hb8.size hb8.block)
      have H8 := hidp r8
      clear r8 hb8 H7
      go_wp2_with fail
      refine (fSame_any A7 A8 n7 n8 _ _ _ _ _ H7'.out H8.out).mono ?_
      rintro e w9 ⟨rfl, hb9⟩
      rw [decide_eq_true rfl]
      go_wp2_with fail
      go_ret
      exact ⟨rfl, hB8.trans (hb9.mono hB8.size)⟩

def ChangedSpecCalls : Prop := ∀ (A B : Option Addr) (n c m cb : Nat) (l : List Fc) (reads : List Rd) (before after : Int) (w : World), fSl w w.heap.size A n c l → RdSl w w.heap.size B m cb reads → Calls Try.prog 5 #[.slice A n c, .slice B m cb, .int .i64 before, .int .i64 after] w fun e w' => e = .returned (.bool true) ∧ Below w.heap.size w w'
theorem changedSpec_calls : ChangedSpecCalls := lChangedSpec_any
end Go.Proofs.Ytoalmffhiinbbaa
