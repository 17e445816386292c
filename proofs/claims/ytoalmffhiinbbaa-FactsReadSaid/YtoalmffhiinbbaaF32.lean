/- How facts, keys and reads decode; FactsCheckSpec walked. -/
import Derived.Test.YtoalmffhiinbbaaF31
import Derived.Test.YtoalmffhiinbbaaDoor
namespace Go.Proofs.Ytoalmffhiinbbaa
open Go.RowKit Go.Shelf Go.ChangeShapes Go.WideShapes Go.ChangeAt

theorem Try.own : ownKnob Try.prog.godebug = none := by kernel_rfl
theorem Try.laidOut : laidOutB Try.prog = true := by kernel_rfl
def fDec : List Int → Fc
  | [a, b, c, d, e, f, g, h] => ⟨⟨a, b, c⟩, d, e, f, g, h⟩
  | _ => default
theorem fDec_enc (z : List Int) (h : z.length = 8) : fEnc (fDec z) = z.map (.int .i64) := by
  match z, h with
  | [a, b, c, d, e, f, g, h], _ => rfl
def kDec : List Int → Ky
  | [a, b, c] => ⟨a, b, c⟩
  | _ => default
theorem kDec_enc (z : List Int) (h : z.length = 3) : kEnc (kDec z) = z.map (.int .i64) := by
  match z, h with
  | [a, b, c], _ => rfl
def rdDec : List Int → Rd
  | [a, b, c, d, e] => (⟨a, b, c⟩, d, e)
  | _ => default
theorem rdDec_enc (z : List Int) (h : z.length = 5) : rdEnc (rdDec z) = z.map (.int .i64) := by
  match z, h with
  | [a, b, c, d, e], _ => rfl

set_option maxRecDepth 100000 in
set_option maxHeartbeats 2000000 in
theorem lCheckSpec_any (A : Option Addr) (n c : Nat) (l : List Fc) (f : Fc) (w : World) (hl : fSl w w.heap.size A n c l) :
    Calls Try.prog 3 #[.slice A n c, .agg (fEnc f).toArray] w fun e w' => e = .returned (.bool true) ∧ Below w.heap.size w w' := by
  show Calls Try.prog 3 #[.slice A n c, .agg #[.int .i64 f.key.kind, .int .i64 f.key.subj, .int .i64 f.key.obj, .int .i64 f.val, .int .i64 f.fr, .int .i64 f.to, .int .i64 f.known, .int .i64 f.no]] w _
  obtain ⟨W, hW⟩ : ∃ W, w.alloc (.cells #[.int .i64 f.key.kind, .int .i64 f.key.subj, .int .i64 f.key.obj, .int .i64 f.val, .int .i64 f.fr, .int .i64 f.to, .int .i64 f.known, .int .i64 f.no] 28) = W := ⟨_, rfl⟩
  have hBW : Below w.heap.size w W := hW ▸ (Below.refl _ w).alloc (Nat.le_refl _) _
  have hbox : W.heap[w.heap.size]? = some (.cells #[.int .i64 f.key.kind, .int .i64 f.key.subj, .int .i64 f.key.obj, .int .i64 f.val, .int .i64 f.fr, .int .i64 f.to, .int .i64 f.known, .int .i64 f.no] 28 (0, 0)) := hW ▸ World.alloc_heap_new _ _
  have HL : Hid (∀ W', Below W.heap.size W W' → fSl W' W'.heap.size A n c l) := fun W' h => (hl.keep fStable hBW.size hBW.block).keep fStable h.size h.block
  have HF : Hid (∀ W', Below W.heap.size W W' → W'.cell? ⟨w.heap.size, 0, none⟩ = some (.int .i64 f.key.kind) ∧ W'.cell? ⟨w.heap.size, 1, none⟩ = some (.int .i64 f.key.subj) ∧ W'.cell? ⟨w.heap.size, 2, none⟩ = some (.int .i64 f.key.obj) ∧ W'.cell? ⟨w.heap.size, 3, none⟩ = some (.int .i64 f.val) ∧ W'.cell? ⟨w.heap.size, 4, none⟩ = some (.int .i64 f.fr) ∧ W'.cell? ⟨w.heap.size, 5, none⟩ = some (.int .i64 f.to) ∧ W'.cell? ⟨w.heap.size, 6, none⟩ = some (.int .i64 f.known) ∧ W'.cell? ⟨w.heap.size, 7, none⟩ = some (.int .i64 f.no)) := fun W' h => by
    have := (h.block _ (lt_of_heap hbox)).trans hbox
    exact ⟨cell_of_heap this, cell_of_heap this, cell_of_heap this, cell_of_heap this, cell_of_heap this, cell_of_heap this, cell_of_heap this, cell_of_heap this⟩
  have HW := hidp hW
  have HBW := hidp hBW
  clear hW hBW hbox hl
  go_enter Try.func3, Try.ntmps3
  go_wp2_with fail
  rw [HW.out]
  refine (sane07_any W).mono ?_
  rintro e w1 ⟨rfl, hb1⟩
  go_wp2_with fail
  refine (rFew_any A n c w1).mono ?_
  rintro e w2 ⟨rfl, rfl⟩
  by_cases hn : n ≤ 30
  · have hd : decide (n ≤ 30) = true := by simpa using hn
    obtain ⟨c0, c1, c2, c3, c4, c5, c6, c7⟩ := HF.out w1 hb1
    rw [hd]
    go_wp2_with fail
    refine (fAdd_any A n c l f _ (HL.out _ hb1) (by omega)).mono ?_
    rintro e w2 ⟨A2, n2, c2', rfl, r2, hb2⟩
    have hB2 := hb1.trans (hb2.mono hb1.size)
    clear c0 c1 c2 c3 c4 c5 c6 c7 hb2
    obtain ⟨c0, c1, c2, c3, c4, c5, c6, c7⟩ := HF.out w2 hB2
    go_wp2_with fail
    refine (rAdd_any A n c l f _ (HL.out _ hB2) (by omega)).mono ?_
    rintro e w3 ⟨A3, n3, c3', rfl, r3, hb3⟩
    have hB3 := hB2.trans (hb3.mono hB2.size)
    have r2' := r2.keep fStable hb3.size hb3.block
    clear c0 c1 c2 c3 c4 c5 c6 c7 hB2 r2 hb3
    go_wp2_with fail
    refine (fCheck_any A n c l _ (HL.out _ hB3)).mono ?_
    rintro e w4 ⟨rfl, hb4⟩
    have hB4 := hB3.trans (hb4.mono hB3.size)
    go_wp2_with fail
    refine (rCheck_any A n c l _ (HL.out _ hB4)).mono ?_
    rintro e w5 ⟨rfl, hb5⟩
    have hb35 := hb4.trans (hb5.mono hb4.size)
    go_wp2_with fail
    refine (fSame_any A2 A3 n2 n3 _ _ _ _ _ (r2'.keep fStable hb35.size hb35.block) (r3.keep fStable hb35.size hb35.block)).mono ?_
    rintro e w6 ⟨rfl, hb6⟩
    rw [decide_eq_true rfl]
    go_wp2_with fail
    go_ret
    exact ⟨rfl, HBW.out.trans ((hB3.trans ((hb35.trans (hb6.mono hb35.size)).mono hB3.size)).mono HBW.out.size)⟩
  · have hd : decide (n ≤ 30) = false := by simpa using hn
    rw [hd]
    go_wp2_with fail
    go_ret
    exact ⟨rfl, HBW.out.trans (hb1.mono HBW.out.size)⟩
def CheckSpecCalls : Prop := ∀ (A : Option Addr) (n c : Nat) (l : List Fc) (f : Fc) (w : World), fSl w w.heap.size A n c l → Calls Try.prog 3 #[.slice A n c, .agg (fEnc f).toArray] w fun e w' => e = .returned (.bool true) ∧ Below w.heap.size w w'
theorem checkSpec_calls : CheckSpecCalls := lCheckSpec_any
end Go.Proofs.Ytoalmffhiinbbaa
