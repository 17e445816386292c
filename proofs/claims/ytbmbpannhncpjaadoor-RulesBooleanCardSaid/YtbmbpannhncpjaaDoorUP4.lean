/- Laws of rules, plainly: negations; all, any, at least. -/
import Derived.Test.YtbmbpannhncpjaaDoorUP1
namespace Go.Proofs.YtbmbpannhncpjaaDoor
open Go.RowKit

theorem val_not (s : Si) (c : Int) (nm : ByteArray) (n d : Int) (A : Option Addr) (k m : Nat) (x : Ru) : valR s (.mk 4 c nm n d A k m [x]) = !valR s x := by
  rw [valR_eq]
  show holdsK s 4 c n d 1 (cntR s [x]) = _
  cases h : valR s x <;> simp [holdsK, cntR, h]
theorem val_all (s : Si) (c : Int) (nm : ByteArray) (n d : Int) (A : Option Addr) (k m : Nat) (l : List Ru) : valR s (.mk 1 c nm n d A k m l) = decide (cntR s l = l.length) := by
  rw [valR_eq]
  show holdsK s 1 c n d l.length (cntR s l) = _
  simp [holdsK]
theorem val_any (s : Si) (c : Int) (nm : ByteArray) (n d : Int) (A : Option Addr) (k m : Nat) (l : List Ru) : valR s (.mk 2 c nm n d A k m l) = decide (0 < cntR s l) := by
  rw [valR_eq]
  show holdsK s 2 c n d l.length (cntR s l) = _
  simp [holdsK]
theorem val_least (s : Si) (c : Int) (nm : ByteArray) (n d : Int) (A : Option Addr) (k m : Nat) (l : List Ru) : valR s (.mk 3 c nm n d A k m l) = decide (n ≤ cntR s l) := by
  rw [valR_eq]
  show holdsK s 3 c n d l.length (cntR s l) = _
  simp [holdsK]
theorem cnt_nots (s : Si) : ∀ (l nots : List Ru), nots.map (valR s) = l.map (fun x => !valR s x) → cntR s nots + cntR s l = l.length
  | [], [], _ => rfl
  | [], _ :: _, h => by simp at h
  | _ :: _, [], h => by simp at h
  | x :: l, y :: nots, h => by
    simp only [List.map_cons, List.cons.injEq] at h
    have ih := cnt_nots s l nots h.2
    simp only [cntR, h.1, List.length_cons]
    cases valR s x <;> simp <;> omega
theorem dual_law (s : Si) {l nots : List Ru} (h : nots.map (valR s) = l.map (fun x => !valR s x)) :
    (!decide (cntR s l = l.length)) = decide (0 < cntR s nots) ∧ (!decide (0 < cntR s l)) = decide (cntR s nots = nots.length) := by
  have h1 := cnt_nots s l nots h
  have h2 : nots.length = l.length := by simpa using congrArg List.length h
  have h3 := cntR_le s l
  constructor
  · rw [← decide_not, decide_eq_decide]; omega
  · rw [← decide_not, decide_eq_decide]; omega
end Go.Proofs.YtbmbpannhncpjaaDoor
