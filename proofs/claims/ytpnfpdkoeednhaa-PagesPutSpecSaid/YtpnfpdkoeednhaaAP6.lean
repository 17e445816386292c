/- Pages, plainly: the chapter's examples. -/
import Derived.Test.YtpnfpdkoeednhaaMK
import Derived.Test.YtpnfpdkoeednhaaMF
import Derived.Test.YtpnfpdkoeednhaaA13
namespace Go.Proofs.Ytpnfpdkoeednhaa
open Go.RowKit

def verB (ps : List Pv) (roots : List Int) (v : Int) : Bool := checkP ps roots && (decide (0 ≤ v) && decide (v < roots.length))
def verZ (ps : List Pv) (roots : List Int) (v : Int) : Int := if verB ps roots v = true then roots.getD v.toNat 0 else 0
def allB (ps : List Pv) (roots : List Int) (v : Int) : List Fc := if verB ps roots v = true then allT ps (verZ ps roots v).toNat else []
def reachB (ps : List Pv) (roots : List Int) (v : Int) : List Int := if verB ps roots v = true then (reachT ps (verZ ps roots v).toNat).mergeSort fun x y => decide (x ≤ y) else []
theorem verOk_eq (s : Ps) (v : Int) : verOk s v = verB (psV s) s.roots v := rfl
theorem allV_eq (s : Ps) (v : Int) : allV s v = allB (psV s) s.roots v := rfl
theorem reachV_eq (s : Ps) (v : Int) : reachV s v = reachB (psV s) s.roots v := rfl
def exFact (c k : Int) : Fc := ⟨⟨5, 4, c⟩, k, 0, 9, k, 0⟩
def exF : List Fc := [exFact 5 15, exFact 4 14, exFact 3 13, exFact 2 12, exFact 1 11]
def exP (k : Nat) : Fst := fillF (exF.take k)
theorem ex_zero : checkP [⟨[], []⟩] [0] = true ∧ verB [⟨[], []⟩] [0] 0 = true ∧ verB [⟨[], []⟩] [0] 1 = false ∧ allB [⟨[], []⟩] [0] 0 = [] ∧ allB [⟨[], []⟩] [0] 1 = [] ∧ checkP [] [] = false := by decide +kernel
theorem ex_reach0 : (reachB [⟨[], []⟩] [0] 0).length = 1 := by
  unfold reachB
  rw [if_pos ex_zero.2.1, List.length_mergeSort]
  decide +kernel
theorem ex_step (k : Nat) (hk : k < 5) : putE (exP k).ps (exP k).roots (exFact (5 - k) (15 - k)) = 0 := by
  match k, hk with
  | 0, _ => decide +kernel
  | 1, _ => decide +kernel
  | 2, _ => decide +kernel
  | 3, _ => decide +kernel
  | 4, _ => decide +kernel
  | k + 5, h => omega
theorem ex_get (k : Nat) (hk : k < 5) : exF[k]? = some (exFact (5 - k) (15 - k)) := by
  match k, hk with
  | 0, _ => rfl
  | 1, _ => rfl
  | 2, _ => rfl
  | 3, _ => rfl
  | 4, _ => rfl
  | k + 5, h => omega
theorem ex_succ (k : Nat) (hk : k < 5) : exP (k + 1) = stepF (exP k) (exFact (5 - k) (15 - k)) := by
  unfold exP
  rw [take_snoc (ex_get k hk), fillF_snoc]
theorem ex_end : verB (exP 5).ps (exP 5).roots 5 = true ∧ verB (exP 5).ps (exP 5).roots 2 = true ∧ (allB (exP 5).ps (exP 5).roots 5).length = 5 ∧ (allB (exP 5).ps (exP 5).roots 2).length = 2 ∧ atF (allB (exP 5).ps (exP 5).roots 5) ⟨5, 4, 3⟩ 4 99 = some 13 ∧ atF (allB (exP 5).ps (exP 5).roots 2) ⟨5, 4, 3⟩ 4 99 = none ∧ putE (exP 5).ps (exP 5).roots (exFact 3 13) = 470 ∧ (exP 5).roots.length = 6 ∧ (exP 5).ps.length ≤ 100 := by decide +kernel
theorem ex_reach5 : (reachB (exP 5).ps (exP 5).roots 5).length = 3 := by
  unfold reachB
  rw [if_pos ex_end.1, List.length_mergeSort]
  decide +kernel
theorem ex_size (k : Nat) (hk : k ≤ 5) : (exP k).ps.length ≤ 100 ∧ (exP k).roots.length ≤ 100 := by
  match k, hk with
  | 0, _ => decide +kernel
  | 1, _ => decide +kernel
  | 2, _ => decide +kernel
  | 3, _ => decide +kernel
  | 4, _ => decide +kernel
  | 5, _ => decide +kernel
  | k + 6, h => omega
end Go.Proofs.Ytpnfpdkoeednhaa

