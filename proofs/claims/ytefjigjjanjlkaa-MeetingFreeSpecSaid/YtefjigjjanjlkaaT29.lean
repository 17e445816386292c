import Derived.Test.YtefjigjjanjlkaaT28
namespace Go.Proofs.Ytefjigjjanjlkaa
open Go.RowKit Go.Shelf Go.Sort

/-- One minute of the document's Free. -/
def rfStep (out : List (Int × Int)) (t : Int) (free : Bool) : List (Int × Int) :=
  if free = true then (match out.getLast? with
    | some s => if s.2 = t then out.dropLast ++ [(s.1, t + 1)] else out ++ [(t, t + 1)]
    | none => out ++ [(t, t + 1)]) else out
/-- The spans as far as minute t. -/
def trunc (t : Int) : List (Int × Int) → List (Int × Int)
  | [] => []
  | s :: r => if s.1 < t then (s.1, min s.2 t) :: trunc t r else []
theorem trunc_low : ∀ (G : List (Int × Int)) (last t : Int), Asc last G → t ≤ last + 1 → trunc t G = []
  | [], _, _, _, _ => rfl
  | s :: r, last, t, ⟨h1, _, _, _⟩, ht => by rw [trunc, if_neg (by omega)]
theorem trunc_high : ∀ (G : List (Int × Int)) (last : Int), Asc last G → trunc 1440 G = G
  | [], _, _ => rfl
  | s :: r, last, ⟨h1, h2, h3, h4⟩ => by
    rw [trunc, if_pos (by omega), trunc_high r s.2 h4]
    have : min s.2 1440 = s.2 := by omega
    rw [this]
theorem rfStep_trunc : ∀ (G acc : List (Int × Int)) (last t : Int), Asc last G → (∀ s, acc.getLast? = some s → s.2 ≤ last) → rfStep (acc ++ trunc t G) t (G.any (inSp t)) = acc ++ trunc (t + 1) G
  | [], acc, last, t, _, _ => by simp [rfStep, trunc]
  | s :: r, acc, last, t, h, ha => by
    obtain ⟨h1, h2, h3, h4⟩ := h
    rw [List.any_cons]
    rcases Int.lt_trichotomy t s.1 with hlt | heq | hgt
    · have e1 : inSp t s = false := by simp [inSp]; omega
      have e2 := asc_any_low r s.2 t h4 (by omega)
      rw [e1, e2, trunc, if_neg (by omega), trunc, if_neg (by omega)]
      simp [rfStep]
    · have e1 : inSp t s = true := by simp [inSp]; omega
      have e2 := trunc_low r s.2 (t + 1) h4 (by omega)
      rw [e1, Bool.true_or, trunc, if_neg (by omega), trunc, if_pos (by omega), e2, List.append_nil, rfStep, if_pos rfl]
      have hm : (s.1, min s.2 (t + 1)) = (t, t + 1) := by rw [heq]; congr 1; omega
      rw [hm]
      cases hl : acc.getLast? with
      | none => rfl
      | some x =>
        have := ha x hl
        dsimp only
        rw [if_neg (by omega)]
    · by_cases hs2 : t < s.2
      · have e1 : inSp t s = true := by simp [inSp]; omega
        have e2 := trunc_low r s.2 (t + 1) h4 (by omega)
        have e3 := trunc_low r s.2 t h4 (by omega)
        rw [e1, Bool.true_or, trunc, if_pos (by omega), trunc, if_pos (by omega), e2, e3, rfStep, if_pos rfl]
        have m1 : min s.2 t = t := by omega
        have m2 : min s.2 (t + 1) = t + 1 := by omega
        rw [m1, m2]
        simp
      · have e1 : inSp t s = false := by simp [inSp]; omega
        have m1 : min s.2 t = s.2 := by omega
        have m2 : min s.2 (t + 1) = s.2 := by omega
        rw [e1, Bool.false_or, trunc, if_pos (by omega), trunc, if_pos (by omega), m1, m2]
        have ih := rfStep_trunc r (acc ++ [(s.1, s.2)]) s.2 t h4 (fun x hx => by simp at hx; subst hx; exact Int.le_refl _)
        simpa using ih
def rfTo (f : Int → Bool) (k : Nat) : List (Int × Int) := (List.range k).foldl (fun out (t : Nat) => rfStep out (t : Int) (f t)) []
theorem rfTo_succ (f : Int → Bool) (k : Nat) : rfTo f (k + 1) = rfStep (rfTo f k) k (f k) := by
  simp [rfTo, List.range_succ]
theorem rfTo_trunc (f : Int → Bool) (G : List (Int × Int)) (hG : Asc (-1) G) (hf : ∀ t : Int, 0 ≤ t → t < 1440 → G.any (inSp t) = f t) : ∀ k : Nat, k ≤ 1440 → rfTo f k = trunc k G
  | 0, _ => by
    rw [show ((0 : Nat) : Int) = 0 from rfl, trunc_low G (-1) 0 hG (by omega)]
    rfl
  | k + 1, hk => by
    rw [rfTo_succ, rfTo_trunc f G hG hf k (by omega), ← hf k (by omega) (by omega)]
    have := rfStep_trunc G [] (-1) k hG (fun s h => by simp at h)
    simpa using this
theorem rfTo_all (f : Int → Bool) (G : List (Int × Int)) (hG : Asc (-1) G) (hf : ∀ t : Int, 0 ≤ t → t < 1440 → G.any (inSp t) = f t) : rfTo f 1440 = G := by
  rw [rfTo_trunc f G hG hf 1440 (Nat.le_refl _)]
  exact trunc_high G (-1) hG
theorem rfTo_len (f : Int → Bool) (k : Nat) : (rfTo f k).length ≤ k := by
  induction k with
  | zero => simp [rfTo]
  | succ k ih =>
    rw [rfTo_succ, rfStep]
    split
    · split
      · rename_i s hs
        have : rfTo f k ≠ [] := by intro h; rw [h] at hs; simp at hs
        have := List.length_pos_iff.2 this
        split
        · simp; omega
        · simp; omega
      · simp; omega
    · omega
end Go.Proofs.Ytefjigjjanjlkaa
