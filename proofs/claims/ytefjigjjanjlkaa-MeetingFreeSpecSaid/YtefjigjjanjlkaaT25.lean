import Derived.Test.YtefjigjjanjlkaaT23
namespace Go.Proofs.Ytefjigjjanjlkaa
open Go.RowKit Go.Shelf Go.Sort

def sumSp (x : List (Int × Int)) : Int := (x.map fun s => s.2 - s.1).sum
def dur (m : Mt) : Int := m.to - m.fr
def durs (d : List Mt) : Int := (d.map dur).sum
theorem sumSp_snoc {x : List (Int × Int)} {k : Nat} {s : Int × Int} (h : x[k]? = some s) : sumSp (x.take (k + 1)) = sumSp (x.take k) + (s.2 - s.1) := by
  rw [take_snoc h]; simp [sumSp]
theorem gs_sum : ∀ (d : List Mt) (f : Int), Ch f d → f ≤ 1440 → sumSp (gs f d) = 1440 - f - durs d
  | [], f, _, hf => by
    unfold gs
    split
    · simp [sumSp, durs]
    · simp [sumSp, durs]; omega
  | m :: r, f, ⟨h1, h2, h3, h4⟩, hf => by
    have ih := gs_sum r m.to h4 h3
    unfold gs
    simp only [sumSp, durs, List.map_cons, List.sum_cons, dur] at ih ⊢
    split
    · simp only [List.map_cons, List.sum_cons]; omega
    · omega
def RS (f : Nat → Int) (k : Nat) : Int := ((List.range k).map f).sum
theorem RS_succ (f : Nat → Int) (k : Nat) : RS f (k + 1) = RS f k + f k := by simp [RS, List.range_succ]
theorem RS_zero (f : Nat → Int) : RS f 0 = 0 := rfl
theorem RS_add (f g : Nat → Int) (k : Nat) : RS (fun i => f i + g i) k = RS f k + RS g k := by
  induction k with
  | zero => rfl
  | succ k ih => rw [RS_succ, RS_succ, RS_succ, ih]; omega
theorem RS_const (c : Int) (k : Nat) : RS (fun _ => c) k = c * k := by
  induction k with
  | zero => simp [RS_zero]
  | succ k ih => rw [RS_succ, ih]; simp [Int.mul_add]
theorem RS_congr {f g : Nat → Int} {k : Nat} (h : ∀ i, i < k → f i = g i) : RS f k = RS g k := by
  induction k with
  | zero => rfl
  | succ k ih => rw [RS_succ, RS_succ, ih (fun i hi => h i (by omega)), h k (by omega)]
theorem RS_bd {f : Nat → Int} {k : Nat} {c : Int} (h : ∀ i, i < k → 0 ≤ f i ∧ f i ≤ c) : 0 ≤ RS f k ∧ RS f k ≤ c * k := by
  induction k with
  | zero => simp [RS_zero]
  | succ k ih =>
    have h1 := ih fun i hi => h i (by omega)
    have h2 := h k (by omega)
    rw [RS_succ]
    have : c * ((k + 1 : Nat) : Int) = c * k + c := by simp [Int.mul_add]
    omega
theorem RS_at (d : Int) (X : Int) (hd : 0 ≤ d) (k : Nat) : RS (fun i => if d = (i : Int) then X else 0) k = if d < (k : Int) then X else 0 := by
  induction k with
  | zero => rw [RS_zero, if_neg (by omega)]
  | succ k ih =>
    rw [RS_succ, ih]
    by_cases h1 : d < (k : Int)
    · rw [if_pos h1, if_neg (by omega), if_pos (by omega)]; omega
    · by_cases h2 : d = (k : Int)
      · rw [if_neg h1, if_pos h2, if_pos (by omega)]; omega
      · rw [if_neg h1, if_neg h2, if_neg (by omega)]; omega
theorem RS_seg (a b : Int) (X : Int) (ha : 0 ≤ a) (hab : a ≤ b) (k : Nat) : RS (fun i => if a ≤ (i : Int) ∧ (i : Int) ≤ b then X else 0) k = X * (if (k : Int) ≤ a then 0 else if (k : Int) ≤ b then k - a else b - a + 1) := by
  induction k with
  | zero => rw [RS_zero, if_pos (by omega)]; simp
  | succ k ih =>
    rw [RS_succ, ih]
    by_cases h1 : a ≤ (k : Int) ∧ (k : Int) ≤ b
    · rw [if_pos h1]
      have e1 : (if ((k + 1 : Nat) : Int) ≤ a then (0 : Int) else if ((k + 1 : Nat) : Int) ≤ b then ((k + 1 : Nat) : Int) - a else b - a + 1) = k - a + 1 := by
        split
        · omega
        · split <;> omega
      have e2 : (if (k : Int) ≤ a then (0 : Int) else if (k : Int) ≤ b then (k : Int) - a else b - a + 1) = k - a := by
        split
        · omega
        · split <;> omega
      rw [e1, e2, Int.mul_add, Int.mul_one]
    · rw [if_neg h1, Int.add_zero]
      congr 1
      split
      · split
        · rfl
        · split <;> omega
      · split
        · split <;> omega
        · split
          · omega
          · split <;> omega
def durT (l : List Mt) (day week : Int) : Int := durs (l.filter (today day week))
theorem durT_cons (m : Mt) (l : List Mt) (day week : Int) : durT (m :: l) day week = (if today day week m = true then dur m else 0) + durT l day week := by
  unfold durT durs
  rw [List.filter_cons]
  split <;> simp
theorem mins_sum (m : Mt) (h : m.ok = true) : RS (fun i => RS (fun j => if today i j m = true then dur m else 0) 60) 7 = m.mins := by
  obtain ⟨h1, h2, h3, h4, h5, h6, h7, h8⟩ := m.ok_iff.1 h
  have e1 : ∀ i : Nat, RS (fun j => if today i j m = true then dur m else 0) 60 = if m.day = (i : Int) then m.mins else 0 := by
    intro i
    by_cases hi : m.day = (i : Int)
    · have e2 : RS (fun j => if today i j m = true then dur m else 0) 60 = RS (fun j => if m.first ≤ (j : Int) ∧ (j : Int) ≤ m.last then dur m else 0) 60 := RS_congr fun j _ => by
        have : (today i j m = true) ↔ (m.first ≤ (j : Int) ∧ (j : Int) ≤ m.last) := by simp [today, hi]
        simp only [this]
      rw [e2, RS_seg _ _ _ h6 h7, if_neg (by omega), if_neg (by omega), if_pos hi]
      rfl
    · have e2 : RS (fun j => if today i j m = true then dur m else 0) 60 = RS (fun _ => 0) 60 := RS_congr fun j _ => by
        have : today i j m = false := by simp [today, hi]
        rw [this]; rfl
      rw [e2, RS_const, if_neg hi]; omega
  rw [RS_congr (fun i _ => e1 i), RS_at _ _ h1, if_pos (by omega)]
theorem durT_sum : ∀ (l : List Mt), l.all Mt.ok = true → RS (fun i => RS (fun j => durT l i j) 60) 7 = minsM l
  | [], _ => by
    have : (fun (i : Nat) => RS (fun j => durT [] i j) 60) = fun _ => 0 := funext fun i => by
      have : (fun (j : Nat) => durT [] i j) = fun _ => 0 := funext fun j => rfl
      rw [this, RS_const]; omega
    rw [this, RS_const]; rfl
  | m :: l, h => by
    rw [List.all_cons, Bool.and_eq_true] at h
    have e : (fun (i : Nat) => RS (fun j => durT (m :: l) i j) 60) = fun (i : Nat) => RS (fun j => if today i j m = true then dur m else 0) 60 + RS (fun j => durT l i j) 60 := funext fun i => by
      rw [← RS_add]
      congr 1
      funext j
      rw [durT_cons]
    rw [e, RS_add, mins_sum m h.1, durT_sum l h.2]
    simp [minsM]
def freeN (l : List Mt) (day week : Int) : Int := 1440 - durT l day week
theorem total_eq (l : List Mt) (h : l.all Mt.ok = true) : minsM l + RS (fun i => RS (fun j => freeN l i j) 60) 7 = 604800 := by
  have e : (fun (i : Nat) => RS (fun j => freeN l i j) 60) = fun (i : Nat) => 86400 + (-1) * RS (fun j => durT l i j) 60 := funext fun i => by
    have e2 : ∀ k, RS (fun j => freeN l i j) k = 1440 * k + (-1) * RS (fun j => durT l i j) k := fun k => by
      induction k with
      | zero => rfl
      | succ k ih => rw [RS_succ, RS_succ, ih, freeN]; simp; omega
    rw [e2]; simp
  have e3 : ∀ (g : Nat → Int) k, RS (fun i => 86400 + (-1) * g i) k = 86400 * k + (-1) * RS g k := fun g k => by
    induction k with
    | zero => rfl
    | succ k ih => rw [RS_succ, RS_succ, ih]; simp; omega
  rw [e, e3, durT_sum l h]
  omega
theorem perm_sum {a b : List Int} (h : a.Perm b) : a.sum = b.sum := by
  induction h with
  | nil => rfl
  | cons x _ ih => simp [ih]
  | swap x y l => simp; omega
  | trans _ _ h1 h2 => exact h1.trans h2
theorem sumSp_free (day week : Int) (l d : List Mt) (hp : d.Perm (l.filter (today day week))) (hc : Ch 0 d) : sumSp (gapsOf d) = freeN l day week := by
  rw [gapsOf_eq, gs_sum d 0 hc (by omega), freeN, durT, durs, durs, perm_sum (hp.map dur)]
  omega
theorem asc_sum : ∀ (x : List (Int × Int)) (f : Int) (k : Nat), Asc f x → 0 ≤ f + 1 → f ≤ 1440 → 0 ≤ sumSp (x.take k) ∧ sumSp (x.take k) ≤ 1440 - f
  | [], f, k, _, h0, h1 => by simp [sumSp]; omega
  | s :: r, f, 0, _, h0, h1 => by simp [sumSp]; omega
  | s :: r, f, k + 1, ⟨a, b, c, d⟩, h0, h1 => by
    have := asc_sum r s.2 k d (by omega) c
    simp only [List.take_succ_cons, sumSp, List.map_cons, List.sum_cons] at this ⊢
    omega
end Go.Proofs.Ytefjigjjanjlkaa
