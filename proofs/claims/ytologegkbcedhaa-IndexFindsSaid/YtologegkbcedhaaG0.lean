/- The index, plainly: no program in sight. -/
import Derived.Test.YtologegkbcedhaaF0
import Derived.Test.YtologegkbcedhaaOrd
namespace Go.Proofs.Ytologegkbcedhaa
open Go.RowKit

/-- A link: a read; the number of its decision. -/
abbrev Lk := Rd × Int
def lEnc (x : Lk) : List Value := [.int .i64 x.1.1.kind, .int .i64 x.1.1.subj, .int .i64 x.1.1.obj, .int .i64 x.1.2.1, .int .i64 x.1.2.2, .int .i64 x.2]
theorem lEnc_len (x : Lk) : (lEnc x).length = 6 := rfl
theorem lEnc_one (x : Lk) : ∀ u ∈ lEnc x, u.oneCell' = true := by
  intro u hu; simp [lEnc] at hu; rcases hu with rfl | rfl | rfl | rfl | rfl | rfl <;> rfl
def ltL (a b : Lk) : Bool := a.1.1.lt b.1.1 || (decide (a.1.1 = b.1.1) && (decide (a.1.2.1 < b.1.2.1) || (decide (a.1.2.1 = b.1.2.1) && (decide (a.1.2.2 < b.1.2.2) || (decide (a.1.2.2 = b.1.2.2) && decide (a.2 < b.2))))))
def cmpL (a b : Lk) : Int := orI [cmpK a.1.1 b.1.1, cmpI a.1.2.1 b.1.2.1, cmpI a.1.2.2 b.1.2.2, cmpI a.2 b.2]
theorem Lk.ext' {a b : Lk} (h0 : a.1.1.kind = b.1.1.kind) (h1 : a.1.1.subj = b.1.1.subj) (h2 : a.1.1.obj = b.1.1.obj) (h3 : a.1.2.1 = b.1.2.1) (h4 : a.1.2.2 = b.1.2.2) (h5 : a.2 = b.2) : a = b :=
  Prod.ext (Prod.ext (Ky.ext' h0 h1 h2) (Prod.ext h3 h4)) h5
theorem ltL_iff (a b : Lk) : ltL a b = true ↔ a.1.1.lt b.1.1 = true ∨ (a.1.1 = b.1.1 ∧ (a.1.2.1 < b.1.2.1 ∨ (a.1.2.1 = b.1.2.1 ∧ (a.1.2.2 < b.1.2.2 ∨ (a.1.2.2 = b.1.2.2 ∧ a.2 < b.2))))) := by simp [ltL]
theorem linL : Lin ltL := by
  refine ⟨fun a => ?_, fun a b c h1 h2 => ?_, fun a b => ?_⟩
  · simp [ltL, Ky.lt_irrefl]
  · rw [ltL_iff] at *
    rcases h1 with h1 | ⟨h1, h1'⟩ <;> rcases h2 with h2 | ⟨h2, h2'⟩
    · exact .inl (Ky.lt_trans h1 h2)
    · exact .inl (h2 ▸ h1)
    · exact .inl (h1 ▸ h2)
    · exact .inr ⟨h1.trans h2, by omega⟩
  · rw [ltL_iff, ltL_iff]
    rcases Ky.lt_tri a.1.1 b.1.1 with h | h | h
    · exact .inl (.inl h)
    · have : (a.1.2.1 < b.1.2.1 ∨ (a.1.2.1 = b.1.2.1 ∧ (a.1.2.2 < b.1.2.2 ∨ (a.1.2.2 = b.1.2.2 ∧ a.2 < b.2)))) ∨ (a.1.2.1 = b.1.2.1 ∧ a.1.2.2 = b.1.2.2 ∧ a.2 = b.2) ∨ (b.1.2.1 < a.1.2.1 ∨ (b.1.2.1 = a.1.2.1 ∧ (b.1.2.2 < a.1.2.2 ∨ (b.1.2.2 = a.1.2.2 ∧ b.2 < a.2)))) := by omega
      rcases this with h' | ⟨h1, h2, h3⟩ | h'
      · exact .inl (.inr ⟨h, h'⟩)
      · exact .inr (.inl (Prod.ext (Prod.ext h (Prod.ext h1 h2)) h3))
      · exact .inr (.inr (.inr ⟨h.symm, h'⟩))
    · exact .inr (.inr (.inl h))
theorem cmpK_cases (a b : Ky) : (a.lt b = true ∧ cmpK a b < 0) ∨ (a = b ∧ cmpK a b = 0) ∨ (b.lt a = true ∧ 0 < cmpK a b) := by
  have h1 := cmpK_lt a b
  rcases Ky.lt_tri a b with h | h | h
  · exact .inl ⟨h, h1.2 h⟩
  · subst h
    refine .inr (.inl ⟨rfl, ?_⟩)
    simp [cmpK, cmpI, orI_cons, orI_nil]
  · refine .inr (.inr ⟨h, ?_⟩)
    have h2 : ¬ cmpK a b < 0 := fun h' => by rw [lt_asymm h] at h1; simpa using h1.1 h'
    have h3 : cmpK a b ≠ 0 := by
      intro h0
      rw [Ky.lt_iff] at h
      unfold cmpK at h0
      rw [orI_cons, orI_cons, orI_cons, orI_nil] at h0
      rcases cmpI_cases a.kind b.kind with ⟨g1, e1⟩ | ⟨g1, e1⟩ | ⟨g1, e1⟩ <;> rcases cmpI_cases a.subj b.subj with ⟨g2, e2⟩ | ⟨g2, e2⟩ | ⟨g2, e2⟩ <;> rcases cmpI_cases a.obj b.obj with ⟨g3, e3⟩ | ⟨g3, e3⟩ | ⟨g3, e3⟩ <;> simp [e1, e2, e3] at h0 <;> omega
    omega
theorem cmpL_lt (a b : Lk) : cmpL a b < 0 ↔ ltL a b = true := by
  rw [ltL_iff]
  unfold cmpL
  rw [orI_cons, orI_cons, orI_cons, orI_cons, orI_nil]
  rcases cmpK_cases a.1.1 b.1.1 with ⟨h0, e0⟩ | ⟨h0, e0⟩ | ⟨h0, e0⟩
  · have : cmpK a.1.1 b.1.1 ≠ 0 := by omega
    simp [this, e0, h0]
  · rw [if_pos e0]
    rcases cmpI_cases a.1.2.1 b.1.2.1 with ⟨h1, e1⟩ | ⟨h1, e1⟩ | ⟨h1, e1⟩ <;> rcases cmpI_cases a.1.2.2 b.1.2.2 with ⟨h2, e2⟩ | ⟨h2, e2⟩ | ⟨h2, e2⟩ <;> rcases cmpI_cases a.2 b.2 with ⟨h3, e3⟩ | ⟨h3, e3⟩ | ⟨h3, e3⟩ <;> simp [h0, e1, e2, e3, Ky.lt_irrefl] <;> omega
  · have h2 : cmpK a.1.1 b.1.1 ≠ 0 := by omega
    have hf := lt_asymm h0
    have hne : a.1.1 ≠ b.1.1 := by intro h; rw [h, Ky.lt_irrefl] at h0; cases h0
    simp [h2, hf, hne]
    omega
theorem cmpL_ge (a b : Lk) : (decide (0 ≤ cmpL a b)) = !ltL a b := by
  have := cmpL_lt a b
  cases h : ltL a b
  · simp; rw [h] at this; simp at this; omega
  · simp; rw [h] at this; simp at this; omega

/-- The links of a decision. -/
def linksOf (at' : Int) (rs : List Rd) : List Lk := rs.map fun r => (r, at')
def allTo (ds : List (List Rd)) (n : Nat) : List Lk := (List.range n).flatMap fun (i : Nat) => linksOf i (ds.getD i [])
theorem allTo_step {ds : List (List Rd)} {n : Nat} {d : List Rd} (h : ds[n]? = some d) : allTo ds (n + 1) = allTo ds n ++ linksOf n d := by
  unfold allTo
  rw [List.range_succ, List.flatMap_append]
  simp [h]
def insL (x : Lk) (l : List Lk) : List Lk := ins ltL x l
def ordL (l : List Lk) : List Lk := ordOf ltL l
/-- Build. -/
def buildL (ds : List (List Rd)) : List Lk := ordL (allTo ds ds.length)
/-- Replace. -/
def replL (x : List Lk) (at' : Int) (d : List Rd) : List Lk := ordL (x.filter (fun k => decide (k.2 ≠ at')) ++ linksOf at' d)
/-- Check. -/
def checkL (x : List Lk) (many : Int) : Int := if (x.all fun k => decide (0 ≤ k.2) && decide (k.2 < many)) = true ∧ strB ltL x = true then 0 else 350
/-- Is a read touched by spans? -/
def touchS (r : Rd) (ss : List (Int × Int)) : Bool := ss.any fun s => decide (max r.2.1 s.1 < min r.2.2 s.2)
def touchC (r : Rd) (c : Ky × List (Int × Int)) : Bool := decide (r.1 = c.1) && touchS r c.2
def hitL (x : List Lk) (cs : List (Ky × List (Int × Int))) : List Int := (x.filter fun k => cs.any (touchC k.1)).map (·.2)
/-- Affected. -/
def affL (x : List Lk) (cs : List (Ky × List (Int × Int))) : List Int := ordOf (fun a b : Int => decide (a < b)) (hitL x cs)
end Go.Proofs.Ytologegkbcedhaa
