import Derived.Test.YtefjigjjanjlkaaT21
import Derived.Test.YtefjigjjanjlkaaT17
namespace Go.Proofs.Ytefjigjjanjlkaa
open Go.RowKit Go.Shelf Go.Sort

/-- The gaps from f on, by recursion. -/
def gs : Int → List Mt → List (Int × Int)
  | f, [] => if f < 1440 then [(f, 1440)] else []
  | f, m :: r => if f < m.fr then (f, m.fr) :: gs m.to r else gs m.to r
def gapEnd (s : List (Int × Int) × Int) : List (Int × Int) := if s.2 < 1440 then s.1 ++ [(s.2, 1440)] else s.1
theorem gs_fold : ∀ (d : List Mt) (s : List (Int × Int) × Int), gapEnd (d.foldl gapStep s) = s.1 ++ gs s.2 d
  | [], s => by
    show (if s.2 < 1440 then s.1 ++ [(s.2, 1440)] else s.1) = s.1 ++ if s.2 < 1440 then [(s.2, 1440)] else []
    split <;> simp
  | m :: r, s => by
    rw [List.foldl_cons, gs_fold r (gapStep s m), gs, gapStep]
    dsimp only
    split <;> simp
theorem gapsOf_eq (d : List Mt) : gapsOf d = gs 0 d := gs_fold d ([], 0)

/-- Meetings of one day in their order, from f on. -/
def Ch : Int → List Mt → Prop
  | _, [] => True
  | f, m :: r => f ≤ m.fr ∧ m.fr < m.to ∧ m.to ≤ 1440 ∧ Ch m.to r
/-- Spans that lie apart, each behind the last. -/
def Asc : Int → List (Int × Int) → Prop
  | _, [] => True
  | f, s :: r => f < s.1 ∧ s.1 < s.2 ∧ s.2 ≤ 1440 ∧ Asc s.2 r
theorem gs_asc : ∀ (d : List Mt) (f last : Int), Ch f d → f ≤ 1440 → last < f → Asc last (gs f d)
  | [], f, last, _, hf, hl => by
    unfold gs
    split
    · exact ⟨hl, by omega, by omega, trivial⟩
    · trivial
  | m :: r, f, last, ⟨h1, h2, h3, h4⟩, hf, hl => by
    unfold gs
    split
    · exact ⟨hl, by omega, by omega, gs_asc r m.to m.fr h4 h3 h2⟩
    · exact gs_asc r m.to last h4 h3 (by omega)
def inSp (t : Int) (s : Int × Int) : Bool := decide (s.1 ≤ t) && decide (t < s.2)
def inMt (t : Int) (m : Mt) : Bool := decide (m.fr ≤ t) && decide (t < m.to)
theorem Ch.mono {f g : Int} : ∀ {d : List Mt}, Ch f d → g ≤ f → Ch g d
  | [], _, _ => trivial
  | _ :: _, ⟨h1, h2, h3, h4⟩, hg => ⟨by omega, h2, h3, h4⟩
theorem ch_any_low : ∀ (d : List Mt) (f t : Int), Ch f d → t < f → d.any (inMt t) = false
  | [], _, _, _, _ => rfl
  | m :: r, f, t, ⟨h1, h2, h3, h4⟩, ht => by
    rw [List.any_cons, ch_any_low r m.to t h4 (by omega), inMt, Bool.or_false]
    simp; omega
theorem asc_any_low : ∀ (x : List (Int × Int)) (f t : Int), Asc f x → t ≤ f → x.any (inSp t) = false
  | [], _, _, _, _ => rfl
  | s :: r, f, t, ⟨h1, h2, h3, h4⟩, ht => by
    rw [List.any_cons, asc_any_low r s.2 t h4 (by omega), inSp, Bool.or_false]
    simp; omega
theorem gs_any : ∀ (d : List Mt) (f t : Int), Ch f d → f ≤ 1440 → f ≤ t → t < 1440 → (gs f d).any (inSp t) = !d.any (inMt t)
  | [], f, t, _, hf, h1, h2 => by
    unfold gs
    rw [if_pos (by omega)]
    simp [inSp]; omega
  | m :: r, f, t, ⟨h1, h2, h3, h4⟩, hf, ht, ht2 => by
    unfold gs
    rw [List.any_cons]
    by_cases hr : m.to ≤ t
    · have ih := gs_any r m.to t h4 h3 hr ht2
      have e1 : inMt t m = false := by simp [inMt]; omega
      rw [e1, Bool.false_or]
      split
      · have e2 : inSp t (f, m.fr) = false := by simp [inSp]; omega
        rw [List.any_cons, e2, Bool.false_or, ih]
      · exact ih
    · have e1 := ch_any_low r m.to t h4 (by omega)
      have e2 : (gs m.to r).any (inSp t) = false := asc_any_low _ (m.to - 1) t (gs_asc r m.to (m.to - 1) h4 h3 (by omega)) (by omega)
      rw [e1, Bool.or_false]
      split
      · rw [List.any_cons, e2, Bool.or_false]
        rw [Bool.eq_iff_iff]; simp [inSp, inMt]; omega
      · rw [e2]
        rw [Bool.eq_iff_iff]; simp [inMt]; omega

/-- The meetings of a day of a valid list, sorted, lie one behind another. -/
theorem ch_of_sorted (day week : Int) (l d : List Mt) (hall : l.all Mt.ok = true) (hno : (pairsTo l l.length).any Mt.ovP = false) (hp : d.Perm (l.filter (today day week))) (hs : d.Pairwise (fun x y => x.fr ≤ y.fr)) : Ch 0 d := by
  have hmem : ∀ m ∈ d, m.ok = true ∧ today day week m = true := fun m hm => by
    have := (List.mem_filter.1 (hp.mem_iff.1 hm))
    exact ⟨List.all_eq_true.1 hall m this.1, this.2⟩
  have hpw : l.Pairwise (fun x y => Mt.ovP (x, y) = false) := by
    rw [List.pairwise_iff_getElem]
    intro i j hi hj hij
    cases h : Mt.ovP (l[i], l[j]) with
    | false => rfl
    | true =>
      have := (pairs_any_iff l Mt.ovP).2 ⟨i, j, _, _, hij, List.getElem?_eq_getElem hi, List.getElem?_eq_getElem hj, h⟩
      rw [hno] at this; cases this
  have hpw2 : d.Pairwise (fun x y => Mt.ovP (x, y) = false) := by
    refine (hp.pairwise_iff (fun {x y} h => ?_)).2 (hpw.sublist List.filter_sublist)
    rw [← ovP_symm]; exact h
  have hboth := List.Pairwise.and hs hpw2
  have hfin : d.Pairwise (fun x y => x.to ≤ y.fr) := by
    refine List.Pairwise.imp_of_mem ?_ hboth
    intro x y hx hy ⟨h1, h2⟩
    obtain ⟨hxo, hxt⟩ := hmem x hx
    obtain ⟨hyo, hyt⟩ := hmem y hy
    have ax := (Mt.ok_iff x).1 hxo
    have ay := (Mt.ok_iff y).1 hyo
    simp [today] at hxt hyt
    simp [Mt.ovP] at h2
    omega
  clear hboth hpw hpw2 hs hp
  have : ∀ (d : List Mt) (f : Int), (∀ m ∈ d, m.ok = true) → (∀ m ∈ d, f ≤ m.fr) → d.Pairwise (fun x y => x.to ≤ y.fr) → Ch f d := by
    intro d
    induction d with
    | nil => intro f _ _ _; trivial
    | cons m r ih =>
      intro f h1 h2 h3
      have am := (Mt.ok_iff m).1 (h1 m (by simp))
      rw [List.pairwise_cons] at h3
      exact ⟨h2 m (by simp), by omega, by omega, ih m.to (fun x hx => h1 x (by simp [hx])) h3.1 h3.2⟩
  exact this d 0 (fun m hm => (hmem m hm).1) (fun m hm => by have := (Mt.ok_iff m).1 (hmem m hm).1; omega) hfin
theorem free_iff (day week t : Int) (l d : List Mt) (hp : d.Perm (l.filter (today day week))) (hc : Ch 0 d) (h0 : 0 ≤ t) (h1 : t < 1440) : (gapsOf d).any (inSp t) = !l.any fun m => m.cov day week t := by
  rw [gapsOf_eq, gs_any d 0 t hc (by omega) h0 h1]
  congr 1
  rw [Bool.eq_iff_iff, List.any_eq_true, List.any_eq_true]
  constructor
  · rintro ⟨m, hm, h⟩
    have := List.mem_filter.1 (hp.mem_iff.1 hm)
    refine ⟨m, this.1, ?_⟩
    simp [today] at this
    simp [inMt] at h
    simp [Mt.cov]
    omega
  · rintro ⟨m, hm, h⟩
    simp [Mt.cov] at h
    refine ⟨m, hp.mem_iff.2 (List.mem_filter.2 ⟨hm, by simp [today]; omega⟩), by simp [inMt]; omega⟩
end Go.Proofs.Ytefjigjjanjlkaa
