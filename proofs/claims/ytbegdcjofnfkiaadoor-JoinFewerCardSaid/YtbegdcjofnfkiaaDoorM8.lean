/- Several texts in one: JP1 JP2. -/
import Derived.Test.YtbegdcjofnfkiaaDoorM2
section
/- Queries, plainly: what the laws JoinAnswers, JoinFewer, JoinPast say of rows. -/
namespace Go.Proofs.YtbegdcjofnfkiaaDoor
open Go.RowKit

/-! JoinAnswers. -/
theorem showJ_range {q : Qu} (h : q.shows = rangeI q.names.length) {x : List Int} (hx : x.length = q.names.length) : showJ q x = x := by
  unfold showJ
  rw [h, ← hx]
  refine List.ext_getElem? fun i => ?_
  rw [List.getElem?_map]
  rcases Nat.lt_or_ge i x.length with hi | hi
  · rw [rangeI_get hi]
    simp [List.getD_eq_getElem?_getD, List.getElem?_eq_getElem hi]
  · rw [List.getElem?_eq_none (by rw [rangeI_len]; exact hi), List.getElem?_eq_none hi]; rfl
theorem answer_row {q : Qu} (hv : VarsOk q) {l : List Fc} {x : List Int} (h1 : x.length = q.names.length) (h2 : ∀ n ∈ x, n ∈ domR l) (h3 : holdsJ q l x = true) : showJ q x ∈ rowsJ q l :=
  (rowsJ_mem hv l _).2 ⟨x, ⟨h1, h2, h3⟩, rfl⟩
theorem row_answer {q : Qu} (hv : VarsOk q) (h : q.shows = rangeI q.names.length) {l : List Fc} {r : List Int} (hr : r ∈ rowsJ q l) : r.length = q.names.length ∧ (∀ n ∈ r, n ∈ domR l) ∧ holdsJ q l r = true := by
  obtain ⟨x, ⟨h1, h2, h3⟩, rfl⟩ := (rowsJ_mem hv l r).1 hr
  rw [showJ_range h h1]
  exact ⟨h1, h2, h3⟩

/-! JoinFewer. -/
def addAtom (q : Qu) (A : Option Addr) (n c : Nat) (a : Am) : Qu := { q with aA := A, an := n, ac := c, atoms := q.atoms ++ [a] }
def addTest (q : Qu) (A : Option Addr) (n c : Nat) (t : Te) : Qu := { q with tA := A, tn := n, tc := c, tests := q.tests ++ [t] }
theorem atom_sub {q : Qu} {A : Option Addr} {n c : Nat} {a : Am} (hv : VarsOk q) (hx : VarsOk (addAtom q A n c a)) {l : List Fc} {r : List Int} (h : r ∈ rowsJ (addAtom q A n c a) l) : r ∈ rowsJ q l := by
  obtain ⟨x, ⟨h1, h2, h3⟩, h4⟩ := (rowsJ_mem hx l r).1 h
  refine (rowsJ_mem hv l r).2 ⟨x, ⟨h1, h2, ?_⟩, h4⟩
  simp only [holdsJ, addAtom, List.all_append, Bool.and_eq_true] at h3 ⊢
  exact ⟨h3.1.1, h3.2⟩
theorem test_holds {q : Qu} {A : Option Addr} {n c : Nat} {t : Te} (l : List Fc) (x : List Int) : holdsJ (addTest q A n c t) l x = (holdsJ q l x && testJ x t) := by
  simp [holdsJ, addTest, List.all_append, Bool.and_assoc]
theorem test_sub {q : Qu} {A : Option Addr} {n c : Nat} {t : Te} (hv : VarsOk q) (hx : VarsOk (addTest q A n c t)) {l : List Fc} {r : List Int} (h : r ∈ rowsJ (addTest q A n c t) l) : r ∈ rowsJ q l := by
  obtain ⟨x, ⟨h1, h2, h3⟩, h4⟩ := (rowsJ_mem hx l r).1 h
  rw [test_holds, Bool.and_eq_true] at h3
  exact (rowsJ_mem hv l r).2 ⟨x, ⟨h1, h2, h3.1⟩, h4⟩
theorem test_not (x : List Int) (a b : Ar) : testJ x ⟨1, a, b⟩ = !testJ x ⟨0, a, b⟩ := by
  simp [testJ, opJ]
theorem test_cover {q : Qu} {A B : Option Addr} {n m c d : Nat} {a b : Ar} (hv : VarsOk q) (hy : VarsOk (addTest q A n c ⟨0, a, b⟩)) (hz : VarsOk (addTest q B m d ⟨1, a, b⟩)) {l : List Fc} {r : List Int} (h : r ∈ rowsJ q l) :
    r ∈ rowsJ (addTest q A n c ⟨0, a, b⟩) l ∨ r ∈ rowsJ (addTest q B m d ⟨1, a, b⟩) l := by
  obtain ⟨x, ⟨h1, h2, h3⟩, h4⟩ := (rowsJ_mem hv l r).1 h
  cases ht : testJ x ⟨0, a, b⟩ with
  | true => exact .inl ((rowsJ_mem hy l r).2 ⟨x, ⟨h1, h2, by rw [test_holds, h3, ht]; rfl⟩, h4⟩)
  | false => exact .inr ((rowsJ_mem hz l r).2 ⟨x, ⟨h1, h2, by rw [test_holds, h3, test_not, ht]; rfl⟩, h4⟩)
theorem test_check (wd : ByteArray → Int) {q : Qu} {A B : Option Addr} {n m c d : Nat} {a b : Ar} : checkJ wd (addTest q A n c ⟨0, a, b⟩) = checkJ wd (addTest q B m d ⟨1, a, b⟩) := by
  have e1 : argsJ (addTest q A n c ⟨0, a, b⟩) = argsJ (addTest q B m d ⟨1, a, b⟩) := by simp [argsJ, addTest, argsT]
  have e2 : varsJ (addTest q A n c ⟨0, a, b⟩) = varsJ (addTest q B m d ⟨1, a, b⟩) := by unfold varsJ; rw [e1]; rfl
  have e3 : sizesJ (addTest q A n c ⟨0, a, b⟩) = sizesJ (addTest q B m d ⟨1, a, b⟩) := by simp only [sizesJ, addTest, List.length_append, List.length_singleton]; rfl
  have e4 : (addTest q A n c ⟨0, a, b⟩).tests.all teOk = (addTest q B m d ⟨1, a, b⟩).tests.all teOk := by simp [addTest, List.all_append, teOk, inB]
  unfold checkJ
  rw [e1, e2, e3, e4]
  rfl
theorem str_filter {α : Type} {lt : α → α → Bool} {l : List α} (h : Str lt l) (p : α → Bool) : Str lt (l.filter p) := List.Pairwise.filter p h
theorem filter_two {α : Type} (p : α → Bool) : ∀ l : List α, (l.filter p).length + (l.filter fun x => !p x).length = l.length
  | [] => rfl
  | x :: l => by
    have := filter_two p l
    cases h : p x <;> simp [h] <;> omega
theorem test_count {q : Qu} {A B : Option Addr} {n m c d : Nat} {a b : Ar} (hv : VarsOk q) (hy : VarsOk (addTest q A n c ⟨0, a, b⟩)) (hz : VarsOk (addTest q B m d ⟨1, a, b⟩)) (h : q.shows = rangeI q.names.length) (l : List Fc) :
    (rowsJ (addTest q A n c ⟨0, a, b⟩) l).length + (rowsJ (addTest q B m d ⟨1, a, b⟩) l).length = (rowsJ q l).length := by
  have key : ∀ (C : Option Addr) (k e : Nat) (op : Int), VarsOk (addTest q C k e ⟨op, a, b⟩) → rowsJ (addTest q C k e ⟨op, a, b⟩) l = (rowsJ q l).filter fun r => testJ r ⟨op, a, b⟩ := by
    intro C k e op ho
    refine str_ext linX (rowsJ_str _ _) (str_filter (rowsJ_str _ _) _) fun r => ?_
    rw [List.mem_filter, rowsJ_mem ho, rowsJ_mem hv]
    constructor
    · rintro ⟨x, ⟨h1, h2, h3⟩, h4⟩
      rw [test_holds, Bool.and_eq_true] at h3
      have h5 : showJ q x = r := h4
      have h6 := h5
      rw [showJ_range h h1] at h6
      exact ⟨⟨x, ⟨h1, h2, h3.1⟩, h5⟩, by rw [← h6]; exact h3.2⟩
    · rintro ⟨⟨x, ⟨h1, h2, h3⟩, h4⟩, h5⟩
      have h6 := h4
      rw [showJ_range h h1] at h6
      exact ⟨x, ⟨h1, h2, by rw [test_holds, h3, h6, h5]; rfl⟩, h4⟩
  rw [key A n c 0 hy, key B m d 1 hz, ← filter_two (fun r => testJ r ⟨0, a, b⟩) (rowsJ q l)]
  congr 3
  funext r
  exact test_not r a b

/-! JoinPast. -/
theorem bestF_mem {t : Int} {f : Fc} : ∀ {l : List Fc}, bestF l t = some f → f ∈ l ∧ f.at t = true := by
  intro l
  have : ∀ (l : List Fc) (b : Option Fc), (∀ g, b = some g → g.at t = true) → l.foldl (better t) b = some f → (b = some f ∨ f ∈ l) ∧ f.at t = true := by
    intro l
    induction l with
    | nil => intro b hb h; exact ⟨.inl h, hb f h⟩
    | cons g l ih =>
      intro b hb h
      rw [List.foldl_cons] at h
      have hg : ∀ g', better t b g = some g' → g'.at t = true ∧ (b = some g' ∨ g' = g) := by
        intro g' hg'
        unfold better at hg'
        split at hg'
        · rename_i hat
          split at hg'
          · cases hg'; exact ⟨hat, .inr rfl⟩
          · split at hg'
            · exact ⟨hb _ hg', .inl hg'⟩
            · cases hg'; exact ⟨hat, .inr rfl⟩
        · exact ⟨hb _ hg', .inl hg'⟩
      obtain ⟨h1, h2⟩ := ih (better t b g) (fun g' h => (hg g' h).1) h
      refine ⟨?_, h2⟩
      rcases h1 with h1 | h1
      · rcases (hg f h1).2 with h3 | h3
        · exact .inl h3
        · exact .inr (by simp [h3])
      · exact .inr (by simp [h1])
  intro h
  obtain ⟨h1, h2⟩ := this l none (fun g h => by cases h) h
  rcases h1 with h1 | h1
  · cases h1
  · exact ⟨h1, h2⟩
theorem atF_dom {l : List Fc} {k : Ky} {t known v : Int} (h : atF l k t known = some v) : 0 ≤ v ∧ ∃ f ∈ l, f.key = k ∧ f.val = v := by
  unfold atF at h
  cases hb : bestF (ofF l k known) t with
  | none => rw [hb] at h; cases h
  | some f =>
    rw [hb] at h
    simp only at h
    split at h
    · cases h
    · rename_i hn
      have hm := (bestF_mem hb).1
      unfold ofF at hm
      rw [List.mem_filter] at hm
      simp only [Bool.and_eq_true, decide_eq_true_eq] at hm
      cases h
      exact ⟨by omega, f, hm.1, hm.2.1, rfl⟩
theorem ofF_later {l more : List Fc} {k : Ky} {known : Int} (h : ∀ f ∈ more, known < f.known) : ofF (l ++ more) k known = ofF l k known := by
  unfold ofF
  rw [List.filter_append]
  have : more.filter (fun f => decide (f.key = k) && decide (f.known ≤ known)) = [] := by
    rw [List.filter_eq_nil_iff]
    intro f hf
    have := h f hf
    simp; intro _; omega
  rw [this, List.append_nil]
theorem atF_later {l more : List Fc} {k : Ky} {t known : Int} (h : ∀ f ∈ more, known < f.known) : atF (l ++ more) k t known = atF l k t known := by
  unfold atF; rw [ofF_later h]
theorem holds_later {q : Qu} {l more : List Fc} (h : ∀ a ∈ q.atoms, ∀ f ∈ more, a.known < f.known) (x : List Int) : holdsJ q (l ++ more) x = holdsJ q l x := by
  unfold holdsJ
  congr 1
  rw [Bool.eq_iff_iff, List.all_eq_true, List.all_eq_true]
  have e : ∀ a ∈ q.atoms, atomJ (l ++ more) x a = atomJ l x a := fun a ha => by unfold atomJ; rw [atF_later (h a ha)]
  exact ⟨fun h a ha => by rw [← e a ha]; exact h a ha, fun h a ha => by rw [e a ha]; exact h a ha⟩
/-- Each variable occurs in an atom. -/
def UsedJ (q : Qu) : Prop := ∀ i : Nat, i < q.names.length → ∃ a ∈ q.atoms, ∃ g ∈ [a.s, a.o, a.v], g.var = true ∧ g.n = i
theorem past_law {q : Qu} (hv : VarsOk q) {l more : List Fc} (hk : ∀ a ∈ q.atoms, ∀ f ∈ more, a.known < f.known) (hu : UsedJ q) (hp : ∀ f ∈ l ++ more, 0 ≤ f.key.subj ∧ 0 ≤ f.key.obj) : rowsJ q l = rowsJ q (l ++ more) := by
  refine ordOf_congr linX fun r => ?_
  simp only [List.mem_map, ful_mem hv]
  have key : ∀ x, (x.length = q.names.length ∧ (∀ n ∈ x, n ∈ domR l) ∧ holdsJ q l x = true) ↔ (x.length = q.names.length ∧ (∀ n ∈ x, n ∈ domR (l ++ more)) ∧ holdsJ q (l ++ more) x = true) := by
    intro x
    rw [holds_later hk]
    constructor
    · rintro ⟨h1, h2, h3⟩
      refine ⟨h1, fun n hn => ?_, h3⟩
      have h4 := (domR_mem l n).1 (h2 n hn)
      obtain ⟨h5, f, hf, h6⟩ := h4
      exact (domR_mem _ n).2 ⟨h5, f, List.mem_append_left _ hf, h6⟩
    · rintro ⟨h1, h2, h3⟩
      refine ⟨h1, fun n hn => ?_, h3⟩
      obtain ⟨i, hi⟩ := List.mem_iff_getElem?.1 hn
      have hil := (List.getElem?_eq_some_iff.1 hi).1
      obtain ⟨a, ha, g, hg, hgv, hgn⟩ := hu i (by omega)
      have h5 : atomJ l x a = true := by
        unfold holdsJ at h3
        rw [Bool.and_eq_true, List.all_eq_true] at h3
        exact h3.1 a ha
      unfold atomJ at h5
      rw [decide_eq_true_eq] at h5
      obtain ⟨h6, f, hf, h7, h8⟩ := atF_dom h5
      have hn2 : valJ g x = n := by
        unfold valJ
        rw [if_pos hgv, hgn]
        simp [List.getD_eq_getElem?_getD, hi]
      have hpos := hp f (List.mem_append_left _ hf)
      have hs : f.key.subj = valJ a.s x := by rw [h7]
      have ho : f.key.obj = valJ a.o x := by rw [h7]
      refine (domR_mem l n).2 ?_
      simp only [List.mem_cons, List.not_mem_nil, or_false] at hg
      rcases hg with rfl | rfl | rfl
      · exact ⟨by omega, f, hf, .inl (by omega)⟩
      · exact ⟨by omega, f, hf, .inr (.inl (by omega))⟩
      · exact ⟨by omega, f, hf, .inr (.inr (by omega))⟩
  constructor
  · rintro ⟨x, hx, rfl⟩; exact ⟨x, (key x).1 hx, rfl⟩
  · rintro ⟨x, hx, rfl⟩; exact ⟨x, (key x).2 hx, rfl⟩
end Go.Proofs.YtbegdcjofnfkiaaDoor

end
section
/- Queries, plainly: JoinTurned. Variables numbered anew; conditions and facts in another order. -/
namespace Go.Proofs.YtbegdcjofnfkiaaDoor
open Go.RowKit

/-! The best fact, whatever the order. -/
def TotF (l : List Fc) : Prop := ∀ a ∈ l, ∀ b ∈ l, a = b ∨ a.bef b = true ∨ b.bef a = true
theorem bef_iff (a b : Fc) : a.bef b = true ↔ a.known < b.known ∨ (a.known = b.known ∧ a.no < b.no) := by simp [Fc.bef]
theorem bef_trans {a b c : Fc} (h1 : a.bef b = true) (h2 : b.bef c = true) : a.bef c = true := by
  rw [bef_iff] at *; omega
theorem bef_asymm {a b : Fc} (h1 : a.bef b = true) (h2 : b.bef a = true) : False := by
  rw [bef_iff] at *; omega
def BestIs (l : List Fc) (t : Int) : Option Fc → Prop
  | none => ∀ g ∈ l, g.at t = false
  | some f => f ∈ l ∧ f.at t = true ∧ ∀ g ∈ l, g.at t = true → g = f ∨ g.bef f = true
theorem bestF_is (t : Int) (l : List Fc) (h : TotF l) : BestIs l t (bestF l t) := by
  have key : ∀ m : List Fc, TotF m.reverse → BestIs m.reverse t (bestF m.reverse t) := by
    intro m
    induction m with
    | nil => intro _ g hg; cases hg
    | cons f m ih =>
      intro hT
      rw [List.reverse_cons] at hT ⊢
      have ih' := ih fun a ha b hb => hT a (List.mem_append_left _ ha) b (List.mem_append_left _ hb)
      rw [bestF_snoc]
      unfold better
      cases hat : f.at t with
      | false =>
        simp only [Bool.false_eq_true, if_false]
        cases hb : bestF m.reverse t with
        | none =>
          rw [hb] at ih'
          intro g hg
          rcases List.mem_append.1 hg with hg | hg
          · exact ih' g hg
          · rw [List.mem_singleton.1 hg]; exact hat
        | some x =>
          rw [hb] at ih'
          refine ⟨List.mem_append_left _ ih'.1, ih'.2.1, fun g hg hgt => ?_⟩
          rcases List.mem_append.1 hg with hg | hg
          · exact ih'.2.2 g hg hgt
          · rw [List.mem_singleton.1 hg, hat] at hgt; cases hgt
      | true =>
        simp only [if_true]
        cases hb : bestF m.reverse t with
        | none =>
          rw [hb] at ih'
          refine ⟨by simp, hat, fun g hg hgt => ?_⟩
          rcases List.mem_append.1 hg with hg | hg
          · rw [ih' g hg] at hgt; cases hgt
          · exact .inl (List.mem_singleton.1 hg)
        | some x =>
          rw [hb] at ih'
          simp only
          split
          · rename_i hfx
            refine ⟨List.mem_append_left _ ih'.1, ih'.2.1, fun g hg hgt => ?_⟩
            rcases List.mem_append.1 hg with hg | hg
            · exact ih'.2.2 g hg hgt
            · rw [List.mem_singleton.1 hg]; exact .inr hfx
          · rename_i hfx
            refine ⟨by simp, hat, fun g hg hgt => ?_⟩
            have hx : x = f ∨ x.bef f = true := by
              rcases hT x (List.mem_append_left _ ih'.1) f (by simp) with h | h | h
              · exact .inl h
              · exact .inr h
              · exact absurd h hfx
            rcases List.mem_append.1 hg with hg | hg
            · rcases ih'.2.2 g hg hgt with h | h
              · rw [h]; exact hx
              · rcases hx with hx | hx
                · rw [← hx]; exact .inr h
                · exact .inr (bef_trans h hx)
            · exact .inl (List.mem_singleton.1 hg)
  have := key l.reverse
  rw [List.reverse_reverse] at this
  exact this h
theorem bestIs_uniq {l m : List Fc} {t : Int} (hm : ∀ f, f ∈ l ↔ f ∈ m) {a b : Option Fc} (ha : BestIs l t a) (hb : BestIs m t b) : a = b := by
  cases a with
  | none =>
    cases b with
    | none => rfl
    | some y => have := ha y ((hm y).2 hb.1); rw [hb.2.1] at this; cases this
  | some x =>
    cases b with
    | none => have := hb x ((hm x).1 ha.1); rw [ha.2.1] at this; cases this
    | some y =>
      rcases ha.2.2 y ((hm y).2 hb.1) hb.2.1 with h | h
      · rw [h]
      · rcases hb.2.2 x ((hm x).1 ha.1) ha.2.1 with h' | h'
        · rw [h']
        · exact (bef_asymm h h').elim
theorem atF_perm {l m : List Fc} (hT : TotF l) (hm : ∀ f, f ∈ l ↔ f ∈ m) (k : Ky) (t known : Int) : atF l k t known = atF m k t known := by
  have hsub : ∀ f, f ∈ ofF l k known ↔ f ∈ ofF m k known := fun f => by unfold ofF; rw [List.mem_filter, List.mem_filter, hm]
  have hT1 : TotF (ofF l k known) := fun a ha b hb => hT a (List.mem_filter.1 ha).1 b (List.mem_filter.1 hb).1
  have hT2 : TotF (ofF m k known) := fun a ha b hb => hT1 a ((hsub a).2 ha) b ((hsub b).2 hb)
  have := bestIs_uniq hsub (bestF_is t _ hT1) (bestF_is t _ hT2)
  unfold atF; rw [this]
theorem sortedB_tot : ∀ l : List Fc, sortedB l = true → TotF l := by
  have hp : ∀ l : List Fc, sortedB l = true → l.Pairwise fun a b => a.bef b = true := by
    intro l
    induction l with
    | nil => intro _; exact List.Pairwise.nil
    | cons a l ih =>
      intro h
      cases l with
      | nil => simp
      | cons b l =>
        simp only [sortedB, Bool.and_eq_true] at h
        have h2 := ih h.2
        refine List.pairwise_cons.2 ⟨fun c hc => ?_, h2⟩
        rcases List.mem_cons.1 hc with rfl | hc
        · exact h.1
        · exact bef_trans h.1 ((List.pairwise_cons.1 h2).1 c hc)
  intro l h
  have h2 := hp l h
  clear h hp
  revert h2
  induction l with
  | nil => intro _ a ha; cases ha
  | cons x l ih =>
    intro h2
    obtain ⟨h3, h4⟩ := List.pairwise_cons.1 h2
    intro a ha b hb
    rcases List.mem_cons.1 ha with ha1 | ha1
    · subst ha1
      rcases List.mem_cons.1 hb with hb1 | hb1
      · exact .inl hb1.symm
      · exact .inr (.inl (h3 b hb1))
    · rcases List.mem_cons.1 hb with hb1 | hb1
      · subst hb1
        exact .inr (.inr (h3 a ha1))
      · exact ih h4 a ha1 b hb1
theorem checkF_tot {l : List Fc} (h : checkF l = 0) : TotF l := by
  unfold checkF at h
  split at h
  · split at h
    · rename_i hs; exact sortedB_tot l hs
    · cases h
  · cases h

/-! Variables numbered anew. -/
theorem ixB_get {α : Type} [DecidableEq α] : ∀ (l : List α) (a : α), (a ∉ l ∧ indexB l a = -1) ∨ ∃ i : Nat, l[i]? = some a ∧ (∀ j, j < i → l[j]? ≠ some a) ∧ indexB l a = i
  | [], a => .inl ⟨by simp, rfl⟩
  | x :: l, a => by
    unfold indexB
    by_cases hx : x = a
    · rw [if_pos hx]
      exact .inr ⟨0, by rw [hx]; rfl, fun j hj => by omega, rfl⟩
    · rw [if_neg hx]
      rcases ixB_get l a with ⟨h1, h2⟩ | ⟨i, h1, h2, h3⟩
      · rw [if_pos (by omega)]
        exact .inl ⟨by simp [h1]; exact fun h => hx h.symm, rfl⟩
      · rw [if_neg (by omega)]
        refine .inr ⟨i + 1, by simpa using h1, fun j hj => ?_, by omega⟩
        rcases j with _ | j
        · simp; exact hx
        · simpa using h2 j (by omega)
theorem ixB_mem {α : Type} [DecidableEq α] {l : List α} {a : α} (h : a ∈ l) : ∃ i : Nat, i < l.length ∧ l[i]? = some a ∧ (∀ j, j < i → l[j]? ≠ some a) ∧ indexB l a = i := by
  rcases ixB_get l a with ⟨h1, _⟩ | ⟨i, h1, h2, h3⟩
  · exact absurd h h1
  · exact ⟨i, (List.getElem?_eq_some_iff.1 h1).1, h1, h2, h3⟩
theorem ixB_at {α : Type} [DecidableEq α] {l : List α} {a : α} {i : Nat} (h : l[i]? = some a) (hn : ∀ j, j < i → l[j]? ≠ some a) : indexB l a = i := by
  obtain ⟨k, _, h1, h2, h3⟩ := ixB_mem (List.mem_of_getElem? h)
  rw [h3]
  rcases Nat.lt_trichotomy k i with h4 | h4 | h4
  · exact absurd h1 (hn k h4)
  · rw [h4]
  · exact absurd h (h2 i h4)
theorem ixB_nodup {α : Type} [DecidableEq α] {l : List α} (hd : l.Nodup) {a : α} {i : Nat} (h : l[i]? = some a) : indexB l a = i := by
  refine ixB_at h fun j hj hja => ?_
  have h1 := (List.getElem?_eq_some_iff.1 h).1
  have := (List.getElem?_inj (by omega) hd).1 (hja.trans h.symm)
  omega
theorem ixB_append {α : Type} [DecidableEq α] {l t : List α} {a : α} (h : a ∈ l) : indexB (l ++ t) a = indexB l a := by
  obtain ⟨i, hi, h1, h2, h3⟩ := ixB_mem h
  rw [h3]
  refine ixB_at (by rw [List.getElem?_append_left hi]; exact h1) fun j hj => by rw [List.getElem?_append_left (by omega)]; exact h2 j hj
theorem firstB_nodup {α : Type} [DecidableEq α] (l : List α) : firstB l = true ↔ l.Nodup := by
  unfold firstB
  rw [List.all_eq_true]
  constructor
  · intro h
    refine List.pairwise_iff_getElem.2 fun i j hi hj hij he => ?_
    have h1 := h j (List.mem_range.2 hj)
    rw [List.getElem?_eq_getElem hj] at h1
    simp only [decide_eq_true_eq] at h1
    obtain ⟨k, _, h2, h3, h4⟩ := ixB_mem (List.getElem_mem hj)
    rw [h4] at h1
    have hkj : k = j := by omega
    exact h3 i (by omega) (by rw [List.getElem?_eq_getElem hi, he])
  · intro hd i hi
    rw [List.getElem?_eq_getElem (List.mem_range.1 hi)]
    simp only [decide_eq_true_eq]
    exact ixB_nodup hd (List.getElem?_eq_getElem (List.mem_range.1 hi))
def ren (O : List Int) (n : Int) : Int := indexB O n
def renA (O : List Int) (a : Ar) : Ar := if a.var = true then ⟨true, ren O a.n⟩ else a
def renM (O : List Int) (a : Am) : Am := ⟨a.kind, renA O a.s, renA O a.o, renA O a.v, a.term, a.known⟩
def renT (O : List Int) (t : Te) : Te := ⟨t.op, renA O t.a, renA O t.b⟩
def pickN (names : List ByteArray) (O : List Int) : List ByteArray := O.filterMap fun (n : Int) => if 0 ≤ n ∧ n < names.length then names[n.toNat]? else none
theorem renA_var (O : List Int) (a : Ar) : (renA O a).var = a.var := by unfold renA; split <;> simp_all
theorem ord_mem : ∀ (l s : List Int) (n : Int), n ∈ l.foldl ordStep s ↔ n ∈ s ∨ n ∈ l
  | [], s, n => by simp
  | a :: l, s, n => by
    rw [List.foldl_cons, ord_mem l]
    unfold ordStep
    split
    · rename_i h
      rw [List.mem_cons]
      constructor
      · rintro (h1 | h1)
        · exact .inl h1
        · exact .inr (.inr h1)
      · rintro (h1 | rfl | h1)
        · exact .inl h1
        · exact .inl h
        · exact .inr h1
    · simp [or_assoc]
theorem ord_nodup : ∀ (l s : List Int), s.Nodup → (l.foldl ordStep s).Nodup
  | [], s, h => h
  | a :: l, s, h => by
    rw [List.foldl_cons]
    refine ord_nodup l _ ?_
    unfold ordStep
    split
    · exact h
    · rename_i hn
      rw [List.nodup_append]
      exact ⟨h, by simp, by simp; intro x hx e; subst e; exact hn hx⟩
theorem orderJ_mem (l : List Int) (n : Int) : n ∈ orderJ l ↔ n ∈ l := by
  have := ord_mem l [] n
  simp only [List.not_mem_nil, false_or] at this
  exact this
theorem orderJ_nodup (l : List Int) : (orderJ l).Nodup := ord_nodup l [] (by simp)
theorem ord_map {f : Int → Int} : ∀ (l s : List Int), (∀ a ∈ s ++ l, ∀ b ∈ s ++ l, f a = f b → a = b) → (l.map f).foldl ordStep (s.map f) = (l.foldl ordStep s).map f
  | [], s, _ => rfl
  | a :: l, s, h => by
    rw [List.map_cons, List.foldl_cons, List.foldl_cons]
    have e : ordStep (s.map f) (f a) = (ordStep s a).map f := by
      unfold ordStep
      by_cases ha : a ∈ s
      · rw [if_pos ha, if_pos (List.mem_map_of_mem ha)]
      · rw [if_neg ha, if_neg, List.map_append]; rfl
        intro hm
        obtain ⟨b, hb, hba⟩ := List.mem_map.1 hm
        have := h b (by simp [hb]) a (by simp) hba
        subst this
        exact ha hb
    rw [e]
    refine ord_map l (ordStep s a) fun x hx y hy => ?_
    have hsub : ∀ x, x ∈ ordStep s a ++ l → x ∈ s ++ a :: l := by
      intro x hx
      rcases List.mem_append.1 hx with hx | hx
      · unfold ordStep at hx
        split at hx
        · simp [hx]
        · rcases List.mem_append.1 hx with hx | hx
          · simp [hx]
          · simp [List.mem_singleton.1 hx]
      · simp [hx]
    exact h x (hsub x hx) y (hsub y hy)
theorem order_map {f : Int → Int} {l : List Int} (h : ∀ a ∈ l, ∀ b ∈ l, f a = f b → a = b) : orderJ (l.map f) = (orderJ l).map f := by
  have := ord_map l [] (f := f) (by simpa using h)
  exact this
theorem ren_inj {O : List Int} {a b : Int} (ha : a ∈ O) (hb : b ∈ O) (h : ren O a = ren O b) : a = b := by
  obtain ⟨i, _, h1, _, h2⟩ := ixB_mem ha
  obtain ⟨j, _, h3, _, h4⟩ := ixB_mem hb
  have : i = j := by unfold ren at h; rw [h2, h4] at h; omega
  subst this
  rw [h1] at h3
  exact Option.some.inj h3
theorem map_ren {O : List Int} (hd : O.Nodup) : O.map (ren O) = rangeI O.length := by
  refine List.ext_getElem? fun i => ?_
  rw [List.getElem?_map]
  rcases Nat.lt_or_ge i O.length with hi | hi
  · rw [rangeI_get hi, List.getElem?_eq_getElem hi, Option.map_some]
    unfold ren
    rw [ixB_nodup hd (List.getElem?_eq_getElem hi)]
  · rw [List.getElem?_eq_none hi, List.getElem?_eq_none (by rw [rangeI_len]; exact hi)]; rfl

/-- What the renamed query is. -/
structure Renamed (x y : Qu) : Prop where
  names : y.names = pickN x.names (orderJ (varsJ x))
  shows : y.shows = x.shows.map (ren (orderJ (varsJ x)))
  atoms : y.atoms = x.atoms.map (renM (orderJ (varsJ x)))
  tests : y.tests = x.tests.map (renT (orderJ (varsJ x)))
/-- What the turned query is. -/
structure TurnedJ (q x : Qu) : Prop where
  names : x.names = q.names
  shows : x.shows = q.shows
  atoms : x.atoms.Perm q.atoms
  tests : x.tests.Perm q.tests
theorem pick_map (names : List ByteArray) : ∀ (O : List Int), (∀ n ∈ O, 0 ≤ n ∧ n < names.length) → pickN names O = O.map fun n => names.getD n.toNat ByteArray.empty
  | [], _ => rfl
  | a :: O, h => by
    have ha := h a (by simp)
    have hl : a.toNat < names.length := by omega
    have hs : names[a.toNat]? = some (names.getD a.toNat ByteArray.empty) := by rw [List.getD_eq_getElem?_getD, List.getElem?_eq_getElem hl]; rfl
    have ih := pick_map names O fun n hn => h n (by simp [hn])
    unfold pickN at ih ⊢
    rw [List.filterMap_cons, if_pos ha, hs, List.map_cons, ih]
theorem args_ren {x y : Qu} (h : Renamed x y) : argsJ y = (argsJ x).map (renA (orderJ (varsJ x))) := by
  unfold argsJ argsA argsT
  rw [h.atoms, h.tests, List.map_append, List.flatMap_map, List.flatMap_map, List.map_flatMap, List.map_flatMap]
  rfl
theorem varsA_ren (O : List Int) : ∀ l : List Ar, varsA (l.map (renA O)) = (varsA l).map (ren O)
  | [] => rfl
  | a :: l => by
    have ih := varsA_ren O l
    unfold varsA at ih ⊢
    rw [List.map_cons, List.filter_cons, List.filter_cons, renA_var]
    cases hv : a.var with
    | true =>
      simp only [if_true, List.map_cons, ih]
      congr 1
      unfold renA; rw [if_pos hv]
    | false =>
      simp only [Bool.false_eq_true, if_false, ih]
theorem vars_ren {x y : Qu} (h : Renamed x y) : varsJ y = (varsJ x).map (ren (orderJ (varsJ x))) := by
  have e : varsJ y = y.shows ++ varsA (argsJ y) := rfl
  rw [e, h.shows, args_ren h, varsA_ren]
  show _ = List.map _ (x.shows ++ varsA (argsJ x))
  rw [List.map_append]
theorem turned_args {q x : Qu} (h : TurnedJ q x) : (argsJ x).Perm (argsJ q) := by
  unfold argsJ argsA argsT
  exact (h.atoms.flatMap_right _).append (h.tests.flatMap_right _)
theorem turned_vars {q x : Qu} (h : TurnedJ q x) : (varsJ x).Perm (varsJ q) := by
  unfold varsJ varsA
  rw [h.shows]
  exact (List.Perm.refl _).append (((turned_args h).filter _).map _)
theorem turned_ok {q x : Qu} (h : TurnedJ q x) (hv : VarsOk q) : VarsOk x := by
  obtain ⟨h1, h2, h3⟩ := hv
  refine ⟨fun n hn => ?_, fun a ha hav => ?_, fun t ht => h3 t (h.tests.mem_iff.1 ht)⟩
  · rw [h.names]; rw [h.shows] at hn; exact h1 n hn
  · rw [h.names]; exact h2 a ((turned_args h).mem_iff.1 ha) hav
/-- The order holds each variable once. -/
theorem turned_order {wd : ByteArray → Int} {q x : Qu} (h : TurnedJ q x) (hc : checkJ wd q = true) : (orderJ (varsJ x)).Perm (rangeI x.names.length) := by
  simp only [checkJ, Bool.and_eq_true, decide_eq_true_eq, next_order] at hc
  have h1 := hc.2.2
  refine (List.perm_ext_iff_of_nodup (orderJ_nodup _) ?_).2 fun n => ?_
  · rw [h.names, ← h1]; exact orderJ_nodup _
  · rw [orderJ_mem, (turned_vars h).mem_iff, ← orderJ_mem, h1, h.names]
theorem rangeI_nodup (k : Nat) : (rangeI k).Nodup := by
  refine List.pairwise_iff_getElem.2 fun i j hi hj hij he => ?_
  rw [rangeI_len] at hi hj
  have h1 : (rangeI k)[i]? = (rangeI k)[j]? := by rw [List.getElem?_eq_getElem (by rw [rangeI_len]; exact hi), List.getElem?_eq_getElem (by rw [rangeI_len]; exact hj), he]
  rw [rangeI_get hi, rangeI_get hj] at h1
  have := Option.some.inj h1
  omega
theorem nodup_map_on {α β : Type} {f : α → β} : ∀ {l : List α}, (∀ a ∈ l, ∀ b ∈ l, f a = f b → a = b) → l.Nodup → (l.map f).Nodup
  | [], _, _ => by simp
  | a :: l, h, hd => by
    obtain ⟨h1, h2⟩ := List.nodup_cons.1 hd
    rw [List.map_cons, List.nodup_cons]
    refine ⟨fun hm => ?_, nodup_map_on (fun x hx y hy => h x (by simp [hx]) y (by simp [hy])) h2⟩
    obtain ⟨b, hb, hba⟩ := List.mem_map.1 hm
    have := h a (by simp) b (by simp [hb]) hba.symm
    subst this
    exact h1 hb
theorem perm_all {α : Type} {l m : List α} (h : l.Perm m) (p : α → Bool) : l.all p = m.all p := by
  rw [Bool.eq_iff_iff, List.all_eq_true, List.all_eq_true]
  exact ⟨fun h1 x hx => h1 x (h.mem_iff.2 hx), fun h1 x hx => h1 x (h.mem_iff.1 hx)⟩
theorem renamed_len {wd : ByteArray → Int} {q x y : Qu} (ht : TurnedJ q x) (hr : Renamed x y) (hc : checkJ wd q = true) : y.names.length = q.names.length := by
  have hp := turned_order ht hc
  rw [hr.names, pick_map _ _ fun n hn => rangeI_mem.1 (hp.mem_iff.1 hn), List.length_map, hp.length_eq, rangeI_len, ht.names]
theorem renamed_check {wd : ByteArray → Int} {q x y : Qu} (ht : TurnedJ q x) (hr : Renamed x y) (hc : checkJ wd q = true) : checkJ wd y = true := by
  have hp := turned_order ht hc
  have hn := renamed_len ht hr hc
  have hv := turned_ok ht (check_vars hc)
  have hpick := pick_map x.names _ fun n hn => rangeI_mem.1 (hp.mem_iff.1 hn)
  simp only [checkJ, Bool.and_eq_true, decide_eq_true_eq, next_order] at hc ⊢
  obtain ⟨⟨⟨⟨⟨⟨⟨c1, c2⟩, c3⟩, c4⟩, c5⟩, c6⟩, c7⟩, c8, c9⟩ := hc
  have hsh : ∀ n ∈ x.shows, n ∈ orderJ (varsJ x) := fun n hn => (orderJ_mem _ _).2 (List.mem_append_left _ hn)
  refine ⟨⟨⟨⟨⟨⟨⟨?_, ?_⟩, ?_⟩, ?_⟩, ?_⟩, ?_⟩, ?_⟩, ?_, ?_⟩
  · simp only [sizesJ, Bool.and_eq_true, decide_eq_true_eq] at c1 ⊢
    rw [hn, hr.shows, hr.atoms, hr.tests, List.length_map, List.length_map, List.length_map, ht.shows, ht.atoms.length_eq, ht.tests.length_eq]
    exact c1
  · rw [hr.names, hpick, List.all_map, List.all_eq_true]
    intro n hn
    have h1 := rangeI_mem.1 (hp.mem_iff.1 hn)
    have hl : n.toNat < x.names.length := by omega
    have h2 := List.all_eq_true.1 c2 (x.names.getD n.toNat ByteArray.empty) (by rw [← ht.names, List.getD_eq_getElem?_getD, List.getElem?_eq_getElem hl]; exact List.getElem_mem hl)
    exact h2
  · rw [firstB_nodup, hr.names, hpick]
    refine nodup_map_on (fun a ha b hb hab => ?_) (orderJ_nodup _)
    have h1 := rangeI_mem.1 (hp.mem_iff.1 ha)
    have h2 := rangeI_mem.1 (hp.mem_iff.1 hb)
    have l1 : a.toNat < x.names.length := by omega
    have l2 : b.toNat < x.names.length := by omega
    rw [List.getD_eq_getElem?_getD, List.getD_eq_getElem?_getD, List.getElem?_eq_getElem l1, List.getElem?_eq_getElem l2] at hab
    have hd := (firstB_nodup _).1 c3
    rw [← ht.names] at hd
    have := (List.getElem_inj hd).1 (show x.names[a.toNat] = x.names[b.toNat] from hab)
    omega
  · rw [firstB_nodup, hr.shows]
    refine nodup_map_on (fun a ha b hb hab => ren_inj (hsh a ha) (hsh b hb) hab) ?_
    rw [ht.shows]; exact (firstB_nodup _).1 c4
  · rw [hr.atoms, List.all_map]
    rw [← perm_all ht.atoms] at c5
    exact c5
  · rw [hr.tests, List.all_map]
    rw [← perm_all ht.tests] at c6
    exact c6
  · rw [args_ren hr, List.all_map, List.all_eq_true]
    rw [← perm_all (turned_args ht), List.all_eq_true] at c7
    intro a ha
    have := c7 a ha
    show arOk (renA _ a) = true
    unfold arOk at this ⊢
    rw [renA_var]
    cases hva : a.var with
    | true => rfl
    | false =>
      rw [hva] at this
      unfold renA
      rw [if_neg (by rw [hva]; simp)]
      exact this
  · rw [vars_ren hr, hn]
    intro n hm
    obtain ⟨v, hv2, rfl⟩ := List.mem_map.1 hm
    obtain ⟨i, hi, _, _, h2⟩ := ixB_mem ((orderJ_mem _ _).2 hv2)
    unfold ren
    rw [h2]
    rw [hp.length_eq, rangeI_len, ht.names] at hi
    omega
  · rw [vars_ren hr, order_map fun a ha b hb hab => ren_inj ((orderJ_mem _ _).2 ha) ((orderJ_mem _ _).2 hb) hab, map_ren (orderJ_nodup _), hp.length_eq, rangeI_len, hn, ht.names]
/-- Values in another order. -/
theorem ren_val {O : List Int} {u v : List Int} (hv : v = O.map fun n => u.getD n.toNat 0) {n : Int} (hn : n ∈ O) : v.getD (ren O n).toNat 0 = u.getD n.toNat 0 := by
  obtain ⟨i, hi, h1, _, h2⟩ := ixB_mem hn
  unfold ren
  rw [h2, hv, Int.toNat_natCast, List.getD_eq_getElem?_getD, List.getElem?_map, h1]
  rfl
theorem ren_valJ {O : List Int} {u v : List Int} (hv : v = O.map fun n => u.getD n.toNat 0) {a : Ar} (ha : a.var = true → a.n ∈ O) : valJ (renA O a) v = valJ a u := by
  unfold valJ
  rw [renA_var]
  cases hva : a.var with
  | true =>
    simp only [if_true]
    have e : (renA O a).n = ren O a.n := by unfold renA; rw [if_pos hva]
    rw [e, ren_val hv (ha hva)]
  | false =>
    simp only [Bool.false_eq_true, if_false]
    unfold renA; rw [if_neg (by rw [hva]; simp)]
theorem renamed_holds {x y : Qu} (hr : Renamed x y) {l m : List Fc} (hat : ∀ k t known, atF l k t known = atF m k t known) {u v : List Int} (hv : v = (orderJ (varsJ x)).map fun n => u.getD n.toNat 0) : holdsJ y m v = holdsJ x l u := by
  unfold holdsJ
  rw [hr.atoms, hr.tests, List.all_map, List.all_map]
  have hin : ∀ a ∈ argsJ x, a.var = true → a.n ∈ orderJ (varsJ x) := fun a ha hva => (orderJ_mem _ _).2 (List.mem_append_right _ (varsA_mem.2 ⟨a, ha, hva, rfl⟩))
  congr 1
  · rw [Bool.eq_iff_iff, List.all_eq_true, List.all_eq_true]
    have e : ∀ a ∈ x.atoms, (atomJ m v ∘ renM (orderJ (varsJ x))) a = atomJ l u a := by
      intro a ha
      show atomJ m v (renM _ a) = _
      unfold atomJ renM
      simp only []
      rw [ren_valJ hv (hin _ (args_atom ha (by simp))), ren_valJ hv (hin _ (args_atom ha (by simp))), ren_valJ hv (hin _ (args_atom ha (by simp))), hat]
    exact ⟨fun h a ha => by rw [← e a ha]; exact h a ha, fun h a ha => by rw [e a ha]; exact h a ha⟩
  · rw [Bool.eq_iff_iff, List.all_eq_true, List.all_eq_true]
    have e : ∀ t ∈ x.tests, (testJ v ∘ renT (orderJ (varsJ x))) t = testJ u t := by
      intro t ht
      show testJ v (renT _ t) = _
      unfold testJ renT
      simp only []
      rw [ren_valJ hv (hin _ (args_test ht (by simp))), ren_valJ hv (hin _ (args_test ht (by simp)))]
    exact ⟨fun h a ha => by rw [← e a ha]; exact h a ha, fun h a ha => by rw [e a ha]; exact h a ha⟩
theorem renamed_show {x y : Qu} (hr : Renamed x y) {u v : List Int} (hv : v = (orderJ (varsJ x)).map fun n => u.getD n.toNat 0) : showJ y v = showJ x u := by
  unfold showJ
  rw [hr.shows, List.map_map]
  refine List.map_congr_left fun n hn => ?_
  show v.getD (ren _ n).toNat 0 = _
  rw [ren_val hv ((orderJ_mem _ _).2 (List.mem_append_left _ hn))]
theorem turned_holds {q x : Qu} (h : TurnedJ q x) (l : List Fc) (u : List Int) : holdsJ x l u = holdsJ q l u := by
  unfold holdsJ
  rw [perm_all h.atoms, perm_all h.tests]
theorem turned_law {wd : ByteArray → Int} {q x y : Qu} (ht : TurnedJ q x) (hr : Renamed x y) (hc : checkJ wd q = true) {l m : List Fc} (hat : ∀ k t known, atF l k t known = atF m k t known) (hm : ∀ f, f ∈ l ↔ f ∈ m) : rowsJ q l = rowsJ y m := by
  have hvq := check_vars hc
  have hvy := check_vars (renamed_check ht hr hc)
  have hn := renamed_len ht hr hc
  have hp := turned_order ht hc
  have hdom : domR l = domR m := str_ext linJ (domR_str l) (domR_str m) fun k => by
    rw [domR_mem, domR_mem]
    unfold DomOf
    simp only [hm]
  have hO : (orderJ (varsJ x)).length = q.names.length := by rw [hp.length_eq, rangeI_len, ht.names]
  refine str_ext linX (rowsJ_str _ _) (rowsJ_str _ _) fun r => ?_
  rw [rowsJ_mem hvq, rowsJ_mem hvy]
  constructor
  · rintro ⟨u, ⟨h1, h2, h3⟩, h4⟩
    refine ⟨(orderJ (varsJ x)).map fun n => u.getD n.toNat 0, ⟨by rw [List.length_map, hn, hO], fun n hn' => ?_, ?_⟩, ?_⟩
    · obtain ⟨i, hi, rfl⟩ := List.mem_map.1 hn'
      have h5 := rangeI_mem.1 (hp.mem_iff.1 hi)
      rw [ht.names] at h5
      have hl : i.toNat < u.length := by omega
      rw [← hdom, List.getD_eq_getElem?_getD, List.getElem?_eq_getElem hl]
      exact h2 _ (List.getElem_mem hl)
    · rw [renamed_holds hr hat rfl, turned_holds ht, h3]
    · rw [renamed_show hr rfl, ← h4]
      unfold showJ; rw [ht.shows]
  · rintro ⟨v, ⟨h1, h2, h3⟩, h4⟩
    have hv : v = (orderJ (varsJ x)).map fun n => ((rangeI q.names.length).map fun n => v.getD (ren (orderJ (varsJ x)) n).toNat 0).getD n.toNat 0 := by
      refine List.ext_getElem? fun i => ?_
      rw [List.getElem?_map]
      rcases Nat.lt_or_ge i v.length with hi | hi
      · have hiO : i < (orderJ (varsJ x)).length := by omega
        rw [List.getElem?_eq_getElem hiO, Option.map_some, List.getElem?_eq_getElem hi]
        have h5 := rangeI_mem.1 (hp.mem_iff.1 (List.getElem_mem hiO))
        rw [ht.names] at h5
        have h6 : (rangeI q.names.length)[((orderJ (varsJ x))[i]).toNat]? = some (orderJ (varsJ x))[i] := by
          rw [rangeI_get (by omega)]; congr 1; omega
        rw [List.getD_eq_getElem?_getD, List.getElem?_map, h6]
        simp only [Option.map_some, Option.getD_some]
        unfold ren
        rw [ixB_nodup (orderJ_nodup _) (List.getElem?_eq_getElem hiO), Int.toNat_natCast, List.getD_eq_getElem?_getD, List.getElem?_eq_getElem hi]
        rfl
      · rw [List.getElem?_eq_none hi, List.getElem?_eq_none (by omega)]; rfl
    refine ⟨(rangeI q.names.length).map fun n => v.getD (ren (orderJ (varsJ x)) n).toNat 0, ⟨by rw [List.length_map, rangeI_len], fun n hn' => ?_, ?_⟩, ?_⟩
    · obtain ⟨i, hi, rfl⟩ := List.mem_map.1 hn'
      have h5 : i ∈ orderJ (varsJ x) := hp.mem_iff.2 (by rw [ht.names]; exact hi)
      obtain ⟨k, hk, _, _, h6⟩ := ixB_mem h5
      unfold ren
      rw [h6, Int.toNat_natCast, hdom, List.getD_eq_getElem?_getD, List.getElem?_eq_getElem (by omega)]
      exact h2 _ (List.getElem_mem _)
    · rw [← turned_holds ht, ← renamed_holds hr hat hv, h3]
    · rw [← h4, renamed_show hr hv]
      unfold showJ; rw [ht.shows]
end Go.Proofs.YtbegdcjofnfkiaaDoor

end
