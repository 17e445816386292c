/- Several texts in one: AP1 AP2 AP3 AP4. -/
import Derived.Test.YtpnfpdkoeednhaaMC
section
/- Pages, plainly: a page that a walk has gone through is a tree in order. -/
namespace Go.Proofs.Ytpnfpdkoeednhaa
open Go.RowKit

abbrev StrP (l : List Fc) : Prop := l.Pairwise fun x y => ltP x y = true

/-- A chain of facts behind a last one. -/
def ChainP : Option Fc → List Fc → Prop
  | _, [] => True
  | o, f :: l => nextOk o f = true ∧ ChainP (some f) l
theorem ChainP.append {b : List Fc} : ∀ {a : List Fc} {o : Option Fc}, ChainP o (a ++ b) ↔ ChainP o a ∧ ChainP (a.getLast?.or o) b
  | [], o => by simp [ChainP]
  | x :: a, o => by
    show nextOk o x = true ∧ ChainP (some x) (a ++ b) ↔ (nextOk o x = true ∧ ChainP (some x) a) ∧ _
    rw [ChainP.append (a := a) (o := some x), and_assoc]
    have : (x :: a).getLast?.or o = a.getLast?.or (some x) := by
      rw [List.getLast?_cons]
      cases a.getLast? <;> simp
    rw [this]
theorem ChainP.str : ∀ {l : List Fc} {o : Option Fc}, ChainP o l ↔ (∀ f ∈ l, f.ok = true) ∧ StrP l ∧ ∀ a, o = some a → ∀ f ∈ l, ltP a f = true
  | [], o => by simp [ChainP, StrP]
  | f :: l, o => by
    show nextOk o f = true ∧ ChainP (some f) l ↔ _
    rw [ChainP.str (l := l) (o := some f)]
    unfold nextOk
    rw [Bool.and_eq_true]
    constructor
    · rintro ⟨⟨h1, h2⟩, h3, h4, h5⟩
      refine ⟨?_, List.pairwise_cons.2 ⟨h5 f rfl, h4⟩, ?_⟩
      · intro x hx; rcases List.mem_cons.1 hx with rfl | hx
        · exact h1
        · exact h3 x hx
      · rintro a rfl x hx
        rcases List.mem_cons.1 hx with rfl | hx
        · exact h2
        · exact ltP_tr _ _ _ h2 (h5 f rfl x hx)
    · rintro ⟨h1, h2, h3⟩
      obtain ⟨h4, h5⟩ := List.pairwise_cons.1 h2
      refine ⟨⟨h1 f (by simp), ?_⟩, fun x hx => h1 x (List.mem_cons_of_mem _ hx), h5, fun a e => by cases e; exact h4⟩
      cases o with
      | none => rfl
      | some a => exact h3 a rfl f (by simp)
theorem ChainP.of_none {l : List Fc} : ChainP none l ↔ (∀ f ∈ l, f.ok = true) ∧ StrP l := by
  rw [ChainP.str]; simp

/-- A page that stands as a tree, with so many levels. -/
inductive Tr (ps : List Pv) : Bool → Nat → Nat → Prop
  | leaf {root : Bool} {p : Nat} {g : Pv} : ps[p]? = some g → pgOk root g = true → g.kids.length = 0 → Tr ps root p 1
  | node {root : Bool} {p d : Nat} {g : Pv} : ps[p]? = some g → pgOk root g = true → g.kids.length ≠ 0 → (∀ (i : Nat) (kid : Int), g.kids[i]? = some kid → 0 ≤ kid ∧ kid < p) → (∀ (i : Nat) (kid : Int), g.kids[i]? = some kid → Tr ps false kid.toNat d) → Tr ps root p (d + 1)
theorem Tr.lt {ps : List Pv} {root : Bool} {p d : Nat} (h : Tr ps root p d) : p < ps.length := by
  cases h with
  | leaf hg _ _ => exact (List.getElem?_eq_some_iff.1 hg).1
  | node hg _ _ _ _ => exact (List.getElem?_eq_some_iff.1 hg).1
theorem pgOk_kids {root : Bool} {g : Pv} (h : pgOk root g = true) (h0 : g.kids.length ≠ 0) : g.kids.length = g.facts.length + 1 ∧ 1 ≤ g.facts.length := by
  unfold pgOk at h
  simp only [Bool.and_eq_true, Bool.or_eq_true, decide_eq_true_eq] at h
  omega
theorem pgOk_four {root : Bool} {g : Pv} (h : pgOk root g = true) : g.facts.length ≤ 4 ∧ (root = false → 2 ≤ g.facts.length) := by
  unfold pgOk at h
  simp only [Bool.and_eq_true, Bool.or_eq_true, decide_eq_true_eq] at h
  refine ⟨h.1.1, fun e => ?_⟩
  subst e
  rcases h.1.2 with h | h
  · cases h
  · exact h

/-- What the loop has gone through. -/
def LoopOk (ps : List Pv) (p : Nat) (g : Pv) (n lv : Nat) : Prop :=
  if g.kids.length = 0 then lv = 0 else (n = 0 → lv = 0) ∧ ∀ (i : Nat) (kid : Int), i < n → g.kids[i]? = some kid → (0 ≤ kid ∧ kid < p) ∧ Tr ps false kid.toNat lv
theorem kidW_none {ps : List Pv} {p : Nat} {kid : Int} {l : List Fc} (h : ¬ (0 ≤ kid ∧ kid < p)) : kidW ps p kid l = none := by unfold kidW; rw [if_neg h]
theorem kidW_some {ps : List Pv} {p : Nat} {kid : Int} {l : List Fc} (h : 0 ≤ kid ∧ kid < p) : kidW ps p kid l = walkP ps kid.toNat false l := by unfold kidW; rw [if_pos h]
theorem getLast?_app (l m : List Fc) : (l ++ m).getLast? = m.getLast?.or l.getLast? := List.getLast?_append ..
theorem subT_of {ps : List Pv} {p : Nat} {g : Pv} {i : Nat} {kid : Int} (hk : g.kids[i]? = some kid) (hp : 0 ≤ kid ∧ kid < p) : subT ps p g i = allT ps kid.toNat := by
  have : g.kids[i]? = some ((kid.toNat : Nat) : Int) := by rw [hk]; congr 1; omega
  exact subT_kid this (by omega)

theorem loop_iff {ps : List Pv} {p : Nat} {g : Pv} (hg0 : g.kids.length ≠ 0 → g.kids.length = g.facts.length + 1)
    (IH : ∀ (kid : Int) (l m : List Fc) (d : Nat), 0 ≤ kid → kid < (p : Int) → (walkP ps kid.toNat false l = some (m, d) ↔ Tr ps false kid.toNat d ∧ m = l ++ allT ps kid.toNat ∧ ChainP l.getLast? (allT ps kid.toNat))) (l : List Fc) :
    ∀ n, n ≤ g.facts.length + 1 → ∀ m lv, loopW (kidW ps p) g l n = some (m, lv) ↔ LoopOk ps p g n lv ∧ m = l ++ outT ps p g n ∧ ChainP l.getLast? (outT ps p g n)
  | 0, _, m, lv => by
    rw [loopW_zero]
    have : outT ps p g 0 = [] := rfl
    rw [this]
    unfold LoopOk
    constructor
    · intro h; cases h
      refine ⟨?_, by simp, trivial⟩
      split
      · rfl
      · exact ⟨fun _ => rfl, fun i _ hi => by omega⟩
    · rintro ⟨h1, h2, _⟩
      subst h2
      have : lv = 0 := by
        split at h1
        · exact h1
        · exact h1.1 rfl
      rw [this]; simp
  | n + 1, hn, m, lv => by
    have ih := loop_iff hg0 IH l n (by omega)
    rw [outT_succ]
    have key : ∀ m0 lv0, loopW (kidW ps p) g l n = some (m0, lv0) → ((loopW (kidW ps p) g l (n + 1) = some (m, lv)) ↔ LoopOk ps p g (n + 1) lv ∧ m = l ++ (outT ps p g n ++ (subT ps p g n ++ g.facts[n]?.toList)) ∧ ChainP l.getLast? (outT ps p g n ++ (subT ps p g n ++ g.facts[n]?.toList))) := by
      intro m0 lv0 h0
      obtain ⟨a1, a2, a3⟩ := (ih m0 lv0).1 h0
      have hlast : (outT ps p g n).getLast?.or l.getLast? = m0.getLast? := by rw [a2, getLast?_app]
      rw [ChainP.append, hlast]
      rcases Nat.eq_zero_or_pos g.kids.length with hk | hk
      · rw [subT_leaf hk, List.nil_append]
        unfold LoopOk at a1 ⊢
        rw [if_pos hk] at a1 ⊢
        subst a1
        cases hf : g.facts[n]? with
        | none =>
          rw [step_leaf_end hk h0 hf]
          simp only [Option.toList, List.append_nil, ChainP, and_true]
          rw [← a2]
          constructor
          · intro h; cases h; exact ⟨rfl, rfl, a3⟩
          · rintro ⟨rfl, rfl, _⟩; rfl
        | some f =>
          rw [step_leaf_fact hk h0 hf]
          simp only [Option.toList, ChainP, and_true]
          rw [← List.append_assoc, ← a2]
          split
          · rename_i hok
            constructor
            · intro h; cases h; exact ⟨rfl, rfl, a3, hok⟩
            · rintro ⟨rfl, rfl, _⟩; rfl
          · rename_i hok
            constructor
            · intro h; cases h
            · rintro ⟨_, _, _, h⟩; exact absurd h hok
      · have hlen := hg0 (by omega)
        obtain ⟨kid, hkid⟩ : ∃ kid, g.kids[n]? = some kid := ⟨_, List.getElem?_eq_getElem (by omega)⟩
        have a1' := a1
        unfold LoopOk at a1 ⊢
        rw [if_neg (by omega)] at a1 ⊢
        by_cases hrange : 0 ≤ kid ∧ kid < (p : Int)
        · rw [subT_of hkid hrange]
          cases hs : walkP ps kid.toNat false m0 with
          | none =>
            rw [step_kid_no hkid h0 (by rw [kidW_some hrange]; exact hs)]
            constructor
            · intro h; cases h
            · rintro ⟨⟨_, h1⟩, _, _, h2⟩
              have := (IH kid m0 (m0 ++ allT ps kid.toNat) lv hrange.1 hrange.2).2 ⟨(h1 n kid (by omega) hkid).2, rfl, (ChainP.append.1 h2).1⟩
              rw [hs] at this; cases this
          | some r =>
            obtain ⟨m', d⟩ := r
            obtain ⟨b1, b2, b3⟩ := (IH kid m0 m' d hrange.1 hrange.2).1 hs
            have hlast2 : (allT ps kid.toNat).getLast?.or m0.getLast? = m'.getLast? := by rw [b2, getLast?_app]
            by_cases hd : n = 0 ∨ d = lv0
            · have hok : (n + 1 = 0 → d = 0) ∧ ∀ (i : Nat) (kid : Int), i < n + 1 → g.kids[i]? = some kid → (0 ≤ kid ∧ kid < (p : Int)) ∧ Tr ps false kid.toNat d := by
                refine ⟨fun h => by omega, fun i kid' hi hk' => ?_⟩
                rcases Nat.lt_or_ge i n with h | h
                · have hdl : d = lv0 := by omega
                  rw [hdl]; exact a1.2 i kid' h hk'
                · obtain rfl : i = n := by omega
                  rw [hkid] at hk'; cases hk'
                  exact ⟨hrange, b1⟩
              have huniq : ∀ lv', ((n + 1 = 0 → lv' = 0) ∧ ∀ (i : Nat) (kid : Int), i < n + 1 → g.kids[i]? = some kid → (0 ≤ kid ∧ kid < (p : Int)) ∧ Tr ps false kid.toNat lv') → lv' = d := by
                rintro lv' ⟨_, h⟩
                have := (IH kid m0 m' lv' hrange.1 hrange.2).2 ⟨(h n kid (by omega) hkid).2, b2, b3⟩
                rw [hs] at this; cases this; rfl
              cases hf : g.facts[n]? with
              | none =>
                rw [step_kid_end hkid h0 (by rw [kidW_some hrange]; exact hs) hd hf]
                simp only [Option.toList, List.append_nil]
                rw [← List.append_assoc, ← a2, ← b2]
                constructor
                · intro h; cases h; exact ⟨hok, rfl, a3, b3⟩
                · rintro ⟨h1, rfl, _⟩; rw [huniq lv h1]
              | some f =>
                rw [step_kid_fact hkid h0 (by rw [kidW_some hrange]; exact hs) hd hf]
                simp only [Option.toList]
                rw [ChainP.append, hlast2]
                simp only [ChainP, and_true]
                have e : l ++ (outT ps p g n ++ (allT ps kid.toNat ++ [f])) = m' ++ [f] := by rw [b2, a2]; simp
                rw [e]
                split
                · rename_i hok2
                  constructor
                  · intro h; cases h; exact ⟨hok, rfl, a3, b3, hok2⟩
                  · rintro ⟨h1, rfl, _⟩; rw [huniq lv h1]
                · rename_i hok2
                  constructor
                  · intro h; cases h
                  · rintro ⟨_, _, _, _, h⟩; exact absurd h hok2
            · rw [step_kid_lv hkid h0 (by rw [kidW_some hrange]; exact hs) hd]
              constructor
              · intro h; cases h
              · rintro ⟨⟨_, h1⟩, _, _, h2⟩
                have hlv : lv = d := by
                  have := (IH kid m0 m' lv hrange.1 hrange.2).2 ⟨(h1 n kid (by omega) hkid).2, b2, b3⟩
                  rw [hs] at this; cases this; rfl
                have : loopW (kidW ps p) g l n = some (m0, lv) := by
                  refine (ih m0 lv).2 ⟨?_, a2, a3⟩
                  unfold LoopOk
                  rw [if_neg (by omega)]
                  exact ⟨fun h => by omega, fun i kid' hi hk' => h1 i kid' (by omega) hk'⟩
                rw [h0] at this; cases this
                exact absurd (.inr hlv.symm) hd
        · rw [step_kid_no hkid h0 (kidW_none hrange)]
          constructor
          · intro h; cases h
          · rintro ⟨⟨_, h1⟩, _⟩
            exact absurd (h1 n kid (by omega) hkid).1 hrange
    cases h0 : loopW (kidW ps p) g l n with
    | some s => exact key s.1 s.2 h0
    | none =>
      rw [loopW_none h0 (n + 1) (by omega)]
      constructor
      · intro h; cases h
      · rintro ⟨h1, _, h2⟩
        have : ∃ lv', LoopOk ps p g n lv' := by
          unfold LoopOk at h1 ⊢
          split at h1
          · exact ⟨0, by rw [if_pos (by assumption)]⟩
          · rename_i hk
            rcases Nat.eq_zero_or_pos n with h | h
            · exact ⟨0, by rw [if_neg hk]; exact ⟨fun _ => rfl, fun i _ hi => by omega⟩⟩
            · exact ⟨lv, by rw [if_neg hk]; exact ⟨fun h => by omega, fun i kid hi => h1.2 i kid (by omega)⟩⟩
        obtain ⟨lv', h3⟩ := this
        have := (ih (l ++ outT ps p g n) lv').2 ⟨h3, rfl, (ChainP.append.1 h2).1⟩
        rw [h0] at this; cases this
/-- What the walk says. -/
theorem walk_iff (ps : List Pv) : ∀ (k p : Nat) (root : Bool) (l m : List Fc) (d : Nat), p < k → (walkP ps p root l = some (m, d) ↔ Tr ps root p d ∧ m = l ++ allT ps p ∧ ChainP l.getLast? (allT ps p))
  | 0, _, _, _, _, _, h => by omega
  | k + 1, p, root, l, m, d, hk => by
    cases hg : ps[p]? with
    | none =>
      rw [walkP_no hg]
      constructor
      · intro h; cases h
      · rintro ⟨h, _⟩
        have := h.lt
        rw [List.getElem?_eq_none_iff] at hg; omega
    | some g =>
      rw [walkP_eq hg]
      by_cases hok : pgOk root g = true
      · rw [if_pos hok, allT_eq hg]
        have L := loop_iff (ps := ps) (p := p) (g := g) (fun h => (pgOk_kids hok h).1) (fun kid l m d h1 h2 => walk_iff ps k kid.toNat false l m d (by omega)) l (g.facts.length + 1) (Nat.le_refl _)
        constructor
        · intro h
          cases hl : loopW (kidW ps p) g l (g.facts.length + 1) with
          | none => rw [hl] at h; cases h
          | some s =>
            obtain ⟨m', lv⟩ := s
            rw [hl] at h
            simp only [Option.map_some, Option.some.injEq, Prod.mk.injEq] at h
            obtain ⟨rfl, rfl⟩ := h
            obtain ⟨h1, h2, h3⟩ := (L m' lv).1 hl
            refine ⟨?_, h2, h3⟩
            unfold LoopOk at h1
            split at h1
            · subst h1; rename_i h0; exact Tr.leaf hg hok h0
            · rename_i h0
              have hlen := (pgOk_kids hok h0).1
              have hi : ∀ (i : Nat) (kid : Int), g.kids[i]? = some kid → i < g.facts.length + 1 := fun i kid h => by have := (List.getElem?_eq_some_iff.1 h).1; omega
              exact Tr.node hg hok h0 (fun i kid h => (h1.2 i kid (hi i kid h) h).1) (fun i kid h => (h1.2 i kid (hi i kid h) h).2)
        · rintro ⟨h1, rfl, h3⟩
          have : ∃ lv, lv + 1 = d ∧ LoopOk ps p g (g.facts.length + 1) lv := by
            cases h1 with
            | leaf hg' _ h0 => rw [hg] at hg'; cases hg'; exact ⟨0, rfl, by unfold LoopOk; rw [if_pos h0]⟩
            | @node _ _ d' _ hg' _ h0 h2 h4 => rw [hg] at hg'; cases hg'; exact ⟨d', rfl, by unfold LoopOk; rw [if_neg h0]; exact ⟨fun h => by omega, fun i kid _ h => ⟨h2 i kid h, h4 i kid h⟩⟩⟩
          obtain ⟨lv, rfl, h4⟩ := this
          rw [(L _ lv).2 ⟨h4, rfl, h3⟩]
          rfl
      · rw [if_neg hok]
        constructor
        · intro h; cases h
        · rintro ⟨h, _⟩
          cases h with
          | leaf hg' h1 _ => rw [hg] at hg'; cases hg'; exact absurd h1 hok
          | node hg' h1 _ _ _ => rw [hg] at hg'; cases hg'; exact absurd h1 hok
theorem walkP_iff {ps : List Pv} {p : Nat} {root : Bool} {l m : List Fc} {d : Nat} : walkP ps p root l = some (m, d) ↔ Tr ps root p d ∧ m = l ++ allT ps p ∧ ChainP l.getLast? (allT ps p) := walk_iff ps (p + 1) p root l m d (by omega)
/-- A good root. -/
def GoodR (ps : List Pv) (p d : Nat) : Prop := Tr ps true p d ∧ (∀ f ∈ allT ps p, f.ok = true) ∧ StrP (allT ps p)
theorem rootP_iff {ps : List Pv} {r : Int} : rootP ps r = true ↔ 0 ≤ r ∧ ∃ d, GoodR ps r.toNat d := by
  unfold rootP GoodR
  simp only [Bool.and_eq_true, decide_eq_true_eq]
  constructor
  · rintro ⟨⟨h1, h2⟩, h3⟩
    obtain ⟨⟨m, d⟩, h4⟩ := Option.isSome_iff_exists.1 h3
    obtain ⟨h5, _, h6⟩ := walkP_iff.1 h4
    exact ⟨h1, d, h5, ChainP.of_none.1 h6⟩
  · rintro ⟨h1, d, h2, h3⟩
    have := h2.lt
    refine ⟨⟨h1, by omega⟩, ?_⟩
    rw [(walkP_iff (l := [])).2 ⟨h2, rfl, ChainP.of_none.2 h3⟩]; rfl
theorem checkP_iff {ps : List Pv} {roots : List Int} : checkP ps roots = true ↔ roots ≠ [] ∧ ∀ r ∈ roots, 0 ≤ r ∧ ∃ d, GoodR ps r.toNat d := by
  unfold checkP
  simp only [Bool.and_eq_true, decide_eq_true_eq, List.all_eq_true, rootP_iff]
  constructor
  · rintro ⟨h1, h2⟩; exact ⟨fun e => by subst e; simp at h1, h2⟩
  · rintro ⟨h1, h2⟩; exact ⟨by rcases roots with _ | ⟨a, l⟩; exact absurd rfl h1; simp, h2⟩
end Go.Proofs.Ytpnfpdkoeednhaa

end
section
/- Pages, plainly: what an insertion leaves. -/
namespace Go.Proofs.Ytpnfpdkoeednhaa
open Go.RowKit

/-- Lists of facts, with facts between them. -/
def inter : List (List Fc) → List Fc → List Fc
  | s :: S, f :: F => s ++ f :: inter S F
  | s :: _, [] => s
  | [], F => F
theorem outT_inter : ∀ (F : List Fc) (sub : Nat → List Fc), ((List.range (F.length + 1)).flatMap fun i => sub i ++ F[i]?.toList) = inter ((List.range (F.length + 1)).map sub) F
  | [], sub => by simp [List.range_succ, inter]
  | f :: F, sub => by
    have ih := outT_inter F (fun i => sub (i + 1))
    rw [List.length_cons, List.range_succ_eq_map, List.flatMap_cons, List.map_cons]
    have e1 : (List.flatMap (fun i => sub i ++ (f :: F)[i]?.toList) (List.map Nat.succ (List.range (F.length + 1)))) = (List.range (F.length + 1)).flatMap fun i => sub (i + 1) ++ F[i]?.toList := by
      rw [List.flatMap_map]; congr 1
    rw [e1, ih]
    have e2 : List.map sub (List.map Nat.succ (List.range (F.length + 1))) = List.map (fun i => sub (i + 1)) (List.range (F.length + 1)) := by rw [List.map_map]; rfl
    rw [e2]
    simp [inter]
def subs (ps : List Pv) (g : Pv) : List (List Fc) := g.kids.map fun (k : Int) => allT ps k.toNat
theorem subs_len (ps : List Pv) (g : Pv) : (subs ps g).length = g.kids.length := by simp [subs]
theorem allT_inter {ps : List Pv} {p : Nat} {g : Pv} (hg : ps[p]? = some g) (hn : g.kids.length = 0 ∨ (g.kids.length = g.facts.length + 1 ∧ ∀ (i : Nat) (kid : Int), g.kids[i]? = some kid → 0 ≤ kid ∧ kid < (p : Int))) : allT ps p = inter (subs ps g) g.facts := by
  rw [allT_eq hg]
  rcases hn with h0 | ⟨hl, hk⟩
  · have : subs ps g = [] := List.eq_nil_of_length_eq_zero (by rw [subs_len, h0])
    rw [this]
    show outT ps p g (g.facts.length + 1) = g.facts
    have aux : ∀ j, outT ps p g j = g.facts.take j := by
      intro j
      induction j with
      | zero => rfl
      | succ j ih => rw [outT_succ, ih, subT_leaf h0, List.nil_append, List.take_add_one]
    rw [aux, List.take_of_length_le (by omega)]
  · unfold outT
    rw [outT_inter]
    congr 1
    refine List.ext_getElem? fun i => ?_
    rw [List.getElem?_map]
    unfold subs
    rw [List.getElem?_map]
    rcases Nat.lt_or_ge i (g.facts.length + 1) with h | h
    · obtain ⟨kid, hkid⟩ : ∃ kid, g.kids[i]? = some kid := ⟨_, List.getElem?_eq_getElem (by omega)⟩
      rw [List.getElem?_range h, hkid]
      simp only [Option.map_some]
      rw [subT_of hkid (hk i kid hkid)]
    · rw [List.getElem?_eq_none (by simpa using h), List.getElem?_eq_none (by omega)]; rfl
/-- A page of a tree. -/
structure Pg (ps : List Pv) (root : Bool) (p d : Nat) (g : Pv) : Prop where
  get : ps[p]? = some g
  ok : pgOk root g = true
  kids : (g.kids = [] ∧ d = 1) ∨ (g.kids.length = g.facts.length + 1 ∧ ∃ d', d = d' + 1 ∧ ∀ (i : Nat) (kid : Int), g.kids[i]? = some kid → 0 ≤ kid ∧ kid < (p : Int) ∧ Tr ps false kid.toNat d')
theorem Tr.pg {ps : List Pv} {root : Bool} {p d : Nat} (h : Tr ps root p d) : ∃ g, Pg ps root p d g := by
  cases h with
  | @leaf _ _ g hg hok h0 => exact ⟨g, hg, hok, .inl ⟨List.eq_nil_of_length_eq_zero h0, rfl⟩⟩
  | @node _ _ d' g hg hok h0 h1 h2 => exact ⟨g, hg, hok, .inr ⟨(pgOk_kids hok h0).1, d', rfl, fun i kid h => ⟨(h1 i kid h).1, (h1 i kid h).2, h2 i kid h⟩⟩⟩
theorem Pg.all {ps : List Pv} {root : Bool} {p d : Nat} {g : Pv} (h : Pg ps root p d g) : allT ps p = inter (subs ps g) g.facts := by
  refine allT_inter h.get ?_
  rcases h.kids with ⟨h0, _⟩ | ⟨h0, d', _, h1⟩
  · exact .inl (by rw [h0]; rfl)
  · exact .inr ⟨h0, fun i kid hk => ⟨(h1 i kid hk).1, (h1 i kid hk).2.1⟩⟩

def Comp (f : Fc) (l : List Fc) : Prop := ∀ x ∈ l, ltP x f = true ∨ ltP f x = true
theorem takeWhile_split (p : Fc → Bool) (l : List Fc) : l = l.take (l.takeWhile p).length ++ l.drop (l.takeWhile p).length ∧ (∀ x ∈ l.take (l.takeWhile p).length, p x = true) ∧ ∀ x, l[(l.takeWhile p).length]? = some x → p x = false := by
  refine ⟨(List.take_append_drop _ _).symm, ?_, ?_⟩
  · induction l with
    | nil => simp
    | cons a l ih =>
      intro x hx
      rw [List.takeWhile_cons] at hx
      split at hx
      · rw [List.length_cons, List.take_succ_cons] at hx
        rcases List.mem_cons.1 hx with rfl | hx
        · assumption
        · exact ih x hx
      · simp at hx
  · induction l with
    | nil => simp
    | cons a l ih =>
      intro x hx
      rw [List.takeWhile_cons] at hx
      split at hx
      · rw [List.length_cons, List.getElem?_cons_succ] at hx
        exact ih x hx
      · rename_i h
        simp at hx; subst hx; simpa using h
theorem facts_sub : ∀ (S : List (List Fc)) (F : List Fc), List.Sublist F (inter S F)
  | s :: S, f :: F => by
    show List.Sublist (f :: F) (s ++ f :: inter S F)
    exact (List.Sublist.cons_cons f (facts_sub S F)).trans (List.sublist_append_right _ _)
  | _ :: _, [] => List.nil_sublist _
  | [], F => List.Sublist.refl _
end Go.Proofs.Ytpnfpdkoeednhaa

end
section
/- Pages, plainly: the law of an insertion, and of Put. -/
namespace Go.Proofs.Ytpnfpdkoeednhaa
open Go.RowKit

end Go.Proofs.Ytpnfpdkoeednhaa

end
section
/- Pages, plainly: an insertion, step by step. -/
namespace Go.Proofs.Ytpnfpdkoeednhaa
open Go.RowKit

theorem sub_inter : ∀ (S : List (List Fc)) (F : List Fc), S.length = F.length + 1 → ∀ s ∈ S, List.Sublist s (inter S F)
  | [s], [], _, t, ht => by simp at ht; subst ht; exact List.Sublist.refl _
  | s :: S, f :: F, h, t, ht => by
    show List.Sublist t (s ++ f :: inter S F)
    rcases List.mem_cons.1 ht with rfl | ht
    · exact List.sublist_append_left _ _
    · exact ((sub_inter S F (by simpa using h) t ht).cons f).trans (List.sublist_append_right _ _)
  | [], [], h, _, _ => by simp at h
  | [], _ :: _, h, _, _ => by simp at h
  | _ :: _ :: _, [], h, _, _ => by simp at h
theorem place_le (F : List Fc) (f : Fc) : placeP F f ≤ F.length := by unfold placeP; exact (List.takeWhile_sublist _).length_le
theorem Pg.kid {ps : List Pv} {root : Bool} {p d i : Nat} {g : Pv} (h : Pg ps root p d g) (h0 : g.kids ≠ []) (hi : i ≤ g.facts.length) :
    ∃ kid : Int, g.kids[i]? = some kid ∧ 0 ≤ kid ∧ kid < (p : Int) ∧ (∃ d', d = d' + 1 ∧ Tr ps false kid.toNat d') ∧ List.Sublist (allT ps kid.toNat) (allT ps p) := by
  rcases h.kids with ⟨h1, _⟩ | ⟨hl, d', hd, hk⟩
  · exact absurd h1 h0
  · obtain ⟨kid, hkid⟩ : ∃ kid, g.kids[i]? = some kid := ⟨_, List.getElem?_eq_getElem (by omega)⟩
    obtain ⟨a, b, c⟩ := hk i kid hkid
    refine ⟨kid, hkid, a, b, ⟨d', hd, c⟩, ?_⟩
    rw [h.all]
    refine sub_inter _ _ (by rw [subs_len, hl]) _ ?_
    unfold subs
    exact List.mem_map.2 ⟨kid, List.mem_of_getElem? hkid, rfl⟩
theorem getD_of {α : Type} {l : List α} {i : Nat} {x d : α} (h : l[i]? = some x) : l.getD i d = x := by rw [List.getD_eq_getElem?_getD, h]; rfl
theorem insW_fuel (f : Fc) : ∀ (n m : Nat) (ps : List Pv) (p : Nat) (root : Bool) (d : Nat), p < n → p < m → Tr ps root p d → insW f n ps p = insW f m ps p
  | 0, _, _, _, _, _, h, _, _ => by omega
  | _ + 1, 0, _, _, _, _, _, h, _ => by omega
  | n + 1, m + 1, ps, p, root, d, _, _, hT => by
    obtain ⟨g, hP⟩ := hT.pg
    unfold insW
    rw [getD_of hP.get]
    dsimp only
    by_cases h0 : g.kids = []
    · rw [if_pos (by rw [h0]; rfl), if_pos (by rw [h0]; rfl)]
    · obtain ⟨kid, hk, a, b, ⟨d', _, c⟩, _⟩ := hP.kid h0 (place_le g.facts f)
      rw [getD_of hk, insW_fuel f n m ps kid.toNat false d' (by omega) (by omega) c]
theorem insW_leaf {ps : List Pv} {p n : Nat} {g : Pv} {f : Fc} (hg : ps[p]? = some g) (h0 : g.kids.length = 0) : insW f (n + 1) ps p = splitP ps ⟨insAt g.facts (placeP g.facts f) f, []⟩ := by
  conv => lhs; unfold insW
  rw [getD_of hg]
  dsimp only
  rw [if_pos h0]
theorem insW_none {ps ps' : List Pv} {root : Bool} {p d a : Nat} {g : Pv} {f : Fc} {kid : Int} (h : Pg ps root p d g) (h0 : g.kids.length ≠ 0) (hk : g.kids[placeP g.facts f]? = some kid) (hr : insW f (kid.toNat + 1) ps kid.toNat = (ps', a, none)) :
    insW f (p + 1) ps p = splitP ps' ⟨g.facts, g.kids.set (placeP g.facts f) a⟩ := by
  conv => lhs; unfold insW
  rw [getD_of h.get]
  dsimp only
  obtain ⟨kid', hk', h1, h2, ⟨d', _, h3⟩, _⟩ := h.kid (fun e => h0 (by rw [e]; rfl)) (place_le g.facts f)
  rw [hk] at hk'; cases hk'
  rw [if_neg h0, getD_of hk, insW_fuel f p (kid.toNat + 1) ps kid.toNat false d' (by omega) (by omega) h3, hr]
theorem insW_some {ps ps' : List Pv} {root : Bool} {p d a b : Nat} {g : Pv} {f m : Fc} {kid : Int} (h : Pg ps root p d g) (h0 : g.kids.length ≠ 0) (hk : g.kids[placeP g.facts f]? = some kid) (hr : insW f (kid.toNat + 1) ps kid.toNat = (ps', a, some (m, b))) :
    insW f (p + 1) ps p = splitP ps' ⟨insAt g.facts (placeP g.facts f) m, insAt (g.kids.set (placeP g.facts f) a) (placeP g.facts f + 1) b⟩ := by
  conv => lhs; unfold insW
  rw [getD_of h.get]
  dsimp only
  obtain ⟨kid', hk', h1, h2, ⟨d', _, h3⟩, _⟩ := h.kid (fun e => h0 (by rw [e]; rfl)) (place_le g.facts f)
  rw [hk] at hk'; cases hk'
  rw [if_neg h0, getD_of hk, insW_fuel f p (kid.toNat + 1) ps kid.toNat false d' (by omega) (by omega) h3, hr]
end Go.Proofs.Ytpnfpdkoeednhaa

end

