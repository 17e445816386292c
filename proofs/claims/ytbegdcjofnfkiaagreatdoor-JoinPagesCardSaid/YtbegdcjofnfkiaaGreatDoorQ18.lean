/- Several texts in one: A7 AP1 AP2 AP3 AP4 RelQS. -/
import Derived.Test.YtbegdcjofnfkiaaGreatDoorQ16
import Derived.Test.YtbegdcjofnfkiaaGreatDoorQ11
namespace Go.Proofs.YtbegdcjofnfkiaaGreatDoor
section
open Go.RowKit
def allG (ps : List Pv) : Nat → Nat → List Fc
  | 0, _ => []
  | n + 1, p =>
    match ps[p]? with
    | none => []
    | some g => (List.range (g.facts.length + 1)).flatMap fun i => (if g.kids.length = 0 then [] else if 0 ≤ g.kids.getD i 0 ∧ g.kids.getD i 0 < p then allG ps n (g.kids.getD i 0).toNat else []) ++ g.facts[i]?.toList
theorem allG_fuel (ps : List Pv) : ∀ n m p : Nat, p < n → p < m → allG ps n p = allG ps m p
  | 0, _, _, h, _ => by omega
  | _ + 1, 0, _, _, h => by omega
  | n + 1, m + 1, p, _, _ => by
    unfold allG
    split
    · rfl
    · rename_i g _
      congr 1
      funext i
      congr 1
      split
      · rfl
      · split
        · rename_i h
          exact allG_fuel ps n m _ (by omega) (by omega)
        · rfl
def allT (ps : List Pv) (p : Nat) : List Fc := allG ps (p + 1) p
def subT (ps : List Pv) (p : Nat) (g : Pv) (i : Nat) : List Fc := if g.kids.length = 0 then [] else if 0 ≤ g.kids.getD i 0 ∧ g.kids.getD i 0 < p then allT ps (g.kids.getD i 0).toNat else []
def outT (ps : List Pv) (p : Nat) (g : Pv) (j : Nat) : List Fc := (List.range j).flatMap fun i => subT ps p g i ++ g.facts[i]?.toList
theorem allT_eq {ps : List Pv} {p : Nat} {g : Pv} (hg : ps[p]? = some g) : allT ps p = outT ps p g (g.facts.length + 1) := by
 unfold allT allG outT
 rw [hg]
 dsimp only
 congr 1
 funext i
 congr 1
 unfold subT
 split
 ·rfl
 ·split
  ·rename_i h
   exact allG_fuel ps _ _ _ (by omega) (by omega)
  ·rfl
theorem outT_succ (ps : List Pv) (p : Nat) (g : Pv) (j : Nat) : outT ps p g (j + 1) = outT ps p g j ++ (subT ps p g j ++ g.facts[j]?.toList) := by
 unfold outT; rw [List.range_succ, List.flatMap_append]; simp
def OkT (ps : List Pv) (p : Nat) : Prop := ∃ root l, (walkP ps p root l).isSome = true
theorem loopW_sub {sub : Int → List Fc → Option (List Fc × Nat)} {g : Pv} {l : List Fc} (hk : g.kids.length ≠ 0) : ∀ (n : Nat), (loopW sub g l n).isSome = true → ∀ i, i < n → ∃ m r, sub (g.kids.getD i 0) m = some r
  | 0, _, i, hi => by omega
  | n + 1, h, i, hi => by
    cases hl : loopW sub g l n with
    | none => rw [loopW_none hl (n + 1) (by omega)] at h; cases h
    | some s =>
      rcases Nat.lt_or_ge i n with h1 | h1
      · exact loopW_sub hk n (by rw [hl]; rfl) i h1
      · obtain rfl : i = n := by omega
        rw [loopW_succ, hl] at h
        simp only [stepW, Option.bind_some, subW, if_neg hk] at h
        cases hs : sub (g.kids.getD i 0) s.1 with
        | none => simp only [hs, Option.bind_none] at h; cases h
        | some r => exact ⟨_, _, hs⟩
theorem OkT.page {ps : List Pv} {p : Nat} (h : OkT ps p) : ∃ g, ps[p]? = some g ∧ (g.kids.length = 0 ∨ (g.kids.length = g.facts.length + 1 ∧ ∀ i, i < g.kids.length → ∃ kn : Nat, g.kids[i]? = some (kn : Int) ∧ kn < p ∧ OkT ps kn)) := by
  obtain ⟨root, l, h⟩ := h
  cases hg : ps[p]? with
  | none => rw [walkP_no hg] at h; cases h
  | some g =>
    refine ⟨g, rfl, ?_⟩
    rw [walkP_eq hg] at h
    split at h
    · rename_i hok
      rw [Option.isSome_map] at h
      unfold pgOk at hok
      simp only [Bool.and_eq_true, Bool.or_eq_true, decide_eq_true_eq] at hok
      rcases Nat.eq_zero_or_pos g.kids.length with h0 | h0
      · exact .inl h0
      · have hl : g.kids.length = g.facts.length + 1 := by omega
        refine .inr ⟨hl, fun i hi => ?_⟩
        obtain ⟨m, r, hs⟩ := loopW_sub (by omega) _ h i (by omega)
        unfold kidW at hs
        split at hs
        · rename_i hk
          have hgi : g.kids[i]? = some (g.kids.getD i 0) := by rw [List.getD_eq_getElem?_getD, List.getElem?_eq_getElem hi]; rfl
          exact ⟨(g.kids.getD i 0).toNat, by rw [hgi]; congr 1; omega, by omega, false, m, by rw [hs]; rfl⟩
        · cases hs
    · cases h
theorem subT_kid {ps : List Pv} {p : Nat} {g : Pv} {i kn : Nat} (hk : g.kids[i]? = some (kn : Int)) (hp : kn < p) : subT ps p g i = allT ps kn := by
 have h0 : g.kids.length ≠ 0 := fun e => by rw [List.length_eq_zero_iff.1 e] at hk; simp at hk
 have hd : g.kids.getD i 0 = kn := by rw [List.getD_eq_getElem?_getD, hk]; rfl
 unfold subT
 rw [if_neg h0, hd, if_pos (by omega), Int.toNat_natCast]
theorem subT_leaf {ps : List Pv} {p : Nat} {g : Pv} {i : Nat} (hk : g.kids.length = 0) : subT ps p g i = [] := by unfold subT; rw [if_pos hk]
set_option maxRecDepth 100000 in
set_option maxHeartbeats 1000000 in
theorem pgall_any (s : Ps) (q : Int) (w : World) : Calls Tryz.prog 41 #[.agg #[.slice s.pA s.pn s.pc, .slice s.rA s.rn s.rc], .int .i64 q] w fun e w' =>
  e = .returned (.func (.func 85) #[] #[.pointer (some ⟨w.heap.size, 0, none⟩), .pointer (some ⟨w.heap.size + 1, 0, none⟩)]) ∧ w'.heap[w.heap.size]? = some (.cells #[.slice s.pA s.pn s.pc, .slice s.rA s.rn s.rc] 45 (0, 0)) ∧ w'.heap[w.heap.size + 1]? = some (.cells #[.int .i64 q] 3 (0, 0)) ∧ Below w.heap.size w w' := by
 have hmf : ∀ (fn : Fn) (first cap : Array Value) (W : World), (Instr.makeFunc fn first cap).run Tryz.prog W = .ok (.func fn first cap) W := fun _ _ _ _ => rfl
 go_enter Tryz.func41, Tryz.ntmps41
 go_wp2_with fail
 go_ret
 refine ⟨rfl, (Below.heap_alloc _ _ _ (by simp)).trans (World.alloc_heap_new _ _), ?_, ((Below.refl _ w).alloc (Nat.le_refl _) _).alloc (by simp) _⟩
 have := World.alloc_heap_new (w.alloc (.cells #[.slice s.pA s.pn s.pc, .slice s.rA s.rn s.rc] 45)) (.cells #[.int .i64 q] 3)
 rwa [World.size_alloc] at this
end
section
open Go.RowKit
abbrev StrP (l : List Fc) : Prop := l.Pairwise fun x y => ltP x y = true
def ChainP : Option Fc → List Fc → Prop
 | _, [] => True
 | o, f :: l => nextOk o f = true ∧ ChainP (some f) l
theorem ChainP.append {b : List Fc} : ∀ {a : List Fc} {o : Option Fc}, ChainP o (a ++ b) ↔ ChainP o a ∧ ChainP (a.getLast?.or o) b
  | [], o => by simp [ChainP]
  | x :: a, o => by
    show nextOk o x = true ∧ ChainP (some x) (a ++ b) ↔ (nextOk o x = true ∧ ChainP (some x) a) ∧ _
    rw [ChainP.append (a := a) (o := some x), and_assoc]
    have : (x :: a).getLast?.or o = a.getLast?.or (some x) := by
      rw [List.getLast?_cons]
      cases a.getLast? <;> simp
    rw [this]
theorem ChainP.str : ∀ {l : List Fc} {o : Option Fc}, ChainP o l ↔ (∀ f ∈ l, f.ok = true) ∧ StrP l ∧ ∀ a, o = some a → ∀ f ∈ l, ltP a f = true
  | [], o => by simp [ChainP, StrP]
  | f :: l, o => by
    show nextOk o f = true ∧ ChainP (some f) l ↔ _
    rw [ChainP.str (l := l) (o := some f)]
    unfold nextOk
    rw [Bool.and_eq_true]
    constructor
    · rintro ⟨⟨h1, h2⟩, h3, h4, h5⟩
      refine ⟨?_, List.pairwise_cons.2 ⟨h5 f rfl, h4⟩, ?_⟩
      · intro x hx; rcases List.mem_cons.1 hx with rfl | hx
        · exact h1
        · exact h3 x hx
      · rintro a rfl x hx
        rcases List.mem_cons.1 hx with rfl | hx
        · exact h2
        · exact ltP_tr _ _ _ h2 (h5 f rfl x hx)
    · rintro ⟨h1, h2, h3⟩
      obtain ⟨h4, h5⟩ := List.pairwise_cons.1 h2
      refine ⟨⟨h1 f (by simp), ?_⟩, fun x hx => h1 x (List.mem_cons_of_mem _ hx), h5, fun a e => by cases e; exact h4⟩
      cases o with
      | none => rfl
      | some a => exact h3 a rfl f (by simp)
theorem ChainP.of_none {l : List Fc} : ChainP none l ↔ (∀ f ∈ l, f.ok = true) ∧ StrP l := by
 rw [ChainP.str]; simp
inductive Tr (ps : List Pv) : Bool → Nat → Nat → Prop
 | leaf {root : Bool} {p : Nat} {g : Pv} : ps[p]? = some g → pgOk root g = true → g.kids.length = 0 → Tr ps root p 1
 | node {root : Bool} {p d : Nat} {g : Pv} : ps[p]? = some g → pgOk root g = true → g.kids.length ≠ 0 → (∀ (i : Nat) (kid : Int), g.kids[i]? = some kid → 0 ≤ kid ∧ kid < p) → (∀ (i : Nat) (kid : Int), g.kids[i]? = some kid → Tr ps false kid.toNat d) → Tr ps root p (d + 1)
theorem Tr.lt {ps : List Pv} {root : Bool} {p d : Nat} (h : Tr ps root p d) : p < ps.length := by
 cases h with
 | leaf hg _ _ => exact (List.getElem?_eq_some_iff.1 hg).1
 | node hg _ _ _ _ => exact (List.getElem?_eq_some_iff.1 hg).1
theorem pgOk_kids {root : Bool} {g : Pv} (h : pgOk root g = true) (h0 : g.kids.length ≠ 0) : g.kids.length = g.facts.length + 1 ∧ 1 ≤ g.facts.length := by
 unfold pgOk at h
 simp only [Bool.and_eq_true, Bool.or_eq_true, decide_eq_true_eq] at h
 omega
theorem pgOk_four {root : Bool} {g : Pv} (h : pgOk root g = true) : g.facts.length ≤ 4 ∧ (root = false → 2 ≤ g.facts.length) := by
 unfold pgOk at h
 simp only [Bool.and_eq_true, Bool.or_eq_true, decide_eq_true_eq] at h
 refine ⟨h.1.1, fun e => ?_⟩
 subst e
 rcases h.1.2 with h | h
 ·cases h
 ·exact h
def LoopOk (ps : List Pv) (p : Nat) (g : Pv) (n lv : Nat) : Prop :=
 if g.kids.length = 0 then lv = 0 else (n = 0 → lv = 0) ∧ ∀ (i : Nat) (kid : Int), i < n → g.kids[i]? = some kid → (0 ≤ kid ∧ kid < p) ∧ Tr ps false kid.toNat lv
theorem kidW_none {ps : List Pv} {p : Nat} {kid : Int} {l : List Fc} (h : ¬ (0 ≤ kid ∧ kid < p)) : kidW ps p kid l = none := by unfold kidW; rw [if_neg h]
theorem kidW_some {ps : List Pv} {p : Nat} {kid : Int} {l : List Fc} (h : 0 ≤ kid ∧ kid < p) : kidW ps p kid l = walkP ps kid.toNat false l := by unfold kidW; rw [if_pos h]
theorem getLast?_app (l m : List Fc) : (l ++ m).getLast? = m.getLast?.or l.getLast? := List.getLast?_append ..
theorem subT_of {ps : List Pv} {p : Nat} {g : Pv} {i : Nat} {kid : Int} (hk : g.kids[i]? = some kid) (hp : 0 ≤ kid ∧ kid < p) : subT ps p g i = allT ps kid.toNat := by
 have : g.kids[i]? = some ((kid.toNat : Nat) : Int) := by rw [hk]; congr 1; omega
 exact subT_kid this (by omega)
theorem loop_iff {ps : List Pv} {p : Nat} {g : Pv} (hg0 : g.kids.length ≠ 0 → g.kids.length = g.facts.length + 1)
    (IH : ∀ (kid : Int) (l m : List Fc) (d : Nat), 0 ≤ kid → kid < (p : Int) → (walkP ps kid.toNat false l = some (m, d) ↔ Tr ps false kid.toNat d ∧ m = l ++ allT ps kid.toNat ∧ ChainP l.getLast? (allT ps kid.toNat))) (l : List Fc) :
    ∀ n, n ≤ g.facts.length + 1 → ∀ m lv, loopW (kidW ps p) g l n = some (m, lv) ↔ LoopOk ps p g n lv ∧ m = l ++ outT ps p g n ∧ ChainP l.getLast? (outT ps p g n)
  | 0, _, m, lv => by
    rw [loopW_zero]
    have : outT ps p g 0 = [] := rfl
    rw [this]
    unfold LoopOk
    constructor
    · intro h; cases h
      refine ⟨?_, by simp, trivial⟩
      split
      · rfl
      · exact ⟨fun _ => rfl, fun i _ hi => by omega⟩
    · rintro ⟨h1, h2, _⟩
      subst h2
      have : lv = 0 := by
        split at h1
        · exact h1
        · exact h1.1 rfl
      rw [this]; simp
  | n + 1, hn, m, lv => by
    have ih := loop_iff hg0 IH l n (by omega)
    rw [outT_succ]
    have key : ∀ m0 lv0, loopW (kidW ps p) g l n = some (m0, lv0) → ((loopW (kidW ps p) g l (n + 1) = some (m, lv)) ↔ LoopOk ps p g (n + 1) lv ∧ m = l ++ (outT ps p g n ++ (subT ps p g n ++ g.facts[n]?.toList)) ∧ ChainP l.getLast? (outT ps p g n ++ (subT ps p g n ++ g.facts[n]?.toList))) := by
      intro m0 lv0 h0
      obtain ⟨a1, a2, a3⟩ := (ih m0 lv0).1 h0
      have hlast : (outT ps p g n).getLast?.or l.getLast? = m0.getLast? := by rw [a2, getLast?_app]
      rw [ChainP.append, hlast]
      rcases Nat.eq_zero_or_pos g.kids.length with hk | hk
      · rw [subT_leaf hk, List.nil_append]
        unfold LoopOk at a1 ⊢
        rw [if_pos hk] at a1 ⊢
        subst a1
        cases hf : g.facts[n]? with
        | none =>
          rw [step_leaf_end hk h0 hf]
          simp only [Option.toList, List.append_nil, ChainP, and_true]
          rw [← a2]
          constructor
          · intro h; cases h; exact ⟨rfl, rfl, a3⟩
          · rintro ⟨rfl, rfl, _⟩; rfl
        | some f =>
          rw [step_leaf_fact hk h0 hf]
          simp only [Option.toList, ChainP, and_true]
          rw [← List.append_assoc, ← a2]
          split
          · rename_i hok
            constructor
            · intro h; cases h; exact ⟨rfl, rfl, a3, hok⟩
            · rintro ⟨rfl, rfl, _⟩; rfl
          · rename_i hok
            constructor
            · intro h; cases h
            · rintro ⟨_, _, _, h⟩; exact absurd h hok
      · have hlen := hg0 (by omega)
        obtain ⟨kid, hkid⟩ : ∃ kid, g.kids[n]? = some kid := ⟨_, List.getElem?_eq_getElem (by omega)⟩
        have a1' := a1
        unfold LoopOk at a1 ⊢
        rw [if_neg (by omega)] at a1 ⊢
        by_cases hrange : 0 ≤ kid ∧ kid < (p : Int)
        · rw [subT_of hkid hrange]
          cases hs : walkP ps kid.toNat false m0 with
          | none =>
            rw [step_kid_no hkid h0 (by rw [kidW_some hrange]; exact hs)]
            constructor
            · intro h; cases h
            · rintro ⟨⟨_, h1⟩, _, _, h2⟩
              have := (IH kid m0 (m0 ++ allT ps kid.toNat) lv hrange.1 hrange.2).2 ⟨(h1 n kid (by omega) hkid).2, rfl, (ChainP.append.1 h2).1⟩
              rw [hs] at this; cases this
          | some r =>
            obtain ⟨m', d⟩ := r
            obtain ⟨b1, b2, b3⟩ := (IH kid m0 m' d hrange.1 hrange.2).1 hs
            have hlast2 : (allT ps kid.toNat).getLast?.or m0.getLast? = m'.getLast? := by rw [b2, getLast?_app]
            by_cases hd : n = 0 ∨ d = lv0
            · have hok : (n + 1 = 0 → d = 0) ∧ ∀ (i : Nat) (kid : Int), i < n + 1 → g.kids[i]? = some kid → (0 ≤ kid ∧ kid < (p : Int)) ∧ Tr ps false kid.toNat d := by
                refine ⟨fun h => by omega, fun i kid' hi hk' => ?_⟩
                rcases Nat.lt_or_ge i n with h | h
                · have hdl : d = lv0 := by omega
                  rw [hdl]; exact a1.2 i kid' h hk'
                · obtain rfl : i = n := by omega
                  rw [hkid] at hk'; cases hk'
                  exact ⟨hrange, b1⟩
              have huniq : ∀ lv', ((n + 1 = 0 → lv' = 0) ∧ ∀ (i : Nat) (kid : Int), i < n + 1 → g.kids[i]? = some kid → (0 ≤ kid ∧ kid < (p : Int)) ∧ Tr ps false kid.toNat lv') → lv' = d := by
                rintro lv' ⟨_, h⟩
                have := (IH kid m0 m' lv' hrange.1 hrange.2).2 ⟨(h n kid (by omega) hkid).2, b2, b3⟩
                rw [hs] at this; cases this; rfl
              cases hf : g.facts[n]? with
              | none =>
                rw [step_kid_end hkid h0 (by rw [kidW_some hrange]; exact hs) hd hf]
                simp only [Option.toList, List.append_nil]
                rw [← List.append_assoc, ← a2, ← b2]
                constructor
                · intro h; cases h; exact ⟨hok, rfl, a3, b3⟩
                · rintro ⟨h1, rfl, _⟩; rw [huniq lv h1]
              | some f =>
                rw [step_kid_fact hkid h0 (by rw [kidW_some hrange]; exact hs) hd hf]
                simp only [Option.toList]
                rw [ChainP.append, hlast2]
                simp only [ChainP, and_true]
                have e : l ++ (outT ps p g n ++ (allT ps kid.toNat ++ [f])) = m' ++ [f] := by rw [b2, a2]; simp
                rw [e]
                split
                · rename_i hok2
                  constructor
                  · intro h; cases h; exact ⟨hok, rfl, a3, b3, hok2⟩
                  · rintro ⟨h1, rfl, _⟩; rw [huniq lv h1]
                · rename_i hok2
                  constructor
                  · intro h; cases h
                  · rintro ⟨_, _, _, _, h⟩; exact absurd h hok2
            · rw [step_kid_lv hkid h0 (by rw [kidW_some hrange]; exact hs) hd]
              constructor
              · intro h; cases h
              · rintro ⟨⟨_, h1⟩, _, _, h2⟩
                have hlv : lv = d := by
                  have := (IH kid m0 m' lv hrange.1 hrange.2).2 ⟨(h1 n kid (by omega) hkid).2, b2, b3⟩
                  rw [hs] at this; cases this; rfl
                have : loopW (kidW ps p) g l n = some (m0, lv) := by
                  refine (ih m0 lv).2 ⟨?_, a2, a3⟩
                  unfold LoopOk
                  rw [if_neg (by omega)]
                  exact ⟨fun h => by omega, fun i kid' hi hk' => h1 i kid' (by omega) hk'⟩
                rw [h0] at this; cases this
                exact absurd (.inr hlv.symm) hd
        · rw [step_kid_no hkid h0 (kidW_none hrange)]
          constructor
          · intro h; cases h
          · rintro ⟨⟨_, h1⟩, _⟩
            exact absurd (h1 n kid (by omega) hkid).1 hrange
    cases h0 : loopW (kidW ps p) g l n with
    | some s => exact key s.1 s.2 h0
    | none =>
      rw [loopW_none h0 (n + 1) (by omega)]
      constructor
      · intro h; cases h
      · rintro ⟨h1, _, h2⟩
        have : ∃ lv', LoopOk ps p g n lv' := by
          unfold LoopOk at h1 ⊢
          split at h1
          · exact ⟨0, by rw [if_pos (by assumption)]⟩
          · rename_i hk
            rcases Nat.eq_zero_or_pos n with h | h
            · exact ⟨0, by rw [if_neg hk]; exact ⟨fun _ => rfl, fun i _ hi => by omega⟩⟩
            · exact ⟨lv, by rw [if_neg hk]; exact ⟨fun h => by omega, fun i kid hi => h1.2 i kid (by omega)⟩⟩
        obtain ⟨lv', h3⟩ := this
        have := (ih (l ++ outT ps p g n) lv').2 ⟨h3, rfl, (ChainP.append.1 h2).1⟩
        rw [h0] at this; cases this
theorem walk_iff (ps : List Pv) : ∀ (k p : Nat) (root : Bool) (l m : List Fc) (d : Nat), p < k → (walkP ps p root l = some (m, d) ↔ Tr ps root p d ∧ m = l ++ allT ps p ∧ ChainP l.getLast? (allT ps p))
  | 0, _, _, _, _, _, h => by omega
  | k + 1, p, root, l, m, d, hk => by
    cases hg : ps[p]? with
    | none =>
      rw [walkP_no hg]
      constructor
      · intro h; cases h
      · rintro ⟨h, _⟩
        have := h.lt
        rw [List.getElem?_eq_none_iff] at hg; omega
    | some g =>
      rw [walkP_eq hg]
      by_cases hok : pgOk root g = true
      · rw [if_pos hok, allT_eq hg]
        have L := loop_iff (ps := ps) (p := p) (g := g) (fun h => (pgOk_kids hok h).1) (fun kid l m d h1 h2 => walk_iff ps k kid.toNat false l m d (by omega)) l (g.facts.length + 1) (Nat.le_refl _)
        constructor
        · intro h
          cases hl : loopW (kidW ps p) g l (g.facts.length + 1) with
          | none => rw [hl] at h; cases h
          | some s =>
            obtain ⟨m', lv⟩ := s
            rw [hl] at h
            simp only [Option.map_some, Option.some.injEq, Prod.mk.injEq] at h
            obtain ⟨rfl, rfl⟩ := h
            obtain ⟨h1, h2, h3⟩ := (L m' lv).1 hl
            refine ⟨?_, h2, h3⟩
            unfold LoopOk at h1
            split at h1
            · subst h1; rename_i h0; exact Tr.leaf hg hok h0
            · rename_i h0
              have hlen := (pgOk_kids hok h0).1
              have hi : ∀ (i : Nat) (kid : Int), g.kids[i]? = some kid → i < g.facts.length + 1 := fun i kid h => by have := (List.getElem?_eq_some_iff.1 h).1; omega
              exact Tr.node hg hok h0 (fun i kid h => (h1.2 i kid (hi i kid h) h).1) (fun i kid h => (h1.2 i kid (hi i kid h) h).2)
        · rintro ⟨h1, rfl, h3⟩
          have : ∃ lv, lv + 1 = d ∧ LoopOk ps p g (g.facts.length + 1) lv := by
            cases h1 with
            | leaf hg' _ h0 => rw [hg] at hg'; cases hg'; exact ⟨0, rfl, by unfold LoopOk; rw [if_pos h0]⟩
            | @node _ _ d' _ hg' _ h0 h2 h4 => rw [hg] at hg'; cases hg'; exact ⟨d', rfl, by unfold LoopOk; rw [if_neg h0]; exact ⟨fun h => by omega, fun i kid _ h => ⟨h2 i kid h, h4 i kid h⟩⟩⟩
          obtain ⟨lv, rfl, h4⟩ := this
          rw [(L _ lv).2 ⟨h4, rfl, h3⟩]
          rfl
      · rw [if_neg hok]
        constructor
        · intro h; cases h
        · rintro ⟨h, _⟩
          cases h with
          | leaf hg' h1 _ => rw [hg] at hg'; cases hg'; exact absurd h1 hok
          | node hg' h1 _ _ _ => rw [hg] at hg'; cases hg'; exact absurd h1 hok
theorem walkP_iff {ps : List Pv} {p : Nat} {root : Bool} {l m : List Fc} {d : Nat} : walkP ps p root l = some (m, d) ↔ Tr ps root p d ∧ m = l ++ allT ps p ∧ ChainP l.getLast? (allT ps p) := walk_iff ps (p + 1) p root l m d (by omega)
def GoodR (ps : List Pv) (p d : Nat) : Prop := Tr ps true p d ∧ (∀ f ∈ allT ps p, f.ok = true) ∧ StrP (allT ps p)
theorem rootP_iff {ps : List Pv} {r : Int} : rootP ps r = true ↔ 0 ≤ r ∧ ∃ d, GoodR ps r.toNat d := by
 unfold rootP GoodR
 simp only [Bool.and_eq_true, decide_eq_true_eq]
 constructor
 ·rintro ⟨⟨h1, h2⟩, h3⟩
  obtain ⟨⟨m, d⟩, h4⟩ := Option.isSome_iff_exists.1 h3
  obtain ⟨h5, _, h6⟩ := walkP_iff.1 h4
  exact ⟨h1, d, h5, ChainP.of_none.1 h6⟩
 ·rintro ⟨h1, d, h2, h3⟩
  have := h2.lt
  refine ⟨⟨h1, by omega⟩, ?_⟩
  rw [(walkP_iff (l := [])).2 ⟨h2, rfl, ChainP.of_none.2 h3⟩]; rfl
theorem checkP_iff {ps : List Pv} {roots : List Int} : checkP ps roots = true ↔ roots ≠ [] ∧ ∀ r ∈ roots, 0 ≤ r ∧ ∃ d, GoodR ps r.toNat d := by
 unfold checkP
 simp only [Bool.and_eq_true, decide_eq_true_eq, List.all_eq_true, rootP_iff]
 constructor
 ·rintro ⟨h1, h2⟩; exact ⟨fun e => by subst e; simp at h1, h2⟩
 ·rintro ⟨h1, h2⟩; exact ⟨by rcases roots with _ | ⟨a, l⟩; exact absurd rfl h1; simp, h2⟩
end
section
open Go.RowKit
def inter : List (List Fc) → List Fc → List Fc
 | s :: S, f :: F => s ++ f :: inter S F
 | s :: _, [] => s
 | [], F => F
def preI : List (List Fc) → List Fc → List Fc
 | s :: S, f :: F => s ++ f :: preI S F
 | _, _ => []
def postI : List Fc → List (List Fc) → List Fc
 | f :: F, s :: S => f :: s ++ postI F S
 | _, _ => []
theorem inter_split (s : List Fc) : ∀ (S1 : List (List Fc)) (F1 F2 : List Fc) (S2 : List (List Fc)), S1.length = F1.length → S2.length = F2.length → inter (S1 ++ s :: S2) (F1 ++ F2) = preI S1 F1 ++ s ++ postI F2 S2
  | [], [], F2, S2, _, h => by
    have aux : ∀ (F2 : List Fc) (S2 : List (List Fc)) (s : List Fc), S2.length = F2.length → inter (s :: S2) F2 = s ++ postI F2 S2 := by
      intro F2
      induction F2 with
      | nil => intro S2 s h; simp [inter, postI]
      | cons f F ih =>
        intro S2 s h
        match S2, h with
        | t :: S, h =>
          show s ++ f :: inter (t :: S) F = s ++ (f :: t ++ postI F S)
          rw [ih S t (by simpa using h)]; simp
    simpa [preI] using aux F2 S2 s h
  | t :: S1, f :: F1, F2, S2, h1, h2 => by
    show t ++ f :: inter (S1 ++ s :: S2) (F1 ++ F2) = (t ++ f :: preI S1 F1) ++ s ++ postI F2 S2
    rw [inter_split s S1 F1 F2 S2 (by simpa using h1) h2]; simp
  | [], _ :: _, _, _, h, _ => by simp at h
  | _ :: _, [], _, _, h, _ => by simp at h
theorem outT_inter : ∀ (F : List Fc) (sub : Nat → List Fc), ((List.range (F.length + 1)).flatMap fun i => sub i ++ F[i]?.toList) = inter ((List.range (F.length + 1)).map sub) F
  | [], sub => by simp [List.range_succ, inter]
  | f :: F, sub => by
    have ih := outT_inter F (fun i => sub (i + 1))
    rw [List.length_cons, List.range_succ_eq_map, List.flatMap_cons, List.map_cons]
    have e1 : (List.flatMap (fun i => sub i ++ (f :: F)[i]?.toList) (List.map Nat.succ (List.range (F.length + 1)))) = (List.range (F.length + 1)).flatMap fun i => sub (i + 1) ++ F[i]?.toList := by
      rw [List.flatMap_map]; congr 1
    rw [e1, ih]
    have e2 : List.map sub (List.map Nat.succ (List.range (F.length + 1))) = List.map (fun i => sub (i + 1)) (List.range (F.length + 1)) := by rw [List.map_map]; rfl
    rw [e2]
    simp [inter]
def subs (ps : List Pv) (g : Pv) : List (List Fc) := g.kids.map fun (k : Int) => allT ps k.toNat
theorem subs_len (ps : List Pv) (g : Pv) : (subs ps g).length = g.kids.length := by simp [subs]
theorem allT_inter {ps : List Pv} {p : Nat} {g : Pv} (hg : ps[p]? = some g) (hn : g.kids.length = 0 ∨ (g.kids.length = g.facts.length + 1 ∧ ∀ (i : Nat) (kid : Int), g.kids[i]? = some kid → 0 ≤ kid ∧ kid < (p : Int))) : allT ps p = inter (subs ps g) g.facts := by
 rw [allT_eq hg]
 rcases hn with h0 | ⟨hl, hk⟩
 ·have : subs ps g = [] := List.eq_nil_of_length_eq_zero (by rw [subs_len, h0])
  rw [this]
  show outT ps p g (g.facts.length + 1) = g.facts
  have aux : ∀ j, outT ps p g j = g.facts.take j := by
   intro j
   induction j with
   | zero => rfl
   | succ j ih => rw [outT_succ, ih, subT_leaf h0, List.nil_append, List.take_add_one]
  rw [aux, List.take_of_length_le (by omega)]
 ·unfold outT
  rw [outT_inter]
  congr 1
  refine List.ext_getElem? fun i => ?_
  rw [List.getElem?_map]
  unfold subs
  rw [List.getElem?_map]
  rcases Nat.lt_or_ge i (g.facts.length + 1) with h | h
  ·obtain ⟨kid, hkid⟩ : ∃ kid, g.kids[i]? = some kid := ⟨_, List.getElem?_eq_getElem (by omega)⟩
   rw [List.getElem?_range h, hkid]
   simp only [Option.map_some]
   rw [subT_of hkid (hk i kid hkid)]
  ·rw [List.getElem?_eq_none (by simpa using h), List.getElem?_eq_none (by omega)]; rfl
structure Pg (ps : List Pv) (root : Bool) (p d : Nat) (g : Pv) : Prop where
 get : ps[p]? = some g
 ok : pgOk root g = true
 kids : (g.kids = [] ∧ d = 1) ∨ (g.kids.length = g.facts.length + 1 ∧ ∃ d', d = d' + 1 ∧ ∀ (i : Nat) (kid : Int), g.kids[i]? = some kid → 0 ≤ kid ∧ kid < (p : Int) ∧ Tr ps false kid.toNat d')
theorem Tr.pg {ps : List Pv} {root : Bool} {p d : Nat} (h : Tr ps root p d) : ∃ g, Pg ps root p d g := by
 cases h with
 | @leaf _ _ g hg hok h0 => exact ⟨g, hg, hok, .inl ⟨List.eq_nil_of_length_eq_zero h0, rfl⟩⟩
 | @node _ _ d' g hg hok h0 h1 h2 => exact ⟨g, hg, hok, .inr ⟨(pgOk_kids hok h0).1, d', rfl, fun i kid h => ⟨(h1 i kid h).1, (h1 i kid h).2, h2 i kid h⟩⟩⟩
theorem Pg.tr {ps : List Pv} {root : Bool} {p d : Nat} {g : Pv} (h : Pg ps root p d g) : Tr ps root p d := by
 rcases h.kids with ⟨h0, rfl⟩ | ⟨h0, d', rfl, h1⟩
 ·exact Tr.leaf h.get h.ok (by rw [h0]; rfl)
 ·exact Tr.node h.get h.ok (by omega) (fun i kid hk => ⟨(h1 i kid hk).1, (h1 i kid hk).2.1⟩) fun i kid hk => (h1 i kid hk).2.2
theorem Pg.all {ps : List Pv} {root : Bool} {p d : Nat} {g : Pv} (h : Pg ps root p d g) : allT ps p = inter (subs ps g) g.facts := by
 refine allT_inter h.get ?_
 rcases h.kids with ⟨h0, _⟩ | ⟨h0, d', _, h1⟩
 ·exact .inl (by rw [h0]; rfl)
 ·exact .inr ⟨h0, fun i kid hk => ⟨(h1 i kid hk).1, (h1 i kid hk).2.1⟩⟩
theorem get_app {ps new : List Pv} {p : Nat} {g : Pv} (h : ps[p]? = some g) : (ps ++ new)[p]? = some g := by
 rw [List.getElem?_append_left (List.getElem?_eq_some_iff.1 h).1]; exact h
theorem Tr.app {ps new : List Pv} {root : Bool} {p d : Nat} (h : Tr ps root p d) : Tr (ps ++ new) root p d := by
 induction h with
 | leaf hg hok h0 => exact Tr.leaf (get_app hg) hok h0
 | node hg hok h0 h1 _ ih => exact Tr.node (get_app hg) hok h0 h1 ih
theorem allG_app {ps new : List Pv} : ∀ n p, p < ps.length → allG (ps ++ new) n p = allG ps n p
  | 0, _, _ => rfl
  | n + 1, p, hp => by
    unfold allG
    rw [List.getElem?_append_left hp]
    split
    · rfl
    · congr 1
      funext i
      congr 1
      split
      · rfl
      · split
        · exact allG_app n _ (by omega)
        · rfl
theorem allT_app {ps new : List Pv} {p : Nat} (h : p < ps.length) : allT (ps ++ new) p = allT ps p := allG_app _ _ h
theorem GoodR.app {ps new : List Pv} {p d : Nat} (h : GoodR ps p d) : GoodR (ps ++ new) p d := by
 unfold GoodR
 rw [allT_app h.1.lt]
 exact ⟨h.1.app, h.2⟩
def InsR (f : Fc) (l l' : List Fc) : Prop := ∃ a b, l = a ++ b ∧ l' = a ++ f :: b ∧ (∀ x ∈ a, ltP x f = true) ∧ ∀ x ∈ b, ltP f x = true
theorem InsR.str {f : Fc} {l l' : List Fc} (h : InsR f l l') (hs : StrP l) : StrP l' := by
 obtain ⟨a, b, rfl, rfl, h1, h2⟩ := h
 obtain ⟨h3, h4, h5⟩ := List.pairwise_append.1 hs
 refine List.pairwise_append.2 ⟨h3, List.pairwise_cons.2 ⟨h2, h4⟩, fun x hx y hy => ?_⟩
 rcases List.mem_cons.1 hy with rfl | hy
 ·exact h1 x hx
 ·exact h5 x hx y hy
theorem InsR.mem {f : Fc} {l l' : List Fc} (h : InsR f l l') (x : Fc) : x ∈ l' ↔ x = f ∨ x ∈ l := by
 obtain ⟨a, b, rfl, rfl, _, _⟩ := h
 simp only [List.mem_append, List.mem_cons]
 constructor
 ·rintro (h | h | h)
  ·exact .inr (.inl h)
  ·exact .inl h
  ·exact .inr (.inr h)
 ·rintro (h | h | h)
  ·exact .inr (.inl h)
  ·exact .inl h
  ·exact .inr (.inr h)
theorem InsR.perm {f : Fc} {l l' : List Fc} (h : InsR f l l') : l'.Perm (f :: l) := by
 obtain ⟨a, b, rfl, rfl, _, _⟩ := h
 exact List.perm_middle
theorem InsR.wide {f : Fc} {l l' a b : List Fc} (h : InsR f l l') (ha : ∀ x ∈ a, ltP x f = true) (hb : ∀ x ∈ b, ltP f x = true) : InsR f (a ++ l ++ b) (a ++ l' ++ b) := by
 obtain ⟨c, d, rfl, rfl, h1, h2⟩ := h
 refine ⟨a ++ c, d ++ b, by simp, by simp, fun x hx => ?_, fun x hx => ?_⟩
 ·rcases List.mem_append.1 hx with h | h
  ·exact ha x h
  ·exact h1 x h
 ·rcases List.mem_append.1 hx with h | h
  ·exact h2 x h
  ·exact hb x h
def Comp (f : Fc) (l : List Fc) : Prop := ∀ x ∈ l, ltP x f = true ∨ ltP f x = true
theorem takeWhile_split (p : Fc → Bool) (l : List Fc) : l = l.take (l.takeWhile p).length ++ l.drop (l.takeWhile p).length ∧ (∀ x ∈ l.take (l.takeWhile p).length, p x = true) ∧ ∀ x, l[(l.takeWhile p).length]? = some x → p x = false := by
  refine ⟨(List.take_append_drop _ _).symm, ?_, ?_⟩
  · induction l with
    | nil => simp
    | cons a l ih =>
      intro x hx
      rw [List.takeWhile_cons] at hx
      split at hx
      · rw [List.length_cons, List.take_succ_cons] at hx
        rcases List.mem_cons.1 hx with rfl | hx
        · assumption
        · exact ih x hx
      · simp at hx
  · induction l with
    | nil => simp
    | cons a l ih =>
      intro x hx
      rw [List.takeWhile_cons] at hx
      split at hx
      · rw [List.length_cons, List.getElem?_cons_succ] at hx
        exact ih x hx
      · rename_i h
        simp at hx; subst hx; simpa using h
theorem place_split {F : List Fc} {f : Fc} (hs : StrP F) (hc : Comp f F) : (∀ x ∈ F.take (placeP F f), ltP x f = true) ∧ ∀ x ∈ F.drop (placeP F f), ltP f x = true := by
 obtain ⟨h0, h1, h2⟩ := takeWhile_split (fun x => ltP x f) F
 refine ⟨h1, fun x hx => ?_⟩
 change x ∈ F.drop (F.takeWhile fun x => ltP x f).length at hx
 obtain ⟨i, hi⟩ := List.mem_iff_getElem?.1 hx
 rw [List.getElem?_drop] at hi
 obtain ⟨hlt, he⟩ := List.getElem?_eq_some_iff.1 hi
 obtain ⟨y, hy⟩ : ∃ y, F[(F.takeWhile fun x => ltP x f).length]? = some y := ⟨_, List.getElem?_eq_getElem (by omega)⟩
 have hyf := h2 y hy
 have hyl : ltP f y = true := by
  rcases hc y (List.mem_of_getElem? hy) with h | h
  ·rw [hyf] at h; cases h
  ·exact h
 rcases Nat.eq_zero_or_pos i with h | h
 ·subst h
  rw [Nat.add_zero, hy] at hi; cases hi; exact hyl
 ·obtain ⟨hlt2, he2⟩ := List.getElem?_eq_some_iff.1 hy
  have := List.pairwise_iff_getElem.1 hs _ _ hlt2 hlt (by omega)
  rw [he, he2] at this
  exact ltP_tr _ _ _ hyl this
theorem pre_lt {f : Fc} : ∀ (S : List (List Fc)) (F : List Fc), StrP (preI S F) → (∀ x ∈ F, ltP x f = true) → ∀ x ∈ preI S F, ltP x f = true
  | [], _, _, _ => by simp [preI]
  | _ :: _, [], _, _ => by simp [preI]
  | s :: S, y :: F, h, hF => by
    intro x hx
    change x ∈ s ++ y :: preI S F at hx
    change StrP (s ++ y :: preI S F) at h
    obtain ⟨h1, h2, h3⟩ := List.pairwise_append.1 h
    rcases List.mem_append.1 hx with hx | hx
    · exact ltP_tr _ _ _ (h3 x hx y (by simp)) (hF y (by simp))
    · rcases List.mem_cons.1 hx with rfl | hx
      · exact hF _ (by simp)
      · exact pre_lt S F (List.pairwise_cons.1 h2).2 (fun z hz => hF z (List.mem_cons_of_mem _ hz)) x hx
theorem post_gt {f : Fc} : ∀ (F : List Fc) (S : List (List Fc)), StrP (postI F S) → (∀ x ∈ F, ltP f x = true) → ∀ x ∈ postI F S, ltP f x = true
  | [], _, _, _ => by simp [postI]
  | _ :: _, [], _, _ => by simp [postI]
  | y :: F, s :: S, h, hF => by
    intro x hx
    change x ∈ (y :: s) ++ postI F S at hx
    change StrP ((y :: s) ++ postI F S) at h
    obtain ⟨h1, h2, h3⟩ := List.pairwise_append.1 h
    rcases List.mem_append.1 hx with hx | hx
    · rcases List.mem_cons.1 hx with rfl | hx
      · exact hF _ (by simp)
      · exact ltP_tr _ _ _ (hF y (by simp)) ((List.pairwise_cons.1 h1).1 x hx)
    · exact post_gt F S h2 (fun z hz => hF z (List.mem_cons_of_mem _ hz)) x hx
theorem facts_sub : ∀ (S : List (List Fc)) (F : List Fc), List.Sublist F (inter S F)
  | s :: S, f :: F => by
    show List.Sublist (f :: F) (s ++ f :: inter S F)
    exact (List.Sublist.cons_cons f (facts_sub S F)).trans (List.sublist_append_right _ _)
  | _ :: _, [] => List.nil_sublist _
  | [], F => List.Sublist.refl _
end
section
open Go.RowKit
inductive Rch (ps : List Pv) : Nat → Nat → Prop
 | refl (p : Nat) : Rch ps p p
 | step {p q : Nat} {g : Pv} {kid : Int} : ps[p]? = some g → kid ∈ g.kids → Rch ps kid.toNat q → Rch ps p q
theorem Rch.app {ps new : List Pv} {p q : Nat} (h : Rch ps p q) : Rch (ps ++ new) p q := by
 induction h with
 | refl p => exact Rch.refl p
 | step hg hk _ ih => exact Rch.step (get_app hg) hk ih
theorem subs_app {ps new : List Pv} {g : Pv} (h : ∀ (i : Nat) (kid : Int), g.kids[i]? = some kid → 0 ≤ kid ∧ kid < (ps.length : Int)) : subs (ps ++ new) g = subs ps g := by
 unfold subs
 refine List.map_congr_left fun kid hk => ?_
 obtain ⟨i, hi⟩ := List.mem_iff_getElem?.1 hk
 have := h i kid hi
 exact allT_app (by omega)
def KidsOk (ps : List Pv) (g : Pv) (d : Nat) : Prop :=
 (g.kids = [] ∧ d = 1) ∨ (g.kids.length = g.facts.length + 1 ∧ 1 ≤ g.facts.length ∧ ∃ d', d = d' + 1 ∧ ∀ (i : Nat) (kid : Int), g.kids[i]? = some kid → 0 ≤ kid ∧ kid < (ps.length : Int) ∧ Tr ps false kid.toNat d')
theorem KidsOk.range {ps : List Pv} {g : Pv} {d : Nat} (h : KidsOk ps g d) : ∀ (i : Nat) (kid : Int), g.kids[i]? = some kid → 0 ≤ kid ∧ kid < (ps.length : Int) := by
 rcases h with ⟨h, _⟩ | ⟨_, _, _, _, h⟩
 ·intro i kid hi; rw [h] at hi; simp at hi
 ·exact fun i kid hi => ⟨(h i kid hi).1, (h i kid hi).2.1⟩
theorem put_page {ps new1 new2 : List Pv} {root : Bool} {g : Pv} {d : Nat} (h4 : g.facts.length ≤ 4) (hr : root = false → 2 ≤ g.facts.length) (hk : KidsOk ps g d) :
  Tr (ps ++ new1 ++ g :: new2) root (ps.length + new1.length) d ∧ allT (ps ++ new1 ++ g :: new2) (ps.length + new1.length) = inter (subs ps g) g.facts := by
 have hget : (ps ++ new1 ++ g :: new2)[ps.length + new1.length]? = some g := by
  rw [List.getElem?_append_right (by simp)]
  simp
 have hok : pgOk root g = true := by
  unfold pgOk
  simp only [Bool.and_eq_true, Bool.or_eq_true, decide_eq_true_eq]
  refine ⟨⟨h4, ?_⟩, ?_⟩
  ·cases root with
   | true => exact .inl rfl
   | false => exact .inr (hr rfl)
  ·rcases hk with ⟨h, _⟩ | ⟨h1, h2, _⟩
   ·exact .inl (by rw [h]; rfl)
   ·exact .inr ⟨h1, h2⟩
 have hP : Pg (ps ++ new1 ++ g :: new2) root (ps.length + new1.length) d g := by
  refine ⟨hget, hok, ?_⟩
  rcases hk with ⟨h, h'⟩ | ⟨h1, _, d', h2, h3⟩
  ·exact .inl ⟨h, h'⟩
  ·refine .inr ⟨h1, d', h2, fun i kid hi => ?_⟩
   obtain ⟨a, b, c⟩ := h3 i kid hi
   refine ⟨a, by omega, ?_⟩
   rw [List.append_assoc]
   exact c.app
 refine ⟨hP.tr, ?_⟩
 rw [hP.all, List.append_assoc, subs_app hk.range]
theorem split_law {ps : List Pv} {root : Bool} {g : Pv} {d : Nat} (h5 : g.facts.length ≤ 5) (hr : root = false → 2 ≤ g.facts.length) (hk : KidsOk ps g d) :
    ∃ new, (splitP ps g).1 = ps ++ new ∧ 1 ≤ new.length ∧ new.length ≤ 2 ∧ (splitP ps g).2.1 = ps.length ∧
      ((splitP ps g).2.2 = none → Tr (ps ++ new) root ps.length d ∧ allT (ps ++ new) ps.length = inter (subs ps g) g.facts ∧ new.length = 1 ∧ ∀ kid ∈ g.kids, ∀ q, Rch (ps ++ new) kid.toNat q → Rch (ps ++ new) ps.length q) ∧
      (∀ m b, (splitP ps g).2.2 = some (m, b) → b = ps.length + 1 ∧ Tr (ps ++ new) false ps.length d ∧ Tr (ps ++ new) false b d ∧ allT (ps ++ new) ps.length ++ m :: allT (ps ++ new) b = inter (subs ps g) g.facts ∧
        ∀ kid ∈ g.kids, ∀ q, Rch (ps ++ new) kid.toNat q → Rch (ps ++ new) ps.length q ∨ Rch (ps ++ new) b q) := by
  by_cases h4 : g.facts.length ≤ 4
  · have e : splitP ps g = (ps ++ [g], ps.length, none) := by unfold splitP; rw [if_pos h4]
    rw [e]
    refine ⟨[g], rfl, by simp, by simp, rfl, fun _ => ?_, (fun m b h => by cases h)⟩
    have := put_page (new1 := []) (new2 := []) h4 hr hk
    simp only [List.append_nil, List.length_nil, Nat.add_zero] at this
    refine ⟨this.1, this.2, rfl, fun kid hkid q hq => Rch.step (g := g) (by simp) hkid hq⟩
  · have e : splitP ps g = (ps ++ [⟨g.facts.take 2, g.kids.take 3⟩, ⟨g.facts.drop 3, g.kids.drop 3⟩], ps.length, some (g.facts.getD 2 default, ps.length + 1)) := by unfold splitP; rw [if_neg h4]
    rw [e]
    refine ⟨_, rfl, by simp, by simp, rfl, (fun h => by cases h), fun m b h => ?_⟩
    cases h
    obtain ⟨F, K⟩ := g
    dsimp only at h5 hr h4 ⊢
    match F, h5, h4 with
    | [f0, f1, f2, f3, f4], _, _ =>
      have hk' := hk
      have ka : KidsOk ps ⟨[f0, f1], K.take 3⟩ d := by
        rcases hk with ⟨h, h'⟩ | ⟨h1, h2, d', h3, h6⟩
        · dsimp only at h; subst h; exact .inl ⟨rfl, h'⟩
        · dsimp only [List.length_cons, List.length_nil] at h1 h6
          refine .inr ⟨by rw [List.length_take]; simp; omega, by simp, d', h3, fun i kid hi => h6 i kid ?_⟩
          dsimp only at hi
          rw [List.getElem?_take] at hi
          split at hi
          · exact hi
          · cases hi
      have kb : KidsOk ps ⟨[f3, f4], K.drop 3⟩ d := by
        rcases hk with ⟨h, h'⟩ | ⟨h1, h2, d', h3, h6⟩
        · dsimp only at h; subst h; exact .inl ⟨rfl, h'⟩
        · dsimp only [List.length_cons, List.length_nil] at h1 h6
          refine .inr ⟨by rw [List.length_drop]; simp; omega, by simp, d', h3, fun i kid hi => h6 (3 + i) kid ?_⟩
          dsimp only at hi
          rw [List.getElem?_drop] at hi
          exact hi
      have pa := put_page (root := false) (new1 := []) (new2 := [⟨[f3, f4], K.drop 3⟩]) (by simp) (by simp) ka
      have pb := put_page (root := false) (new1 := [⟨[f0, f1], K.take 3⟩]) (new2 := []) (by simp) (by simp) kb
      simp only [List.append_nil, List.length_nil, Nat.add_zero] at pa
      have e2 : ps ++ [⟨[f0, f1], K.take 3⟩] ++ [(⟨[f3, f4], K.drop 3⟩ : Pv)] = ps ++ [⟨[f0, f1], K.take 3⟩, ⟨[f3, f4], K.drop 3⟩] := by simp
      rw [e2] at pb
      simp only [List.length_cons, List.length_nil, Nat.zero_add] at pb
      show _ ∧ Tr (ps ++ [⟨[f0, f1], K.take 3⟩, ⟨[f3, f4], K.drop 3⟩]) false ps.length d ∧ Tr (ps ++ [⟨[f0, f1], K.take 3⟩, ⟨[f3, f4], K.drop 3⟩]) false (ps.length + 1) d ∧ allT (ps ++ [⟨[f0, f1], K.take 3⟩, ⟨[f3, f4], K.drop 3⟩]) ps.length ++ f2 :: allT (ps ++ [⟨[f0, f1], K.take 3⟩, ⟨[f3, f4], K.drop 3⟩]) (ps.length + 1) = _ ∧ ∀ kid ∈ K, ∀ q, Rch (ps ++ [⟨[f0, f1], K.take 3⟩, ⟨[f3, f4], K.drop 3⟩]) kid.toNat q → Rch (ps ++ [⟨[f0, f1], K.take 3⟩, ⟨[f3, f4], K.drop 3⟩]) ps.length q ∨ Rch (ps ++ [⟨[f0, f1], K.take 3⟩, ⟨[f3, f4], K.drop 3⟩]) (ps.length + 1) q
      refine ⟨rfl, pa.1, pb.1, ?_, fun kid hkid q hq => ?_⟩
      · rw [pa.2, pb.2]
        rcases hk' with ⟨h, h'⟩ | ⟨h1, _⟩
        · dsimp only at h; subst h
          rfl
        · dsimp only [List.length_cons, List.length_nil] at h1
          match K, h1 with
          | [a, b, c, x, y, z], _ => simp [subs, inter]
      · rw [← List.take_append_drop 3 K] at hkid
        rcases List.mem_append.1 hkid with h | h
        · exact .inl (Rch.step (g := ⟨[f0, f1], K.take 3⟩) (by simp) h hq)
        · refine .inr (Rch.step (g := ⟨[f3, f4], K.drop 3⟩) ?_ h hq)
          rw [List.getElem?_append_right (by omega)]
          simp
    | [], _, h => simp at h
    | [_], _, h => simp at h
    | [_, _], _, h => simp at h
    | [_, _, _], _, h => simp at h
    | [_, _, _, _], _, h => simp at h
    | _ :: _ :: _ :: _ :: _ :: _ :: _, h, _ => simp at h
def InsOk (ps : List Pv) (root : Bool) (p d : Nat) (f : Fc) (r : List Pv × Nat × Option (Fc × Nat)) : Prop :=
 ∃ new, r.1 = ps ++ new ∧ 1 ≤ new.length ∧ new.length ≤ 2 * d ∧ ps.length ≤ r.2.1 ∧
  (r.2.2 = none → Tr r.1 root r.2.1 d ∧ InsR f (allT ps p) (allT r.1 r.2.1) ∧ ∀ q, ps.length ≤ q → q < r.1.length → Rch r.1 r.2.1 q) ∧
  (∀ m b, r.2.2 = some (m, b) → ps.length ≤ b ∧ Tr r.1 false r.2.1 d ∧ Tr r.1 false b d ∧ InsR f (allT ps p) (allT r.1 r.2.1 ++ m :: allT r.1 b) ∧ ∀ q, ps.length ≤ q → q < r.1.length → Rch r.1 r.2.1 q ∨ Rch r.1 b q)
theorem set_mid {α : Type} (a x : α) : ∀ (K1 K2 : List α), (K1 ++ x :: K2).set K1.length a = K1 ++ a :: K2
 | [], _ => rfl
 | y :: K1, K2 => by simp [set_mid a x K1 K2]
theorem insAt_mid {α : Type} (b : α) (K1 K2 : List α) {k : Nat} (hk : k = K1.length) : insAt (K1 ++ K2) k b = K1 ++ b :: K2 := by
 subst hk; simp [insAt]
theorem ins_close {ps ps' : List Pv} {new1 : List Pv} {root : Bool} {p d : Nat} {f : Fc} {g' : Pv} (hps : ps' = ps ++ new1) (hn : new1.length + 2 ≤ 2 * d) (h5 : g'.facts.length ≤ 5) (hr : root = false → 2 ≤ g'.facts.length) (hk : KidsOk ps' g' d)
  (hI : InsR f (allT ps p) (inter (subs ps' g') g'.facts)) (hR : ∀ q, ps.length ≤ q → q < ps'.length → ∃ kid ∈ g'.kids, Rch ps' kid.toNat q) : InsOk ps root p d f (splitP ps' g') := by
 obtain ⟨new, h1, h2, h3, h4, h6, h7⟩ := split_law h5 hr hk
 have hl : ps'.length = ps.length + new1.length := by rw [hps]; simp
 refine ⟨new1 ++ new, by rw [h1, hps, List.append_assoc], by simp; omega, by simp; omega, by omega, fun hn => ?_, fun m b hs => ?_⟩
 ·obtain ⟨a, b, c, e⟩ := h6 hn
  rw [h1, h4]
  refine ⟨a, by rw [b]; exact hI, fun q hq hq2 => ?_⟩
  rw [List.length_append] at hq2
  rcases Nat.lt_or_ge q ps'.length with h | h
  ·obtain ⟨kid, hkid, hr⟩ := hR q hq h
   exact e kid hkid q hr.app
  ·obtain rfl : q = ps'.length := by omega
   exact Rch.refl _
 ·obtain ⟨hb, a, b', c, e⟩ := h7 m b hs
  rw [h1, h4]
  refine ⟨by omega, a, b', by rw [c]; exact hI, fun q hq hq2 => ?_⟩
  rw [List.length_append] at hq2
  rcases Nat.lt_or_ge q ps'.length with h | h
  ·obtain ⟨kid, hkid, hr⟩ := hR q hq h
   exact e kid hkid q hr.app
  ·rcases Nat.eq_or_lt_of_le h with h | h
   ·subst h; exact .inl (Rch.refl _)
   ·obtain rfl : q = b := by omega
    exact .inr (Rch.refl _)
theorem ins_law (f : Fc) : ∀ (n : Nat) (ps : List Pv) (p : Nat) (root : Bool) (d : Nat), p < n → Tr ps root p d → StrP (allT ps p) → Comp f (allT ps p) → InsOk ps root p d f (insW f n ps p)
  | 0, _, _, _, _, h, _, _, _ => by omega
  | n + 1, ps, p, root, d, hn, hT, hS, hC => by
    obtain ⟨g, hP⟩ := hT.pg
    have hgd : ps.getD p default = g := by rw [List.getD_eq_getElem?_getD, hP.get]; rfl
    have hall := hP.all
    have hsub : List.Sublist g.facts (allT ps p) := by rw [hall]; exact facts_sub _ _
    have hSF : StrP g.facts := hS.sublist hsub
    have hCF : Comp f g.facts := fun x hx => hC x (hsub.subset hx)
    obtain ⟨hlo, hhi⟩ := place_split hSF hCF
    have hkle : placeP g.facts f ≤ g.facts.length := by unfold placeP; exact (List.takeWhile_sublist _).length_le
    obtain ⟨f4, f2⟩ := pgOk_four hP.ok
    unfold insW
    simp only [hgd]
    generalize hk : placeP g.facts f = k at hlo hhi hkle
    obtain ⟨F, K⟩ := g
    dsimp only at hgd hsub hSF hCF hlo hhi hkle f4 f2 hk ⊢
    obtain ⟨F1, F2, rfl, hF1⟩ : ∃ F1 F2, F = F1 ++ F2 ∧ F1.length = k := ⟨F.take k, F.drop k, (List.take_append_drop _ _).symm, by rw [List.length_take]; omega⟩
    rw [← hF1, List.take_left] at hlo
    rw [← hF1, List.drop_left] at hhi
    rcases hP.kids with ⟨h0, hd⟩ | ⟨hl, d', hd, hkids⟩
    · dsimp only at h0; subst h0; subst hd
      rw [if_pos (show ([] : List Int).length = 0 from rfl), insAt_mid f F1 F2 hF1.symm]
      refine ins_close (new1 := []) (by simp) (by simp) (by simp at f4 ⊢; omega) (fun e => by have := f2 e; simp at this ⊢; omega) (.inl ⟨rfl, rfl⟩) ?_ (fun q h1 h2 => by omega)
      rw [hall]
      exact ⟨F1, F2, rfl, rfl, hlo, hhi⟩
    · dsimp only at hl hkids
      have hlen : (F1 ++ F2).length = F1.length + F2.length := List.length_append
      obtain ⟨K1, kid, K2, rfl, hK1⟩ : ∃ K1 kid K2, K = K1 ++ kid :: K2 ∧ K1.length = k := by
        have hlt : k < K.length := by omega
        exact ⟨K.take k, K[k], K.drop (k + 1), by rw [List.getElem_cons_drop, List.take_append_drop], by rw [List.length_take]; omega⟩
      have hlK : (K1 ++ kid :: K2).length = K1.length + K2.length + 1 := by simp; omega
      have hkd : (K1 ++ kid :: K2).getD k 0 = kid := by rw [List.getD_eq_getElem?_getD, ← hK1]; simp
      rw [if_neg (by omega), hkd]
      obtain ⟨k1, k2, k3⟩ := hkids k kid (by rw [← hK1]; simp)
      have hSs : subs ps ⟨F1 ++ F2, K1 ++ kid :: K2⟩ = K1.map (fun (x : Int) => allT ps x.toNat) ++ allT ps kid.toNat :: K2.map (fun (x : Int) => allT ps x.toNat) := by simp [subs]
      have hA : allT ps p = preI (K1.map fun (x : Int) => allT ps x.toNat) F1 ++ allT ps kid.toNat ++ postI F2 (K2.map fun (x : Int) => allT ps x.toNat) := by
        rw [hall, hSs, inter_split _ _ _ _ _ (by simp; omega) (by simp; omega)]
      have hS2 := hS
      rw [hA] at hS2
      obtain ⟨s1, s2, _⟩ := List.pairwise_append.1 hS2
      obtain ⟨s3, s4, _⟩ := List.pairwise_append.1 s1
      have hpre := pre_lt _ _ s3 hlo
      have hpost := post_gt _ _ s2 hhi
      have hCk : Comp f (allT ps kid.toNat) := fun x hx => hC x (by rw [hA]; simp [hx])
      obtain ⟨new1, r1, r2, r3, r4, r5, r6⟩ := ins_law f n ps kid.toNat false d' (by omega) k3 s4 hCk
      generalize insW f n ps kid.toNat = r at r1 r2 r3 r4 r5 r6 ⊢
      obtain ⟨ps', a, o⟩ := r
      dsimp only at r1 r2 r3 r4 r5 r6 ⊢
      have hlps : ps'.length = ps.length + new1.length := by rw [r1]; simp
      have hplt := hT.lt
      have old : ∀ x : Int, x ∈ K1 ∨ x ∈ K2 → 0 ≤ x ∧ x < (ps.length : Int) ∧ Tr ps' false x.toNat d' := by
        intro x hx
        have : x ∈ K1 ++ kid :: K2 := by rcases hx with h | h <;> simp [h]
        obtain ⟨i, hi⟩ := List.mem_iff_getElem?.1 this
        obtain ⟨a1, a2, a3⟩ := hkids i x hi
        exact ⟨a1, by omega, by rw [r1]; exact a3.app⟩
      have hm1 : K1.map (fun (x : Int) => allT ps' x.toNat) = K1.map (fun (x : Int) => allT ps x.toNat) := List.map_congr_left fun x hx => by
        have := old x (.inl hx)
        rw [r1]; exact allT_app (by omega)
      have hm2 : K2.map (fun (x : Int) => allT ps' x.toNat) = K2.map (fun (x : Int) => allT ps x.toNat) := List.map_congr_left fun x hx => by
        have := old x (.inr hx)
        rw [r1]; exact allT_app (by omega)
      rcases o with _ | ⟨m, b⟩
      · obtain ⟨t1, t2, t3⟩ := r5 rfl
        have ta := t1.lt
        dsimp only
        rw [← hK1, set_mid]
        refine ins_close r1 (by omega) (by simp at f4 ⊢; omega) (fun e => by have := f2 e; simpa using this) ?_ ?_ ?_
        · refine .inr ⟨by simp at hl ⊢; omega, by have := (pgOk_kids hP.ok (by dsimp only; omega)).2; simpa using this, d', hd, fun i x hi => ?_⟩
          have hx : x ∈ K1 ++ (a : Int) :: K2 := List.mem_of_getElem? hi
          rcases List.mem_append.1 hx with h | h
          · have := old x (.inl h); exact ⟨this.1, by omega, this.2.2⟩
          · rcases List.mem_cons.1 h with rfl | h
            · exact ⟨by omega, by omega, by simpa using t1⟩
            · have := old x (.inr h); exact ⟨this.1, by omega, this.2.2⟩
        · have e : subs ps' ⟨F1 ++ F2, K1 ++ (a : Int) :: K2⟩ = K1.map (fun (x : Int) => allT ps x.toNat) ++ allT ps' a :: K2.map (fun (x : Int) => allT ps x.toNat) := by
            rw [← hm1, ← hm2]; simp [subs]
          rw [e, inter_split _ _ _ _ _ (by simp; omega) (by simp; omega), hA]
          exact t2.wide hpre hpost
        · exact fun q h1 h2 => ⟨(a : Int), by simp, by simpa using t3 q h1 h2⟩
      · obtain ⟨t0, t1, t2, t3, t4⟩ := r6 m b rfl
        have ta := t1.lt
        have tb := t2.lt
        dsimp only
        rw [← hK1, set_mid]
        have e0 : insAt (K1 ++ (a : Int) :: K2) (K1.length + 1) (b : Int) = K1 ++ (a : Int) :: (b : Int) :: K2 := by
          have := insAt_mid (b : Int) (K1 ++ [(a : Int)]) K2 (k := K1.length + 1) (by simp)
          simpa using this
        rw [e0, insAt_mid m F1 F2 (by omega)]
        refine ins_close r1 (by omega) (by simp at f4 ⊢; omega) (fun e => by have := f2 e; simp at this ⊢; omega) ?_ ?_ ?_
        · refine .inr ⟨by simp at hl ⊢; omega, by simp; omega, d', hd, fun i x hi => ?_⟩
          have hx : x ∈ K1 ++ (a : Int) :: (b : Int) :: K2 := List.mem_of_getElem? hi
          rcases List.mem_append.1 hx with h | h
          · have := old x (.inl h); exact ⟨this.1, by omega, this.2.2⟩
          · rcases List.mem_cons.1 h with rfl | h
            · exact ⟨by omega, by omega, by simpa using t1⟩
            · rcases List.mem_cons.1 h with rfl | h
              · exact ⟨by omega, by omega, by simpa using t2⟩
              · have := old x (.inr h); exact ⟨this.1, by omega, this.2.2⟩
        · have e : subs ps' ⟨F1 ++ m :: F2, K1 ++ (a : Int) :: (b : Int) :: K2⟩ = K1.map (fun (x : Int) => allT ps x.toNat) ++ allT ps' a :: (allT ps' b :: K2.map (fun (x : Int) => allT ps x.toNat)) := by
            rw [← hm1, ← hm2]; simp [subs]
          rw [e, inter_split _ _ _ _ _ (by simp; omega) (by simp; omega), hA]
          have e2 : preI (K1.map fun (x : Int) => allT ps x.toNat) F1 ++ allT ps' a ++ postI (m :: F2) (allT ps' b :: K2.map (fun (x : Int) => allT ps x.toNat)) = preI (K1.map fun (x : Int) => allT ps x.toNat) F1 ++ (allT ps' a ++ m :: allT ps' b) ++ postI F2 (K2.map fun (x : Int) => allT ps x.toNat) := by
            simp [postI]
          rw [e2]
          exact t3.wide hpre hpost
        · intro q h1 h2
          rcases t4 q h1 h2 with h | h
          · exact ⟨(a : Int), by simp, by simpa using h⟩
          · exact ⟨(b : Int), by simp, by simpa using h⟩
end
section
open Go.RowKit
theorem sub_inter : ∀ (S : List (List Fc)) (F : List Fc), S.length = F.length + 1 → ∀ s ∈ S, List.Sublist s (inter S F)
  | [s], [], _, t, ht => by simp at ht; subst ht; exact List.Sublist.refl _
  | s :: S, f :: F, h, t, ht => by
    show List.Sublist t (s ++ f :: inter S F)
    rcases List.mem_cons.1 ht with rfl | ht
    · exact List.sublist_append_left _ _
    · exact ((sub_inter S F (by simpa using h) t ht).cons f).trans (List.sublist_append_right _ _)
  | [], [], h, _, _ => by simp at h
  | [], _ :: _, h, _, _ => by simp at h
  | _ :: _ :: _, [], h, _, _ => by simp at h
theorem place_le (F : List Fc) (f : Fc) : placeP F f ≤ F.length := by unfold placeP; exact (List.takeWhile_sublist _).length_le
theorem Pg.kid {ps : List Pv} {root : Bool} {p d i : Nat} {g : Pv} (h : Pg ps root p d g) (h0 : g.kids ≠ []) (hi : i ≤ g.facts.length) :
  ∃ kid : Int, g.kids[i]? = some kid ∧ 0 ≤ kid ∧ kid < (p : Int) ∧ (∃ d', d = d' + 1 ∧ Tr ps false kid.toNat d') ∧ List.Sublist (allT ps kid.toNat) (allT ps p) := by
 rcases h.kids with ⟨h1, _⟩ | ⟨hl, d', hd, hk⟩
 ·exact absurd h1 h0
 ·obtain ⟨kid, hkid⟩ : ∃ kid, g.kids[i]? = some kid := ⟨_, List.getElem?_eq_getElem (by omega)⟩
  obtain ⟨a, b, c⟩ := hk i kid hkid
  refine ⟨kid, hkid, a, b, ⟨d', hd, c⟩, ?_⟩
  rw [h.all]
  refine sub_inter _ _ (by rw [subs_len, hl]) _ ?_
  unfold subs
  exact List.mem_map.2 ⟨kid, List.mem_of_getElem? hkid, rfl⟩
theorem getD_of {α : Type} {l : List α} {i : Nat} {x d : α} (h : l[i]? = some x) : l.getD i d = x := by rw [List.getD_eq_getElem?_getD, h]; rfl
theorem insW_fuel (f : Fc) : ∀ (n m : Nat) (ps : List Pv) (p : Nat) (root : Bool) (d : Nat), p < n → p < m → Tr ps root p d → insW f n ps p = insW f m ps p
  | 0, _, _, _, _, _, h, _, _ => by omega
  | _ + 1, 0, _, _, _, _, _, h, _ => by omega
  | n + 1, m + 1, ps, p, root, d, _, _, hT => by
    obtain ⟨g, hP⟩ := hT.pg
    unfold insW
    rw [getD_of hP.get]
    dsimp only
    by_cases h0 : g.kids = []
    · rw [if_pos (by rw [h0]; rfl), if_pos (by rw [h0]; rfl)]
    · obtain ⟨kid, hk, a, b, ⟨d', _, c⟩, _⟩ := hP.kid h0 (place_le g.facts f)
      rw [getD_of hk, insW_fuel f n m ps kid.toNat false d' (by omega) (by omega) c]
theorem insW_leaf {ps : List Pv} {p n : Nat} {g : Pv} {f : Fc} (hg : ps[p]? = some g) (h0 : g.kids.length = 0) : insW f (n + 1) ps p = splitP ps ⟨insAt g.facts (placeP g.facts f) f, []⟩ := by
 conv => lhs; unfold insW
 rw [getD_of hg]
 dsimp only
 rw [if_pos h0]
theorem insW_none {ps ps' : List Pv} {root : Bool} {p d a : Nat} {g : Pv} {f : Fc} {kid : Int} (h : Pg ps root p d g) (h0 : g.kids.length ≠ 0) (hk : g.kids[placeP g.facts f]? = some kid) (hr : insW f (kid.toNat + 1) ps kid.toNat = (ps', a, none)) :
  insW f (p + 1) ps p = splitP ps' ⟨g.facts, g.kids.set (placeP g.facts f) a⟩ := by
 conv => lhs; unfold insW
 rw [getD_of h.get]
 dsimp only
 obtain ⟨kid', hk', h1, h2, ⟨d', _, h3⟩, _⟩ := h.kid (fun e => h0 (by rw [e]; rfl)) (place_le g.facts f)
 rw [hk] at hk'; cases hk'
 rw [if_neg h0, getD_of hk, insW_fuel f p (kid.toNat + 1) ps kid.toNat false d' (by omega) (by omega) h3, hr]
theorem insW_some {ps ps' : List Pv} {root : Bool} {p d a b : Nat} {g : Pv} {f m : Fc} {kid : Int} (h : Pg ps root p d g) (h0 : g.kids.length ≠ 0) (hk : g.kids[placeP g.facts f]? = some kid) (hr : insW f (kid.toNat + 1) ps kid.toNat = (ps', a, some (m, b))) :
  insW f (p + 1) ps p = splitP ps' ⟨insAt g.facts (placeP g.facts f) m, insAt (g.kids.set (placeP g.facts f) a) (placeP g.facts f + 1) b⟩ := by
 conv => lhs; unfold insW
 rw [getD_of h.get]
 dsimp only
 obtain ⟨kid', hk', h1, h2, ⟨d', _, h3⟩, _⟩ := h.kid (fun e => h0 (by rw [e]; rfl)) (place_le g.facts f)
 rw [hk] at hk'; cases hk'
 rw [if_neg h0, getD_of hk, insW_fuel f p (kid.toNat + 1) ps kid.toNat false d' (by omega) (by omega) h3, hr]
end
section
open Go.RowKit
section
variable {P : Program} {ops : Array Oper} {n : Nat} {weak frag strong : Nat → Bool} {C Cs : World → Prop} {Q : Act → World → Prop} {a0 : Act} {done : List Ent} {later : List Oper} {o : Oper} {T : VT}
def deads (dead : Nat → Bool) : Nat → Nat → List Bool
 | _, 0 => []
 | k, n + 1 => dead k :: deads dead (k + 1) n
def finQ (Q : Act → World → Prop) : List Ent → List Bool → Act → (World → Prop) → Prop
 | (o, .inl x) :: rest, _ :: dm, a, H => finQ Q rest dm (a.put o.dst x) H
 | (o, .inr _) :: rest, true :: dm, a, H => ∀ v, finQ Q rest dm (a.put o.dst v) H
 | (o, .inr T) :: rest, false :: dm, a, H => ∀ v, finQ Q rest dm (a.put o.dst v) (fun w => H w ∧ T v w)
 | [], _, a, H => ∀ w, H w → Q a w
 | _ :: _, [], _, _ => False
theorem finQ_use {dead : Nat → Bool} : ∀ (done : List Ent) (k : Nat) (a : Act) (H : World → Prop), detB dead k done = true → finQ Q done (deads dead k done.length) a H → fin Q dead k (done.map Ent.vt) a H
  | [], _, _, _, _, h => h
  | (o, .inl x) :: rest, k, a, H, hf, h => by
    simp only [detB, Bool.and_eq_true, Bool.not_eq_true'] at hf
    exact fin_det hf.1 (finQ_use rest (k + 1) _ _ hf.2 h)
  | (o, .inr T) :: rest, k, a, H, hf, h => by
    simp only [detB] at hf
    simp only [List.length_cons, deads] at h
    cases hk : dead k with
    | true =>
      rw [hk] at h
      exact fin_dead fun v => finQ_use rest (k + 1) _ _ hf (h v)
    | false =>
      rw [hk] at h
      exact fin_var hk fun v => finQ_use rest (k + 1) _ _ hf (h v)
end
end
end Go.Proofs.YtbegdcjofnfkiaaGreatDoor
