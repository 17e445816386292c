/- Several texts in one: RelD F1 J2 JI0 IterG. -/
import Derived.Test.YtbegdcjofnfkiaaGreatDoorQ3
import Derived.Sort.Grow
import Derived.Test.YtbegdcjofnfkiaaGreatDoorRows
import Derived.Test.YtbegdcjofnfkiaaGreatDoorQ1
import Derived.WalkKit
import Derived.WalkSpells
import Derived.WalkLawsBesides
import Derived.Deep.QuietTactic
import Derived.BigQuiet
import Derived.Test.YtbegdcjofnfkiaaGreatDoorQ2
import Derived.Test.YtbegdcjofnfkiaaGreatDoorQ4
import Derived.Laws.Externs
namespace Go.Proofs.YtbegdcjofnfkiaaGreatDoor
end Go.Proofs.YtbegdcjofnfkiaaGreatDoor
section
namespace Go.Proofs.YtbegdcjofnfkiaaGreatDoor.RelD
open Go.RowKit Go.Sort
structure BelowD (n : Nat) (w w' : World) : Prop where
 b : Below n w w'
 d : w.drawn ≤ w'.drawn
namespace BelowD
variable {n m : Nat} {A B C : World}
theorem refl (n : Nat) (w : World) : BelowD n w w := ⟨Below.refl n w, Nat.le_refl _⟩
theorem trans (h : BelowD n A B) (k : BelowD n B C) : BelowD n A C := ⟨h.b.trans k.b, Nat.le_trans h.d k.d⟩
theorem mono (h : BelowD n A B) (hm : m ≤ n) : BelowD m A B := ⟨h.b.mono hm, h.d⟩
theorem alloc (h : BelowD n A B) (hn : n ≤ B.heap.size) (o : Obj) : BelowD n A (B.alloc o) := ⟨h.b.alloc hn o, h.d⟩
theorem size (h : BelowD n A B) : A.heap.size ≤ B.heap.size := h.b.size
theorem block (h : BelowD n A B) : ∀ k, k < n → B.heap[k]? = A.heap[k]? := h.b.block
end BelowD
abbrev VT := Value → World → Prop
def VT.Stable (T : VT) : Prop := ∀ v w w', BelowD w.heap.size w w' → T v w → T v w'
def VT.Robust (n : Nat) (T : VT) : Prop := ∀ v w w', n ≤ w.heap.size → BelowD n w w' → T v w → T v w'
def IsV (x : Value) : VT := fun v _ => v = x
theorem IsV.stable (x : Value) : (IsV x).Stable := fun _ _ _ _ h => h
theorem IsV.robust (n : Nat) (x : Value) : (IsV x).Robust n := fun _ _ _ _ _ h => h
section
variable {P : Program} {ops : Array Oper} {n : Nat} {wk : Bool} {weak frag : Nat → Bool}
def reach (n : Nat) (weak : Bool) (w : World) : Nat := if weak = true then n else w.heap.size
def relUpon (P : Program) (m : Nat) (w : World) (T : VT) : Result Next → Prop
 | .ok (.value u) w' => BelowD m w w' ∧ T u w'
 | .ok .skip w' => BelowD m w w' ∧ T undef w'
 | .ok (.enter f args) w' => Calls P f args w' fun e w'' => ∃ v, e = .returned v ∧ BelowD m w w'' ∧ T v w''
 | _ => False
def relAt (P : Program) (ops : Array Oper) (n : Nat) (weak : Bool) (T : VT) (o : Oper) (a : Act) (w : World) : Prop :=
 if Region.wanted o (yielded ops a.tmps) = true then relUpon P (reach n weak w) w T ((execOp a.eval o).run P w) else T undef w
def Agree (ops : Array Oper) (o : Oper) (a a' : Act) : Prop := ∀ t ∈ o.looksAt ops, a.tmps[t]? = a'.tmps[t]?
theorem Agree.exec {o : Oper} {a a' : Act} (hs : ∀ cs b, o.op ≠ .select cs b) (h : Agree ops o a a') : execOp a.eval o = execOp a'.eval o := by
  refine execOp_congr o hs fun x hx => ?_
  cases x with
  | tmp t =>
    have := h t (List.mem_append_left _ (List.mem_filterMap.2 ⟨.tmp t, by simpa using hx, rfl⟩))
    simp [Act.eval, this]
  | _ => rfl
theorem Agree.wanted {o : Oper} {a a' : Act} (h : Agree ops o a a') : Region.wanted o (yielded ops a.tmps) = Region.wanted o (yielded ops a'.tmps) := by
  unfold Region.wanted
  cases hg : o.guard with
  | none => rfl
  | some gw =>
    obtain ⟨g, want⟩ := gw
    have hy : yielded ops a.tmps g = yielded ops a'.tmps g := by
      unfold yielded
      cases ht : (ops[g]?).bind (·.dst) with
      | none => rfl
      | some t =>
        have := h t (by simp [Oper.looksAt, hg, ht])
        simp [this]
    simp only [hy]
theorem Agree.rel {T : VT} {o : Oper} {a a' : Act} {w : World} (hs : ∀ cs b, o.op ≠ .select cs b) (h : Agree ops o a a') (hr : relAt P ops n wk T o a w) : relAt P ops n wk T o a' w := by
 unfold relAt at *
 rwa [← h.exec hs, ← h.wanted]
theorem Agree.refl (o : Oper) (a : Act) : Agree ops o a a := fun _ _ => rfl
theorem put_get (a : Act) (d : Tmp) (v : Value) (t : Tmp) : (a.put (some d) v).tmps[t]? = if d = t then (a.tmps[t]?).map (fun _ => v) else a.tmps[t]? := by
 by_cases h : d = t
 ·subst h
  simp [Act.put, Array.getElem?_setIfInBounds]
  split
  ·rename_i hlt; simp [hlt]
  ·rename_i hlt; simp [Array.getElem?_eq_none (Nat.not_lt.1 hlt)]
 ·rw [if_neg h]
  simp [Act.put, Array.getElem?_setIfInBounds_ne h]
theorem Agree.put {o : Oper} {a a' : Act} (h : Agree ops o a a') (d : Option Tmp) (v : Value) : Agree ops o (a.put d v) (a'.put d v) := by
  cases d with
  | none => exact h
  | some d =>
    intro t ht
    rw [put_get, put_get, h t ht]
theorem Agree.put_left {o : Oper} {a a' : Act} (h : Agree ops o a a') {d : Option Tmp} (v : Value) (hd : ∀ x, d = some x → x ∉ o.looksAt ops) : Agree ops o (a.put d v) a' := by
  cases d with
  | none => exact h
  | some d =>
    intro t ht
    rw [put_get, if_neg (by rintro rfl; exact hd _ rfl ht)]
    exact h t ht
def fillL (on : Nat → Bool) (vs : Nat → Value) : Nat → List Oper → Act → Act
 | _, [], a => a
 | k, o :: l, a => fillL on vs (k + 1) l (if on k = true then a.put o.dst (vs k) else a)
theorem fillL_ext {on on' : Nat → Bool} {vs vs' : Nat → Value} : ∀ (l : List Oper) (k : Nat) (a : Act), (∀ j, k ≤ j → j < k + l.length → on j = on' j ∧ (on j = true → vs j = vs' j)) → fillL on vs k l a = fillL on' vs' k l a
  | [], _, _, _ => rfl
  | o :: l, k, a, h => by
    obtain ⟨h1, h2⟩ := h k (Nat.le_refl _) (by simp)
    have ih := fun a => fillL_ext l (k + 1) a (fun j hj hj' => h j (by omega) (by simp; omega))
    unfold fillL
    rw [← h1]
    by_cases hk : on k = true
    · rw [if_pos hk, if_pos hk, h2 hk, ih]
    · rw [if_neg hk, if_neg hk, ih]
theorem fillL_agree {o : Oper} {on on' : Nat → Bool} {vs : Nat → Value} : ∀ (l : List Oper) (k : Nat) (a a' : Act), Agree ops o a a' →
    (∀ j oj, l[j]? = some oj → on (k + j) ≠ on' (k + j) → ∀ x, oj.dst = some x → x ∉ o.looksAt ops) → Agree ops o (fillL on vs k l a) (fillL on' vs k l a')
  | [], _, _, _, h, _ => h
  | oj :: l, k, a, a', h, hd => by
    unfold fillL
    refine fillL_agree l (k + 1) _ _ ?_ (fun j o' hj hne => hd (j + 1) o' (by simpa using hj) (by rwa [show k + (j + 1) = k + 1 + j by omega]))
    have h0 := hd 0 oj (by simp)
    simp only [Nat.add_zero] at h0
    cases hk : on k <;> cases hk' : on' k
    · simpa using h
    · simp only [Bool.false_eq_true, if_false, if_true]
      exact fun t ht => ((Agree.put_left (fun t ht => (h t ht).symm) (vs k) (h0 (by simp [hk, hk']))) t ht).symm
    · simp only [Bool.false_eq_true, if_false, if_true]
      exact h.put_left (vs k) (h0 (by simp [hk, hk']))
    · simpa using h.put _ _
theorem fillL_put {on : Nat → Bool} {vs : Nat → Value} {d : Option Tmp} {v : Value} : ∀ (l : List Oper) (k : Nat) (a : Act), (∀ j oj, l[j]? = some oj → on (k + j) = true → ∀ x, d = some x → oj.dst ≠ some x) →
    (fillL on vs k l a).put d v = fillL on vs k l (a.put d v)
  | [], _, _, _ => rfl
  | oj :: l, k, a, h => by
    unfold fillL
    rw [fillL_put l (k + 1) _ (fun j o' hj hon => h (j + 1) o' (by simpa using hj) (by rwa [show k + (j + 1) = k + 1 + j by omega]))]
    by_cases hk : on k = true
    · rw [if_pos hk, if_pos hk, Act.put_comm]
      intro x hx hx'
      exact h 0 oj (by simp) (by simpa using hk) x hx' hx
    · rw [if_neg hk, if_neg hk]
theorem fillL_set {on : Nat → Bool} {vs : Nat → Value} {v : Value} {i : Nat} {oi : Oper} : ∀ (l : List Oper) (k : Nat) (a : Act), k ≤ i → l[i - k]? = some oi → on i = false →
    (∀ j oj, l[j]? = some oj → i < k + j → on (k + j) = true → ∀ x, oi.dst = some x → oj.dst ≠ some x) →
    (fillL on vs k l a).put oi.dst v = fillL (fun j => j == i || on j) (fun j => if j = i then v else vs j) k l a
  | [], _, _, _, h, _, _ => by simp at h
  | o :: l, k, a, hki, hi, hoff, h => by
    unfold fillL
    by_cases he : k = i
    · subst he
      simp at hi
      subst hi
      rw [hoff]
      simp only [Bool.false_eq_true, if_false, beq_self_eq_true, Bool.true_or, if_true]
      rw [fillL_put l (k + 1) a (fun j oj hj hon => h (j + 1) oj (by simpa using hj) (by omega) (by rwa [show k + (j + 1) = k + 1 + j by omega]))]
      refine fillL_ext l (k + 1) _ fun j hj hj' => ?_
      have hne : j ≠ k := by omega
      simp [hne]
    · have hne : (k == i) = false := by simpa using he
      rw [fillL_set l (k + 1) _ (by omega) (by rw [show i - k = (i - (k + 1)) + 1 by omega] at hi; simpa using hi) hoff
        (fun j oj hj hlt hon => h (j + 1) oj (by simpa using hj) (by omega) (by rwa [show k + (j + 1) = k + 1 + j by omega]))]
      simp only [hne, Bool.false_or, if_neg he]
def relB (ops : Array Oper) : Bool :=
  Region.noSelect ops && (List.range ops.size).all fun j => match ops[j]? with
    | none => true
    | some oj => (oj.after.all fun e => !Region.binds .any e || decide (e.on < j)) && (List.range j).all fun i => match ops[i]? with
      | none => true
      | some oi => oj.after.any (fun e => Region.binds .any e && e.on == i) || oi.apart ops oj
theorem relB_spec (h : relB ops = true) : Region.noSelect ops = true ∧ ∀ j oj, ops[j]? = some oj → (∀ e ∈ oj.after, Region.binds .any e = true → e.on < j) ∧ ∀ i oi, i < j → ops[i]? = some oi → (∃ e ∈ oj.after, Region.binds .any e = true ∧ e.on = i) ∨ oi.apart ops oj = true := by
 simp only [relB, Bool.and_eq_true, List.all_eq_true, List.mem_range] at h
 refine ⟨h.1, fun j oj hj => ?_⟩
 have h1 := h.2 j (Array.getElem?_eq_some_iff.1 hj).1
 simp only [hj, Bool.and_eq_true, Array.all_eq_true_iff_forall_mem, List.all_eq_true, List.mem_range] at h1
 refine ⟨fun e he hb => ?_, fun i oi hij hi => ?_⟩
 ·simpa [hb] using h1.1 e he
 ·have h2 := h1.2 i hij
  simp only [hi, Bool.or_eq_true] at h2
  rcases h2 with h2 | h2
  ·obtain ⟨e, he, hb⟩ := Array.any_eq_true'.1 h2
   simp only [Bool.and_eq_true, beq_iff_eq] at hb
   exact .inl ⟨e, he, hb.1, hb.2⟩
  ·exact .inr h2
def obl (P : Program) (ops : Array Oper) (n : Nat) (wk : Bool) (T : VT) (o : Oper) : List (Oper × VT) → Act → (World → Prop) → Prop
 | [], a, H => ∀ w, H w → relAt P ops n wk T o a w
 | x :: rest, a, H => if x.1.apart ops o = true then obl P ops n wk T o rest a H else ∀ v, obl P ops n wk T o rest (a.put x.1.dst v) (fun w => H w ∧ x.2 v w)
def lost (weak frag : Nat → Bool) (m k : Nat) : Bool := frag k && (List.range m).any fun i => weak i && decide (k < i)
def fin (Q : Act → World → Prop) (dead : Nat → Bool) : Nat → List (Oper × VT) → Act → (World → Prop) → Prop
 | _, [], a, H => ∀ w, H w → Q a w
 | k, x :: rest, a, H => ∀ v, fin Q dead (k + 1) rest (a.put x.1.dst v) (fun w => H w ∧ (dead k = false → x.2 v w))
def wpRel (P : Program) (ops : Array Oper) (n : Nat) (weak frag : Nat → Bool) (C : World → Prop) (Q : Act → World → Prop) (a0 : Act) : List (Oper × VT) → List Oper → Prop
 | done, [] => fin Q (lost weak frag ops.size) 0 done a0 C
 | done, o :: rest => ∃ T : VT, (frag done.length = true → T.Stable) ∧ (frag done.length = false → T.Robust n) ∧ obl P ops n (weak done.length) T o done a0 C ∧ wpRel P ops n weak frag C Q a0 (done ++ [(o, T)]) rest
theorem obl_use {T : VT} {o : Oper} (vs : Nat → Value) {w : World} : ∀ (done : List (Oper × VT)) (k : Nat) (a : Act) (H : World → Prop), obl P ops n wk T o done a H → H w →
    (∀ (j : Nat) (x : Oper × VT), done[j]? = some x → x.1.apart ops o = false → x.2 (vs (k + j)) w) → relAt P ops n wk T o (fillL (fun j => match done[j - k]? with | some x => !x.1.apart ops o | none => false) vs k (done.map (·.1)) a) w
  | [], _, _, _, h, hH, _ => h w hH
  | x :: rest, k, a, H, h, hH, hT => by
    unfold obl at h
    simp only [List.map_cons, fillL]
    have e : ∀ a', fillL (fun j => match (x :: rest)[j - k]? with | some x => !x.1.apart ops o | none => false) vs (k + 1) (rest.map (·.1)) a' = fillL (fun j => match rest[j - (k + 1)]? with | some x => !x.1.apart ops o | none => false) vs (k + 1) (rest.map (·.1)) a' := by
      intro a'
      refine fillL_ext _ _ _ fun j hj _ => ⟨?_, fun _ => rfl⟩
      rw [show j - k = (j - (k + 1)) + 1 by omega]
      simp
    rw [e]
    have hT' : ∀ (j : Nat) (y : Oper × VT), rest[j]? = some y → y.1.apart ops o = false → y.2 (vs (k + 1 + j)) w := fun j y hj hy => by
      have := hT (j + 1) y (by simpa using hj) hy
      rwa [show k + (j + 1) = k + 1 + j by omega] at this
    have hx := hT 0 x (by simp)
    simp only [Nat.sub_self, List.getElem?_cons_zero, Nat.add_zero] at hx ⊢
    cases hap : x.1.apart ops o with
    | true =>
      rw [hap] at h
      simp only [if_true] at h
      simp only [Bool.not_true, Bool.false_eq_true, if_false]
      exact obl_use vs rest (k + 1) a H h hH hT'
    | false =>
      rw [hap] at h
      simp only [Bool.false_eq_true, if_false] at h
      simp only [Bool.not_false, if_true]
      exact obl_use vs rest (k + 1) _ _ (h (vs k)) ⟨hH, hx hap⟩ hT'
theorem fin_use {Q : Act → World → Prop} {dead : Nat → Bool} (vs : Nat → Value) {w : World} {on : Nat → Bool} : ∀ (done : List (Oper × VT)) (k : Nat) (a : Act) (H : World → Prop), fin Q dead k done a H → H w → (∀ (j : Nat) (x : Oper × VT), done[j]? = some x → on (k + j) = true ∧ (dead (k + j) = false → x.2 (vs (k + j)) w)) →
    Q (fillL on vs k (done.map (·.1)) a) w
  | [], _, _, _, h, hH, _ => h w hH
  | x :: rest, k, a, H, h, hH, hT => by
    unfold fin at h
    have h0 := hT 0 x (by simp)
    simp only [Nat.add_zero] at h0
    simp only [List.map_cons, fillL, h0.1, if_true]
    refine fin_use vs rest (k + 1) _ _ (h (vs k)) ⟨hH, h0.2⟩ fun j y hj => ?_
    have := hT (j + 1) y (by simpa using hj)
    rwa [show k + (j + 1) = k + 1 + j by omega] at this
theorem wpRel_all {C : World → Prop} {Q : Act → World → Prop} {a0 : Act} : ∀ (rest : List Oper) (done : List (Oper × VT)), wpRel P ops n weak frag C Q a0 done rest →
    ∃ D : List (Oper × VT), D.map (·.1) = done.map (·.1) ++ rest ∧ D.take done.length = done ∧ (∀ (k : Nat) (o : Oper) (T : VT), done.length ≤ k → D[k]? = some (o, T) → (frag k = true → T.Stable) ∧ (frag k = false → T.Robust n) ∧ obl P ops n (weak k) T o (D.take k) a0 C) ∧ fin Q (lost weak frag ops.size) 0 D a0 C
  | [], done, h => ⟨done, by simp, by simp, ⟨fun k o T hk hD => (by rw [List.getElem?_eq_none hk] at hD; cases hD), h⟩⟩
  | o :: rest, done, ⟨T, hT, hT', ho, h⟩ => by
    obtain ⟨D, h1, h2, h3, h4⟩ := wpRel_all rest _ h
    have hlen : (done ++ [(o, T)]).length = done.length + 1 := by simp
    rw [hlen] at h2 h3
    have hd : D.take done.length = done := by
      have := congrArg (List.take done.length) h2
      rw [List.take_take, Nat.min_eq_left (by omega)] at this
      rw [this]
      simp
    refine ⟨D, by rw [h1]; simp, hd, fun k o' T' hk hD => ?_, h4⟩
    rcases Nat.lt_or_ge done.length k with hlt | hge
    · exact h3 k o' T' (by omega) hD
    · obtain rfl : k = done.length := by omega
      have he : D[done.length]? = some (o, T) := by
        have := congrArg (fun l => l[done.length]?) h2
        simp only [List.getElem?_take] at this
        rw [if_pos (by omega)] at this
        rw [this]
        simp
      rw [he] at hD
      injection hD with hD
      injection hD with e1 e2
      subst e1 e2
      rw [hd]
      exact ⟨hT, hT', ho⟩
def unl (n : Nat) (listed : Array Bool) : Nat := ((List.range n).filter fun j => !listed.getD j true).length
theorem filter_less {p q : Nat → Bool} : ∀ (l : List Nat) (i : Nat), l.Nodup → i ∈ l → p i = true → q i = false → (∀ j ∈ l, j ≠ i → q j = p j) → (l.filter q).length + 1 = (l.filter p).length
  | [], _, _, h, _, _, _ => by simp at h
  | x :: l, i, hn, hi, hp, hq, h => by
    rw [List.nodup_cons] at hn
    by_cases hx : x = i
    · subst hx
      have e : l.filter q = l.filter p := List.filter_congr fun j hj => h j (by simp [hj]) (fun e => hn.1 (e ▸ hj))
      rw [List.filter_cons, List.filter_cons, hp, hq, e]
      simp
    · have hil : i ∈ l := by
        rcases List.mem_cons.1 hi with e | e
        · exact absurd e.symm hx
        · exact e
      have ih := filter_less l i hn.2 hil hp hq (fun j hj => h j (by simp [hj]))
      have hxx := h x (by simp) hx
      by_cases hpx : p x = true
      · rw [List.filter_cons_of_pos (by simpa [hxx] using hpx), List.filter_cons_of_pos (by simpa using hpx)]
        simpa using ih
      · rw [List.filter_cons_of_neg (by simpa [hxx] using hpx), List.filter_cons_of_neg (by simpa using hpx)]
        exact ih
theorem unl_set {n : Nat} {listed : Array Bool} {i : Nat} (hs : listed.size = n) (hi : i < n) (h : listed.getD i true = false) : unl n (listed.setIfInBounds i true) + 1 = unl n listed := by
 refine filter_less _ i List.nodup_range (List.mem_range.2 hi) (by simpa using h) ?_ fun j _ hne => by rw [getD_set_ne true (Ne.symm hne)]
 have : i < listed.size := by omega
 simp [this]
def killB (ops : Array Oper) (weak frag : Nat → Bool) : Bool :=
 let tied := fun (x y : Nat) => match ops[x]?, ops[y]? with
  | some ox, some oy => !ox.apart ops oy
  | _, _ => false
 (List.range ops.size).all fun i => !weak i || (List.range ops.size).all fun j => !frag j ||
  ((!decide (j < i) || (List.range ops.size).all fun k => !decide (j < k) || !tied j k || k == i || (decide (k < i) && tied k i)) && (!decide (i < j) || tied i j))
theorem killB_spec (h : killB ops weak frag = true) {i j : Nat} {oi oj : Oper} (hi : ops[i]? = some oi) (hj : ops[j]? = some oj) (hw : weak i = true) (hf : frag j = true) :
  (j < i → ∀ k ok, ops[k]? = some ok → j < k → oj.apart ops ok = false → k = i ∨ (k < i ∧ ok.apart ops oi = false)) ∧ (i < j → oi.apart ops oj = false) := by
 simp only [killB, List.all_eq_true, List.mem_range] at h
 have h1 := h i (Array.getElem?_eq_some_iff.1 hi).1
 rw [hw] at h1
 simp only [Bool.not_true, Bool.false_or, List.all_eq_true, List.mem_range] at h1
 have h2 := h1 j (Array.getElem?_eq_some_iff.1 hj).1
 rw [hf] at h2
 simp only [Bool.not_true, Bool.false_or, Bool.and_eq_true, hi, hj] at h2
 refine ⟨fun hji k ok hk hjk hap => ?_, fun hij => ?_⟩
 ·have h3 := h2.1
  simp only [hji, decide_true, Bool.not_true, Bool.false_or, List.all_eq_true, List.mem_range] at h3
  have h4 := h3 k (Array.getElem?_eq_some_iff.1 hk).1
  simp only [hk, hjk, hap, decide_true, Bool.not_true, Bool.false_or, Bool.not_false, Bool.or_eq_true, beq_iff_eq, Bool.and_eq_true, decide_eq_true_eq, Bool.not_eq_true'] at h4
  exact h4
 ·have h3 := h2.2
  simpa [hij] using h3
def killed (weak frag : Nat → Bool) (m : Nat) (listed : Array Bool) (j : Nat) : Prop := frag j = true ∧ ∃ i, i < m ∧ weak i = true ∧ j < i ∧ listed.getD i false = true
theorem wpAny_of_rel {C : World → Prop} {Q : Exit → Act → World → Prop} {a0 : Act} {D : List (Oper × VT)} (hl : D.map (·.1) = ops.toList) (hB : relB ops = true) (hkB : killB ops weak frag = true) (hC : ∀ w w', C w → BelowD n w w' → C w') (hCn : ∀ w, C w → n ≤ w.heap.size)
    (ho : ∀ (k : Nat) (o : Oper) (T : VT), D[k]? = some (o, T) → (frag k = true → T.Stable) ∧ (frag k = false → T.Robust n) ∧ obl P ops n (weak k) T o (D.take k) a0 C) (hf : fin (fun a w => Q .normal a w) (lost weak frag ops.size) 0 D a0 C) :
    ∀ (fuel : Nat) (listed : Array Bool) (vs : Nat → Value) (w : World), listed.size = ops.size → unl ops.size listed ≤ fuel →
      (∀ (j : Nat) (oj : Oper), ops[j]? = some oj → listed.getD j false = true → ∀ e ∈ oj.after, Region.binds .any e = true → listed.getD e.on false = true) →
      (∀ (j : Nat) (o : Oper) (T : VT), D[j]? = some (o, T) → listed.getD j false = true → ¬ killed weak frag ops.size listed j → T (vs j) w) → C w →
      wpAny P .any ops Q fuel listed (fillL (fun j => listed.getD j false) vs 0 ops.toList a0) w := by
  obtain ⟨hsel0, hB⟩ := relB_spec hB
  have hsel := Region.noSelect_spec hsel0
  have hD : ∀ (k : Nat) (o : Oper), ops[k]? = some o → ∃ T : VT, D[k]? = some (o, T) := by
    intro k o hk
    have h1 : (D.map (·.1))[k]? = some o := by rw [hl]; simpa using hk
    rw [List.getElem?_map] at h1
    cases hd : D[k]? with
    | none => rw [hd] at h1; simp at h1
    | some x =>
      rw [hd] at h1
      simp at h1
      exact ⟨x.2, by rw [← h1]⟩
  have hdone : ∀ (listed : Array Bool) (vs : Nat → Value) (w : World), listed.size = ops.size → (∀ (j : Nat) (o : Oper) (T : VT), D[j]? = some (o, T) → listed.getD j false = true → ¬ killed weak frag ops.size listed j → T (vs j) w) → C w → Region.ready .any ops listed = [] →
      Q .normal (fillL (fun j => listed.getD j false) vs 0 ops.toList a0) w := by
    intro listed vs w hsz hT hCw hr
    have hall : ∀ j, j < ops.size → listed.getD j false = true := by
      intro j
      induction j using Nat.strongRecOn with
      | ind j ih =>
        intro hj
        cases hb : listed.getD j false with
        | true => rfl
        | false =>
          exfalso
          have hm : j ∈ Region.ready .any ops listed := by
            rw [mem_ready]
            have hjl : j < listed.size := by omega
            refine ⟨by simpa [hjl] using hb, ops[j], Array.getElem?_eq_getElem hj, fun e he hbd => ?_⟩
            have hlt := (hB j ops[j] (Array.getElem?_eq_getElem hj)).1 e he hbd
            exact ih e.on hlt (by omega)
          rw [hr] at hm
          cases hm
    rw [← hl]
    refine fin_use vs D 0 a0 C hf hCw fun j x hj => ?_
    have hj' : j < ops.size := by
      have h1 := (List.getElem?_eq_some_iff.1 hj).1
      have h2 := congrArg List.length hl
      simp at h2
      omega
    rw [Nat.zero_add]
    refine ⟨hall j hj', fun hd => hT j x.1 x.2 hj (hall j hj') ?_⟩
    rintro ⟨hfr, i, hi, hw, hji, _⟩
    have : lost weak frag ops.size j = true := by
      simp only [lost, hfr, Bool.true_and, List.any_eq_true, List.mem_range]
      exact ⟨i, hi, by simp [hw, hji]⟩
    rw [this] at hd
    cases hd
  intro fuel
  induction fuel with
  | zero =>
    intro listed vs w hsz hfu _ hT hCw
    have hr : Region.ready .any ops listed = [] := by
      cases hr : Region.ready .any ops listed with
      | nil => rfl
      | cons i rs =>
        have hi : i ∈ Region.ready .any ops listed := by rw [hr]; simp
        obtain ⟨h0, o, ho', _⟩ := mem_ready.1 hi
        have := unl_set hsz (Array.getElem?_eq_some_iff.1 ho').1 h0
        omega
    exact ⟨hr, hdone listed vs w hsz hT hCw hr⟩
  | succ fuel ih =>
    intro listed vs w hsz hfu hcl hT hCw
    refine ⟨hdone listed vs w hsz hT hCw, fun i hi => ?_⟩
    obtain ⟨h0, oi, hoi, hdeps⟩ := mem_ready.1 hi
    have hilt := (Array.getElem?_eq_some_iff.1 hoi).1
    have hioff : listed.getD i false = false := by
      have : i < listed.size := by omega
      simpa [this] using h0
    obtain ⟨T, hDi⟩ := hD i oi hoi
    obtain ⟨_, _, hob⟩ := ho i oi T hDi
    -- an operation that is listed and later is apart
    have hlater : ∀ j oj, ops[j]? = some oj → i < j → listed.getD j false = true → oi.apart ops oj = true := fun j oj hj hij hon => by
      rcases (hB j oj hj).2 i oi hij hoi with ⟨e, he, hb, hon'⟩ | h
      · have := hcl j oj hj hon e he hb
        rw [hon', hioff] at this
        cases this
      · exact h
    have hearlier : ∀ j oj, ops[j]? = some oj → j < i → oj.apart ops oi = false → listed.getD j false = true := fun j oj hj hij hna => by
      rcases (hB i oi hoi).2 j oj hij hj with ⟨e, he, hb, hon'⟩ | h
      · have := hdeps e he hb
        rwa [hon'] at this
      · rw [h] at hna; cases hna
    have hused := obl_use (w := w) vs (D.take i) 0 a0 C hob hCw (fun j x hj hna => by
      rw [Nat.zero_add]
      rw [List.getElem?_take] at hj
      split at hj
      · rename_i hji
        have hoj : ops[j]? = some x.1 := by
          have h1 := congrArg (fun l => l[j]?) hl
          simp only [List.getElem?_map, hj, Option.map_some] at h1
          simpa using h1.symm
        refine hT j x.1 x.2 hj (hearlier j x.1 hoj hji hna) ?_
        rintro ⟨hfr, i', hi', hw, hji', hon'⟩
        rcases (killB_spec hkB (Array.getElem?_eq_getElem hi') hoj hw hfr).1 hji' i oi hoi hji hna with e | ⟨e1, e2⟩
        · rw [← e, hioff] at hon'; cases hon'
        · rw [hlater i' _ (Array.getElem?_eq_getElem hi') e1 hon'] at e2; cases e2
      · cases hj)
    have hrel : relAt P ops n (weak i) T oi (fillL (fun j => listed.getD j false) vs 0 ops.toList a0) w := by
      refine Agree.rel (hsel i oi · · hoi) ?_ hused
      -- the frame with what is read, and the whole one
      have hsplit : ops.toList = (D.take i).map (·.1) ++ ops.toList.drop i := by
        rw [← hl, List.map_take, List.take_append_drop]
      have hfa : ∀ (on : Nat → Bool) (l1 l2 : List Oper) (k : Nat) (a : Act), fillL on vs k (l1 ++ l2) a = fillL on vs (k + l1.length) l2 (fillL on vs k l1 a) := by
        intro on l1
        induction l1 with
        | nil => intro l2 k a; rfl
        | cons x l1 ih => intro l2 k a; simp only [List.cons_append, fillL, List.length_cons]; rw [ih]; congr 1; omega
      have hlen : ((D.take i).map (·.1)).length = i := by
        have h2 := congrArg List.length hl
        simp at h2
        simp
        omega
      have h1 : Agree ops oi (fillL (fun j => match (D.take i)[j - 0]? with | some x => !x.1.apart ops oi | none => false) vs 0 ((D.take i).map (·.1)) a0) (fillL (fun j => listed.getD j false) vs 0 ((D.take i).map (·.1)) a0) := by
        refine fillL_agree _ _ _ _ (Agree.refl _ _) fun j oj hj hne x hx => ?_
        rw [List.getElem?_map] at hj
        cases hd : (D.take i)[j]? with
        | none => rw [hd] at hj; simp at hj
        | some y =>
          rw [hd] at hj
          simp at hj
          subst hj
          have hji : j < i := by
            have := (List.getElem?_eq_some_iff.1 hd).1
            simp at this
            omega
          rw [List.getElem?_take, if_pos hji] at hd
          have hoj : ops[j]? = some y.1 := by
            have h1 := congrArg (fun l => l[j]?) hl
            simp only [List.getElem?_map, hd, Option.map_some] at h1
            simpa using h1.symm
          have hyy : (D.take i)[j]? = some y := by rw [List.getElem?_take, if_pos hji]; exact hd
          simp only [Nat.zero_add, Nat.sub_zero, hyy] at hne
          cases hap : y.1.apart ops oi with
          | true => exact (Oper.apart_spec hap).1 x hx
          | false =>
            rw [hap, hearlier j y.1 hoj hji hap] at hne
            exact absurd rfl hne
      rw [hsplit, hfa, hlen]
      have h2 : ∀ (l : List Oper) (k : Nat) (a : Act), (∀ j oj, l[j]? = some oj → listed.getD (k + j) false = true → ∀ x, oj.dst = some x → x ∉ oi.looksAt ops) → Agree ops oi a (fillL (fun j => listed.getD j false) vs k l a) := by
        intro l k a hh
        have := fillL_agree (ops := ops) (o := oi) (on := fun _ => false) (on' := fun j => listed.getD j false) (vs := vs) l k a a (Agree.refl _ _) (fun j oj hj hne x hx => hh j oj hj (by
          cases hb : listed.getD (k + j) false with
          | true => rfl
          | false => exact absurd hb.symm hne) x hx)
        have hz : ∀ (l : List Oper) (k : Nat) (a : Act), fillL (fun _ => false) vs k l a = a := by
          intro l
          induction l with
          | nil => intro k a; rfl
          | cons o l ih => intro k a; simp only [fillL, Bool.false_eq_true, if_false]; exact ih _ _
        rwa [hz] at this
      refine fun t ht => (h1 t ht).trans (h2 (ops.toList.drop i) (0 + i) _ (fun j oj hj hon x hx => ?_) t ht)
      rw [List.getElem?_drop] at hj
      have hoj : ops[i + j]? = some oj := by simpa using hj
      rw [Nat.zero_add] at hon
      rcases Nat.eq_zero_or_pos j with rfl | hpos
      · rw [Nat.add_zero, hioff] at hon; cases hon
      · exact (Oper.apart_spec (hlater (i + j) oj hoj (by omega) hon)).2.2 x hx
    -- the step
    have next : ∀ v w', BelowD (reach n (weak i) w) w w' → T v w' → wpAny P .any ops Q fuel (listed.setIfInBounds i true) ((fillL (fun j => listed.getD j false) vs 0 ops.toList a0).put oi.dst v) w' := by
      intro v w' hb hv
      have hbn : BelowD n w w' := hb.mono (by unfold reach; split; exact Nat.le_refl _; exact hCn w hCw)
      rw [fillL_set (i := i) (oi := oi) ops.toList 0 a0 (Nat.zero_le _) (by simpa using hoi) hioff (fun j oj hj hij hon x hx => by
        rw [Nat.zero_add] at hij hon
        exact (Oper.apart_spec (hlater j oj (by simpa using hj) hij hon)).2.1 x hx)]
      have hset : ∀ j, j < ops.size → (j == i || listed.getD j false) = (listed.setIfInBounds i true).getD j false := by
        intro j hj
        by_cases hji : j = i
        · subst hji
          have : j < listed.size := by omega
          simp [this]
        · rw [getD_set_ne false (Ne.symm hji)]
          simp [hji]
      rw [fillL_ext (on' := fun j => (listed.setIfInBounds i true).getD j false) (vs' := fun j => if j = i then v else vs j) ops.toList 0 a0 (fun j _ hj => ⟨hset j (by simpa using hj), fun _ => rfl⟩)]
      refine ih _ _ w' (by simpa using hsz) (by have := unl_set hsz hilt h0; omega) (fun j oj hj hon e he hbd => ?_) (fun j o T' hj hon hnk => ?_) (hC w w' hCw hbn)
      · by_cases hji : j = i
        · subst hji
          rw [hoi] at hj
          injection hj with hj
          subst hj
          exact getD_set_true (hdeps e he hbd)
        · rw [getD_set_ne false (Ne.symm hji)] at hon
          exact getD_set_true (hcl j oj hj hon e he hbd)
      · by_cases hji : j = i
        · subst hji
          rw [hDi] at hj
          injection hj with hj
          injection hj with e1 e2
          subst e1 e2
          simpa using hv
        · rw [getD_set_ne false (Ne.symm hji)] at hon
          simp only [if_neg hji]
          have hjlt : j < ops.size := by
            have h1 := (List.getElem?_eq_some_iff.1 hj).1
            have h2 := congrArg List.length hl
            simp at h2
            omega
          have hTj := hT j o T' hj hon (fun ⟨hfr, i', hi', hw, hji', hon'⟩ => hnk ⟨hfr, i', hi', hw, hji', getD_set_true hon'⟩)
          cases hfr : frag j with
          | false => exact (ho j o T' hj).2.1 hfr _ _ _ (hCn w hCw) hbn hTj
          | true =>
            cases hwi : weak i with
            | false =>
              rw [hwi] at hb
              exact (ho j o T' hj).1 hfr _ _ _ hb hTj
            | true =>
              exfalso
              have hil : i < listed.size := by omega
              rcases Nat.lt_or_ge j i with hlt | hge
              · exact hnk ⟨hfr, i, hilt, hwi, hlt, by simp [hil]⟩
              · have hij : i < j := by omega
                have e2 := (killB_spec hkB hoi (Array.getElem?_eq_getElem hjlt) hwi hfr).2 hij
                rw [hlater j _ (Array.getElem?_eq_getElem hjlt) hij hon] at e2
                cases e2
    unfold wpOp
    simp only [hoi]
    unfold relAt at hrel
    split
    · rename_i hw
      rw [if_pos hw] at hrel
      refine .inl ?_
      unfold Oper.wp
      generalize (execOp (fillL (fun j => listed.getD j false) vs 0 ops.toList a0).eval oi).run P w = r at hrel
      cases r with
      | ok n w' =>
        cases n <;> simp only [relUpon] at hrel <;> simp only [Oper.upon]
        case value u => exact next u w' hrel.1 hrel.2
        case skip => exact next undef w' hrel.1 hrel.2
        case enter f args =>
          exact hrel.mono fun e w'' ⟨v, he, h1, h2⟩ => by subst he; exact next v w'' h1 h2
      | halt x w' => simp only [relUpon] at hrel
    · rename_i hw
      rw [if_neg hw] at hrel
      exact next undef w (BelowD.refl _ _) hrel
theorem getD_rep (n j : Nat) : (Array.replicate n false).getD j false = false := by
 simp [Array.getElem?_replicate]
 split <;> rfl
theorem wp_region_rel {id : Nat} {Q : Exit → Act → World → Prop} {a : Act} {w : World} {l : List Oper} (n : Nat) (weak frag : Nat → Bool) (hn : n ≤ w.heap.size) (hm : P.follows .mixedOrders = true) (hB : relB l.toArray = true) (hkB : killB l.toArray weak frag = true)
  (h : wpRel P l.toArray n weak frag (BelowD n w) (fun a' w' => Q .normal a' w') a [] l) : (Code.region id l.toArray true).wp P Q a w := by
 obtain ⟨D, h1, _, h3, h4⟩ := wpRel_all l [] h
 refine wp_region_any hm ?_
 have := wpAny_of_rel (Q := Q) (ops := l.toArray) (D := D) (a0 := a) (C := BelowD n w) (by simpa using h1) hB hkB (fun w1 w2 hb hb' => hb.trans hb') (fun w1 hb => Nat.le_trans hn hb.size)
  (fun k o T hk => h3 k o T (Nat.zero_le _) hk) h4 l.toArray.size (Array.replicate l.toArray.size false) (fun _ => undef) { w with drawn := w.drawn + 1 } (by simp)
  (by unfold unl; exact Nat.le_trans (List.length_filter_le _ _) (by simp)) (fun j oj _ hon => by rw [getD_rep] at hon; cases hon) (fun j o T _ hon _ => by rw [getD_rep] at hon; cases hon) ⟨⟨rfl, rfl, rfl, Nat.le_refl _, fun _ _ => rfl⟩, Nat.le_succ _⟩
 have hz : ∀ (l : List Oper) (on : Nat → Bool) (k : Nat) (a : Act), (∀ j, on j = false) → fillL on (fun _ => undef) k l a = a := by
  intro l on
  induction l with
  | nil => intro k a _; rfl
  | cons o l ih => intro k a hon; simp only [fillL, hon, Bool.false_eq_true, if_false]; exact ih _ _ hon
 rwa [hz _ _ _ _ (fun j => getD_rep _ _)] at this
variable {C : World → Prop} {Q : Act → World → Prop} {a0 a : Act} {done rest : List (Oper × VT)} {later : List Oper} {o oj : Oper} {T : VT} {H : World → Prop}
theorem rel_det {x : Value} (h : obl P ops n (weak done.length) (IsV x) o done a0 C) (hr : wpRel P ops n weak frag C Q a0 (done ++ [(o, IsV x)]) later) : wpRel P ops n weak frag C Q a0 done (o :: later) := ⟨_, fun _ => IsV.stable x, fun _ => IsV.robust n x, h, hr⟩
theorem rel_any (T : VT) (hf : frag done.length = true) (hT : T.Stable) (h : obl P ops n (weak done.length) T o done a0 C) (hr : wpRel P ops n weak frag C Q a0 (done ++ [(o, T)]) later) : wpRel P ops n weak frag C Q a0 done (o :: later) := ⟨T, fun _ => hT, fun h => (by rw [hf] at h; cases h), h, hr⟩
theorem obl_skip {Tj : VT} (hap : oj.apart ops o = true) (h : obl P ops n wk T o rest a H) : obl P ops n wk T o ((oj, Tj) :: rest) a H := by
 unfold obl; rw [if_pos hap]; exact h
theorem obl_var {Tj : VT} (hap : oj.apart ops o = false) (h : ∀ v, obl P ops n wk T o rest (a.put oj.dst v) (fun w => H w ∧ Tj v w)) : obl P ops n wk T o ((oj, Tj) :: rest) a H := by
 unfold obl; rw [if_neg (by rw [hap]; decide)]; exact h
theorem obl_det {x : Value} (hap : oj.apart ops o = false) (h : obl P ops n wk T o rest (a.put oj.dst x) H) : obl P ops n wk T o ((oj, IsV x) :: rest) a H := by
  have aux : ∀ (rest : List (Oper × VT)) (a : Act) (H H' : World → Prop), (∀ w, H' w → H w) → obl P ops n wk T o rest a H → obl P ops n wk T o rest a H' := by
    intro rest
    induction rest with
    | nil => intro a H H' hh h w hw; exact h w (hh w hw)
    | cons y rest ih =>
      intro a H H' hh h
      rw [obl] at h ⊢
      split
      · rename_i hap; rw [if_pos hap] at h; exact ih _ _ _ hh h
      · rename_i hap; rw [if_neg hap] at h; exact fun v => ih _ _ _ (fun w hw => ⟨hh w hw.1, hw.2⟩) (h v)
  have aux2 : ∀ (rest : List (Oper × VT)) (a : Act) (H : World → Prop), (∀ w, ¬ H w) → obl P ops n wk T o rest a H := by
    intro rest
    induction rest with
    | nil => intro a H hh w hw; exact absurd hw (hh w)
    | cons y rest ih =>
      intro a H hh
      rw [obl]
      split
      · exact ih _ _ hh
      · exact fun v => ih _ _ (fun w hw => hh w hw.1)
  refine obl_var hap fun v => ?_
  by_cases hv : v = x
  · subst hv; exact aux _ _ _ _ (fun w hw => hw.1) h
  · exact aux2 _ _ _ (fun w hw => hv hw.2)
theorem fin_mono {dead : Nat → Bool} : ∀ (rest : List (Oper × VT)) (k : Nat) (a : Act) (H H' : World → Prop), (∀ w, H' w → H w) → fin Q dead k rest a H → fin Q dead k rest a H'
 | [], _, _, _, _, hh, h => fun w hw => h w (hh w hw)
 | _ :: rest, k, _, _, _, hh, h => fun v => fin_mono rest (k + 1) _ _ _ (fun w hw => ⟨hh w hw.1, hw.2⟩) (h v)
theorem fin_false {dead : Nat → Bool} : ∀ (rest : List (Oper × VT)) (k : Nat) (a : Act) (H : World → Prop), (∀ w, ¬ H w) → fin Q dead k rest a H
 | [], _, _, _, hh => fun w hw => absurd hw (hh w)
 | _ :: rest, k, _, _, hh => fun _ => fin_false rest (k + 1) _ _ (fun w hw => hh w hw.1)
theorem fin_det {dead : Nat → Bool} {k : Nat} {x : Value} (hd : dead k = false) (h : fin Q dead (k + 1) rest (a.put o.dst x) H) : fin Q dead k ((o, IsV x) :: rest) a H := by
 intro v
 by_cases hv : v = x
 ·subst hv; exact fin_mono _ _ _ _ _ (fun w hw => hw.1) h
 ·exact fin_false _ _ _ _ (fun w hw => hv (hw.2 hd))
theorem fin_dead {dead : Nat → Bool} {k : Nat} {T : VT} (h : ∀ v, fin Q dead (k + 1) rest (a.put o.dst v) H) : fin Q dead k ((o, T) :: rest) a H :=
 fun v => fin_mono _ _ _ _ _ (fun _ hw => hw.1) (h v)
theorem relAt_wanted {w : World} (hw : Region.wanted o (yielded ops a.tmps) = true) (h : relUpon P (reach n wk w) w T ((execOp a.eval o).run P w)) : relAt P ops n wk T o a w := by
 unfold relAt; rw [if_pos hw]; exact h
theorem relAt_cps {w : World} (hw : Region.wanted o (yielded ops a.tmps) = true) (h : ∀ T' : VT, (∀ u w', T u w' → T' u w') → relUpon P (reach n wk w) w T' ((execOp a.eval o).run P w)) : relAt P ops n wk T o a w :=
 relAt_wanted hw (h T fun _ _ h => h)
end
attribute [go_sem] relUpon
end Go.Proofs.YtbegdcjofnfkiaaGreatDoor.RelD
end
namespace Go.Proofs.YtbegdcjofnfkiaaGreatDoor
section
open Go.RowKit Go.Sort
set_option maxHeartbeats 400000 in
theorem within_any (n lo hi : Int) (w : World) : Calls Tryz.prog 92 #[.int .i64 n, .int .i64 lo, .int .i64 hi] w fun e w' => e = .returned (.bool (decide (lo ≤ n) && decide (n ≤ hi))) ∧ w = w' := by
 go_enter Tryz.func92, Tryz.ntmps92
 go_wp2_with fail
 all_goals
  go_ret
  refine ⟨ret_bool (by rw [Bool.eq_iff_iff]; simp; try omega), rfl⟩
set_option maxRecDepth 100000 in
set_option maxHeartbeats 1000000 in
theorem isNaN_any (x : Int) (w : World) : Calls Tryz.prog 117 #[.int .i64 x] w fun e w' => e = .returned (.bool false) ∧ w = w' := by
 have hx : (x != x) = false := by simp
 go_enter Tryz.func117, Tryz.ntmps117
 go_wp2
 go_ret
 exact ⟨rfl, rfl⟩
set_option maxRecDepth 100000 in
set_option maxHeartbeats 1000000 in
theorem cmp_any (x y : Int) (w : World) : Calls Tryz.prog 81 #[.int .i64 x, .int .i64 y] w fun e w' => e = .returned (.int .i64 (cmpI x y)) ∧ w = w' := by
 go_enter Tryz.func81, Tryz.ntmps81
 rcases cmpI_cases x y with ⟨h, e1⟩ | ⟨h, e1⟩ | ⟨h, e1⟩
 ·rw [e1]
  clear e1
  go_wp2_with fail
  refine (isNaN_any _ _).mono ?_
  rintro e w1 ⟨rfl, rfl⟩
  go_wp2_with fail
  refine (isNaN_any _ _).mono ?_
  rintro e w2 ⟨rfl, rfl⟩
  go_wp2_with fail
  all_goals (go_ret; exact ⟨rfl, rfl⟩)
 ·rw [e1]
  clear e1
  subst h
  go_wp2_with fail
  refine (isNaN_any _ _).mono ?_
  rintro e w1 ⟨rfl, rfl⟩
  go_wp2_with fail
  refine (isNaN_any _ _).mono ?_
  rintro e w2 ⟨rfl, rfl⟩
  go_wp2_with fail
  all_goals (go_ret; exact ⟨rfl, rfl⟩)
 ·have h' : ¬ x < y := by omega
  rw [e1]
  clear e1
  go_wp2_with fail
  refine (isNaN_any _ _).mono ?_
  rintro e w1 ⟨rfl, rfl⟩
  go_wp2_with fail
  refine (isNaN_any _ _).mono ?_
  rintro e w2 ⟨rfl, rfl⟩
  go_wp2_with fail
  all_goals (go_ret; exact ⟨rfl, rfl⟩)
theorem rows_stableD {α : Type} {k : Nat} {r : Rep α} (hr : r.Stable) (n : Nat) (l : List α) : RelD.VT.Stable fun v w => ∃ A c, v = .slice A n c ∧ Rows k r w w.heap.size A n c l :=
 fun _ _ _ hb ⟨A, c, hv, h⟩ => ⟨A, c, hv, h.keep hr hb.size hb.block⟩
def iEnc (z : Int) : List Value := [.int .i64 z]
theorem iEnc_len (x : Int) : (iEnc x).length = 1 := rfl
abbrev ISl := Rows 1 (Rep.flat iEnc)
theorem iStable : (Rep.flat iEnc).Stable := Rep.flat_stable _
theorem ISl.get {n₀ n c k : Nat} {A : Option Addr} {l : List Int} {W : World} (h : ISl W n₀ A n c l) (hk : k < n) :
  ∃ b off z, A = some ⟨b, off, none⟩ ∧ b < n₀ ∧ l[k]? = some z ∧ W.cell? ⟨b, off + k, none⟩ = some (.int .i64 z) := by
 obtain ⟨b, off, z, cs, e, hlt, hk', rfl, hc⟩ := Rows.get h hk
 exact ⟨b, off, z, e, hlt, hk', by simpa using hc 0 _ rfl⟩
set_option maxRecDepth 100000 in
set_option maxHeartbeats 1000000 in
theorem or_any (A : Option Addr) (n c : Nat) (l : List Int) (w : World) (hl : ISl w w.heap.size A n c l) : Calls Tryz.prog 86 #[.slice A n c] w fun e w' => e = .returned (.int .i64 (orI l)) ∧ w = w' := by
 have HN := hidp hl.1
 have hcap := hl.2.2.1
 have hlen := hl.2.1
 go_enter Tryz.func86, Tryz.ntmps86
 go_wp2_with fail
 go_loop [5, 8] (fun _ i => ∃ k : Nat, k ≤ n ∧ i = .int .i64 k ∧ orI l = orI (l.drop k)) (fun _ i => n - (intOf i).toNat)
 case atStart => exact ⟨0, by omega, rfl, rfl⟩
 case round =>
  obtain ⟨k, hk, rfl, hno⟩ := hrel
  have HA := hidp hno
  clear hno
  by_cases hlt : k < n
  ·obtain ⟨b, off, z, rfl, hb, hzk, c0⟩ := ISl.get hl hlt
   have HZ := hidp hzk
   have HD := hidp (drop_cons hzk)
   clear hzk
   by_cases h0 : z = 0
   ·subst h0
    go_wp2_with fail
    go_round
    case rel => exact ⟨k + 1, by omega, by go_num, by rw [HA.out, HD.out, orI_cons]; simp⟩
    case measure => simp [intOf]; omega
   ·have h0' : (z != 0) = true := by simp [h0]
    have HR : Hid (orI l = z) := by show _ = _; rw [HA.out, HD.out, orI_cons, if_neg h0]
    clear h0
    go_wp2_with fail
    go_ret
    exact ⟨ret_int HR.out.symm, rfl⟩
  ·obtain rfl : k = n := by omega
   go_wp2_with fail
   go_ret
   refine ⟨ret_int ?_, rfl⟩
   rw [HA.out, List.drop_of_length_le (by rw [← HN.out]; omega)]; rfl
end
section
open Go.RowKit Go.Sort
def idxJ (s : ByteArray) (c : Int) : Int := firstIdx s c.toNat.toUInt8
def signsJ : ByteArray := ⟨#[123, 125, 40, 41, 59, 44, 61, 35, 47, 60, 33, 45, 46]⟩
def spcB (c : Int) : Bool := decide (c = 32) || decide (c = 9) || decide (c = 10) || decide (c = 13)
def clsJ (c : Int) : Int := if letB c = true then 2 else if digB c = true then 3 else if c = 95 then 5 else if spcB c = true then 1 else if 0 ≤ idxJ signsJ c then 4 else 0
theorem idxByte_any (s : ByteArray) (c : Int) (w : World) : Calls Tryz.prog 124 #[.string s, .int .u8 c] w fun e w' => e = .returned (.int .i64 (idxJ s c)) ∧ Below w.heap.size w w' := by
 have hx : (callFunc 150 #[.string s, .int .u8 c]).run Tryz.prog w = .ok (.value (.int .i64 (firstIdx s c.toNat.toUInt8))) w := by
  rw [run_callFunc_extern Tryz.func150 (by kernel_rfl) (by kernel_rfl) (by kernel_rfl) (by kernel_rfl) _ w, run_indexByte_string]; rfl
 have hs : Calls Tryz.prog 143 #[.string s, .int .u8 c] w fun e w' => e = .returned (.int .i64 (firstIdx s c.toNat.toUInt8)) ∧ w = w' := by
  go_enter Tryz.func143, Tryz.ntmps143
  go_wp2_with fail
  go_ret
  exact ⟨rfl, rfl⟩
 go_enter Tryz.func124, Tryz.ntmps124
 go_wp2_with fail
 refine hs.mono ?_
 rintro e w' ⟨rfl, rfl⟩
 go_wp2_with fail
 go_ret
 exact ⟨rfl, Below.refl _ _⟩
set_option maxRecDepth 100000 in
set_option maxHeartbeats 2000000 in
theorem class_any (c : Int) (w : World) : Calls Tryz.prog 94 #[.int .u8 c] w fun e w' => e = .returned (.int .i64 (clsJ c)) ∧ Below w.heap.size w w' := by
 go_enter Tryz.func94, Tryz.ntmps94
 go_wp2_with fail
 all_goals try (refine (idxByte_any _ _ _).mono ?_; rintro e w' ⟨rfl, hb⟩; go_wp2_with fail)
 all_goals go_ret
 all_goals refine ⟨congrArg (fun z => Ending.returned (.int .i64 z)) ?_, by first | exact Below.refl _ _ | assumption⟩
 all_goals
  simp only [clsJ, letB, digB, spcB, signsJ, Bool.or_eq_true, Bool.and_eq_true, decide_eq_true_eq]
  try simp only [beq_iff_eq, beq_eq_false_iff_ne, ne_eq] at *
  repeat' split
 all_goals first | rfl | omega | (exfalso; simp_all; done)
theorem cls_let (c : Int) : clsJ c = 2 ↔ letB c = true := by
 unfold clsJ
 repeat' split
 all_goals simp_all
theorem cls_part (c : Int) : (clsJ c = 2 ∨ clsJ c = 3 ∨ clsJ c = 5) ↔ partB c = true := by
 unfold clsJ partB
 repeat' split
 all_goals simp_all
theorem byte_val (s : ByteArray) (i : Nat) (hi : i < s.size) : byteI s i = ((s[i]'hi).toNat : Int) := by
 have hi' : i < s.data.size := hi
 show _ = ((s.data[i]'hi').toNat : Int)
 unfold byteI
 rw [Array.getElem?_eq_getElem hi']; rfl
theorem size_zero {s : ByteArray} (h : s.size = 0) : s = ⟨#[]⟩ := by
 obtain ⟨d⟩ := s
 have : d.size = 0 := h
 rw [Array.size_eq_zero_iff] at this
 rw [this]
theorem name_long {s : ByteArray} (h : 32 < s.size) : nameB s = false := by
 unfold nameB
 rw [decide_eq_false (p := s.size ≤ 32) (by omega)]; simp
theorem name_first {s : ByteArray} (h : clsJ (byteI s 0) ≠ 2) : nameB s = false := by
 unfold nameB
 have : letB (byteI s 0) = false := by rw [Bool.eq_false_iff]; intro h'; exact h ((cls_let _).2 h')
 rw [this]; simp
theorem name_part {s : ByteArray} {i : Nat} (hi : i < s.size) (h : ¬ (clsJ (byteI s i) = 2 ∨ clsJ (byteI s i) = 3 ∨ clsJ (byteI s i) = 5)) : nameB s = false := by
 unfold nameB
 have : ((List.range s.size).all fun i => partB (byteI s i)) = false := by
  rw [Bool.eq_false_iff]
  intro h'
  exact h ((cls_part _).2 (List.all_eq_true.1 h' i (List.mem_range.2 hi)))
 rw [this]; simp
theorem name_all {s : ByteArray} (h0 : 0 < s.size) (h1 : s.size ≤ 32) (h2 : clsJ (byteI s 0) = 2) (h : ∀ i, i < s.size → clsJ (byteI s i) = 2 ∨ clsJ (byteI s i) = 3 ∨ clsJ (byteI s i) = 5) : nameB s = true := by
 unfold nameB
 rw [decide_eq_true (p := 1 ≤ s.size) (by omega), decide_eq_true (p := s.size ≤ 32) h1, (cls_let _).1 h2]
 simp only [Bool.true_and, List.all_eq_true, List.mem_range]
 exact fun i hi => (cls_part _).1 (h i hi)
set_option maxRecDepth 100000 in
set_option maxHeartbeats 2000000 in
theorem name_any (s : ByteArray) (w : World) : Calls Tryz.prog 57 #[.string s] w fun e w' => e = .returned (.bool (nameB s)) ∧ Below w.heap.size w w' := by
 by_cases h0 : s = ⟨#[]⟩
 ·subst h0
  go_enter Tryz.func57, Tryz.ntmps57
  go_wp2_with fail
  go_ret
  exact ⟨rfl, Below.refl _ _⟩
 have hp : 0 < s.size := by
  rcases Nat.eq_zero_or_pos s.size with h | h
  ·exact absurd (size_zero h) h0
  ·exact h
 have e0 : s.toList.isEmpty = false := by
  rw [Bool.eq_false_iff]
  intro h
  have h2 : s.toList = [] := by simpa using h
  have h3 := congrArg List.length h2
  rw [ByteArray.toList_eq] at h3
  have h4 : s.data.size = 0 := by simpa using h3
  have h5 : s.size = s.data.size := rfl
  omega
 have HG : Hid (∀ i (h : i < s.size), ((s[i]'h).toNat : Int) = byteI s i) := fun i h => (byte_val s i h).symm
 by_cases h1 : 32 < s.size
 ·have HR := hidp (name_long h1)
  clear hp
  go_enter Tryz.func57, Tryz.ntmps57
  go_wp2_with fail
  go_ret
  exact ⟨by rw [HR.out]; rfl, Below.refl _ _⟩
 have h1' : ¬ (32 : Int) < s.size := by omega
 obtain ⟨c0, hc0⟩ : ∃ c, clsJ (byteI s 0) = c := ⟨_, rfl⟩
 have HC := hidp hc0
 go_enter Tryz.func57, Tryz.ntmps57
 go_wp2_with fail
 refine (class_any _ _).mono ?_
 rintro e w1 ⟨rfl, hb1⟩
 rw [HG.out 0 hp, hc0]
 by_cases h2 : c0 = 2
 rotate_left
 ·have HR := hidp (name_first (s := s) (by rw [hc0]; exact h2))
  have e2 : (c0 == 2) = false := by simpa using h2
  clear hc0 h2
  go_wp2_with fail
  go_ret
  exact ⟨by rw [HR.out]; rfl, hb1⟩
 subst h2
 clear hc0
 go_wp2_with fail
 have HB := hidp hb1
 go_loopw [20] (fun i wr => ∃ q : Nat, q ≤ s.size ∧ i = .int .i64 q ∧ (∀ j, j < q → clsJ (byteI s j) = 2 ∨ clsJ (byteI s j) = 3 ∨ clsJ (byteI s j) = 5) ∧ Below w.heap.size w wr) (fun i _ => s.size - (intOf i).toNat)
 case atStart => exact ⟨0, by omega, rfl, fun j h => by omega, hb1⟩
 case round =>
  obtain ⟨q, hq, rfl, hup, hbq⟩ := hrel
  have HU := hidp hup
  have HBQ := hidp hbq
  clear hup hbq
  by_cases hqs : q < s.size
  ·have hqs' : (q : Int) < s.size := by omega
   go_wp2_with fail
   refine (class_any _ _).mono ?_
   rintro e w2 ⟨rfl, hb2⟩
   rw [HG.out q hqs]
   obtain ⟨k, hk⟩ : ∃ k, clsJ (byteI s q) = k := ⟨_, rfl⟩
   rw [hk]
   have HK := hidp hk
   have hb3 := HBQ.out.trans (hb2.mono HBQ.out.size)
   clear hk
   by_cases hk2 : k = 2 ∨ k = 3 ∨ k = 5
   ·have hbad : (k != 2 && k != 3 && k != 5) = false := by rcases hk2 with rfl | rfl | rfl <;> rfl
    rcases hk2 with rfl | rfl | rfl
    all_goals
     go_wp2_with fail
     go_roundw
     case rel => exact ⟨q + 1, by omega, by go_num, fun j hj => by
      rcases Nat.lt_or_ge j q with h | h
      ·exact HU.out j h
      ·obtain rfl : j = q := by omega
       rw [HK.out]; simp, hb3⟩
     case measure => simp [intOf]; omega
   ·have HR := hidp (name_part (s := s) hqs (by rw [HK.out]; exact hk2))
    have n1 : (k == 2) = false := by simp; omega
    have n2 : (k == 3) = false := by simp; omega
    have n3 : (k == 5) = false := by simp; omega
    have m1 : (k != 2) = true := by simp; omega
    have m2 : (k != 3) = true := by simp; omega
    have m3 : (k != 5) = true := by simp; omega
    clear hk2
    go_wp2_with fail
    go_ret
    exact ⟨by rw [HR.out]; rfl, hb3⟩
  ·obtain rfl : q = s.size := by omega
   have HR := hidp (name_all hp (by omega) HC.out HU.out)
   have hnn : ¬ ((s.size : Int) < s.size) := by omega
   clear hqs
   go_wp2_with fail
   go_ret
   exact ⟨by rw [HR.out]; rfl, HBQ.out⟩
end
section
open Go.RowKit
theorem iEnc_one (x : Int) : ∀ u ∈ iEnc x, u.oneCell' = true := by
 intro u hu; simp [iEnc] at hu; subst hu; rfl
abbrev iSl := Rows 1 (Rep.flat iEnc)
theorem iSl.get {n₀ n c k : Nat} {A : Option Addr} {l : List Int} {W : World} (h : iSl W n₀ A n c l) (hk : k < n) :
  ∃ b off m, A = some ⟨b, off, none⟩ ∧ b < n₀ ∧ l[k]? = some m ∧ W.cell? ⟨b, off + k, none⟩ = some (.int .i64 m) := by
 obtain ⟨b, off, m, cs, e, hlt, hk', rfl, hc⟩ := Rows.get h hk
 exact ⟨b, off, m, e, hlt, hk', by have := hc 0 _ rfl; simpa using this⟩
theorem iInfo : (Tryz.prog.info? 3).map (fun i => (i.zero, i.size, i.bytes)) = some (some (.int .i64 0), 1, 8) := by kernel_rfl
abbrev iV (k : Int) : Value := .int .i64 k
theorem i_ops : KeyOps Tryz.prog 3 69 iV := KeyOps.of_int Tryz.underlying69 Tryz.underlying3
end
section
open Go.RowKit
def SeqG {α : Type} (P : Program) (g : Nat) (lb : Array Value) (encs : α → Array Value) (R : List α → Prop) (S : Nat → Prop) (w : World) : Prop :=
 ∀ (l : Nat) (J : List α → (Nat → Prop) → World → Prop) (Jx : (Nat → Prop) → World → Prop) (C : Nat → Prop) (W : World),
  (∀ b, S b → b < W.heap.size ∧ W.heap[b]? = w.heap[b]? ∧ ¬ C b) → (∀ b, C b → b < W.heap.size) →
  (∀ pre C1 W1 W2, J pre C1 W1 → Kept (fun b => W.heap.size ≤ b ∧ ¬ C1 b) W1 W2 → J pre C1 W2) →
  (∀ C1 W1 W2, Jx C1 W1 → Kept (fun b => W.heap.size ≤ b ∧ ¬ C1 b) W1 W2 → Jx C1 W2) →
  (∀ m pre x suf C1 W1, R (pre ++ x :: suf) → J pre C1 W1 → YieldAt Fence.wide m P l (encs x) W1 fun e W2 =>
   ∃ C2, Kept C1 W1 W2 ∧ (∀ b, C2 b → b < W2.heap.size ∧ (C1 b ∨ W1.heap.size ≤ b)) ∧
    ((e = .returned (.bool true) ∧ J (pre ++ [x]) C2 W2) ∨ (e = .returned (.bool false) ∧ Jx C2 W2))) →
  J [] C W →
  Calls P g (#[.func (.yield l) #[] #[]] ++ lb) W fun e W' => (∃ v, e = .returned v) ∧ ∃ C', (∃ xs, R xs ∧ J xs C' W') ∨ Jx C' W'
theorem SeqG.later {α : Type} {P : Program} {g : Nat} {lb : Array Value} {encs : α → Array Value} {R : List α → Prop} {S : Nat → Prop} {w w' : World}
  (h : SeqG P g lb encs R S w) (hS : ∀ b, S b → w'.heap[b]? = w.heap[b]?) : SeqG P g lb encs R S w' :=
 fun l J Jx C W h1 => h l J Jx C W (fun b hb => ⟨(h1 b hb).1, (h1 b hb).2.1.trans (hS b hb), (h1 b hb).2.2⟩)
theorem SeqC.toG {α : Type} {P : Program} {g : Nat} {lb : Array Value} {encs : α → Array Value} {xs : List α} {S : Nat → Prop} {w : World} (h : SeqC P g lb encs xs S w) : SeqG P g lb encs (fun ys => ys = xs) S w := by
 intro l J Jx C W h1 h2 h3 h4 h5 h6
 refine (h l J Jx C W h1 h2 h3 h4 (fun m pre x suf C1 W1 hx hj => h5 m pre x suf C1 W1 hx.symm hj) h6).mono ?_
 rintro e w' ⟨hv, C', hc⟩
 exact ⟨hv, C', hc.imp (fun h => ⟨xs, rfl, h⟩) id⟩
section law
variable {P : Program} {α : Type}
def RoundsG (P : Program) (n₀ : Nat) (a : Act) (ps : Array Tmp) (assign body : Code) (encs : α → Array Value) (R : List α → Prop) (I : List α → (Nat → Prop) → World → Prop) (Ix : Code → (Nat → Prop) → World → Prop)
  (Ax : Nat → List α → α → (Nat → Prop) → Act → World → Prop) : Prop :=
 (∀ l pre x C1 a' W2 W3, n₀ ≤ l → ¬ C1 l → Ax l pre x C1 a' W2 → (∃ r, W2.heap[l]? = some (.loop r)) → Kept (fun b => b = l) W2 W3 → Ax l pre x C1 a' W3) ∧
 (∀ l m pre x suf C1 W1 (K : Act → World → Prop), n₀ ≤ l → l < W1.heap.size → ¬ C1 l → R (pre ++ x :: suf) → I pre C1 W1 → (∀ b, C1 b → b < W1.heap.size) → (∀ a' W2, Kept C1 W1 W2 → Ax l pre x C1 a' W2 → K a' W2) →
   assign.wpIn (Fence.wide.inRound l) m P (Exit.then K (fun _ _ _ => False)) { tmps := (ps.zip (encs x)).foldl (fun t (p, v) => t.setIfInBounds p v) a.tmps, defers := [] } W1) ∧
 (∀ l m pre x suf C1 a' W2, n₀ ≤ l → ¬ C1 l → R (pre ++ x :: suf) → Ax l pre x C1 a' W2 → (∃ r, W2.heap[l]? = some (.loop r)) → (∀ b, C1 b → b < W2.heap.size) → body.wpIn (Fence.wide.inRound l) m P (roundC I Ix (pre ++ [x]) C1 W2) a' W2)
theorem wp_rangeG {g : Operand} {ps : Array Tmp} {assign body : Code} {Q : Exit → Act → World → Prop} {a : Act} {w : World} {gf : Nat} {lb : Array Value}
  (hg : a.eval g = .func (.func gf) #[] lb) (eg : ∀ args w, (callFunc gf args).run P w = .ok (.enter gf args) w)
  {encs : α → Array Value} {R : List α → Prop} {S : Nat → Prop} {w0 : World} (hseq : SeqG P gf lb encs R S w0) (C : Nat → Prop)
  (hS : ∀ b, S b → b < w.heap.size ∧ w.heap[b]? = w0.heap[b]? ∧ ¬ C b) (hps : ∀ x, (encs x).size = ps.size) (hC : ∀ b, C b → b < w.heap.size)
  (I : List α → (Nat → Prop) → World → Prop) (Ix : Code → (Nat → Prop) → World → Prop)
  (hI : ∀ pre C1 W1 W2, I pre C1 W1 → Kept (fun b => w.heap.size ≤ b ∧ ¬ C1 b) W1 W2 → I pre C1 W2)
  (hIx : ∀ c C1 W1 W2, Ix c C1 W1 → Kept (fun b => w.heap.size ≤ b ∧ ¬ C1 b) W1 W2 → Ix c C1 W2)
  (h0 : I [] C w) (Ax : Nat → List α → α → (Nat → Prop) → Act → World → Prop)
  (hround : RoundsG P w.heap.size a ps assign body encs R I Ix Ax)
  (hdone : ∀ xs D C' W, R xs → w.heap.size ≤ D → D < W.heap.size → ¬ C' D → I xs C' W → W.heap[D]? = some (.deferred (some [])) → Q .normal { a with defers := { target := .collected D, args := #[] } :: a.defers } W)
  (hstop : ∀ D c C' W, w.heap.size ≤ D → D < W.heap.size → ¬ C' D → Ix c C' W → W.heap[D]? = some (.deferred (some [])) → c.wp P Q { a with defers := { target := .collected D, args := #[] } :: a.defers } W) :
  (Code.rangeFunc g ps assign body).wp P Q a w := by
 refine (wpIn_wide (n := 0)).1 (wpIn_rangeFunc ?_)
 intro fn hfn
 obtain ⟨rec, hrec⟩ : ∃ rec : LoopState → Option Code → Loop, rec = fun st pe => { state := st, pending := pe, fn, tmps := a.tmps, params := ps, assign, body, defers := w.heap.size } := ⟨_, rfl⟩
 have hrec' : ∀ st pe, rec st pe = { state := st, pending := pe, fn, tmps := a.tmps, params := ps, assign, body, defers := (rec .ready none).defers } := by rw [hrec]; exact fun _ _ => rfl
 obtain ⟨W1, hW1⟩ : ∃ W1, (w.alloc (.deferred (some []))).alloc (.loop (rec .ready none)) = W1 := ⟨_, rfl⟩
 have hL1 : W1.heap[w.heap.size + 1]? = some (.loop (rec .ready none)) := by
  rw [← hW1]; have := World.alloc_heap_new (w.alloc (.deferred (some []))) (.loop (rec .ready none)); rwa [World.size_alloc] at this
 have hK1 : W1.heap[w.heap.size]? = some (.deferred (some [])) := by
  rw [← hW1]; exact (Below.heap_alloc _ _ _ (by simp)).trans (World.alloc_heap_new w _)
 have hz1 : W1.heap.size = w.heap.size + 2 := by rw [← hW1]; simp
 have hk1 : ∀ M, Kept M w W1 := fun M => by rw [← hW1]; exact ((Kept.refl _ _).alloc _).alloc _
 refine ⟨w.heap.size + 1, [{ target := .collected w.heap.size, args := #[] }], W1, { target := .fn (.func gf) lb, args := #[.func (.yield (w.heap.size + 1)) #[] #[]] }, W1, gf,
  #[.func (.yield (w.heap.size + 1)) #[] #[]] ++ lb, W1, ?_, ?_, fun _ _ => trivial, ?_, fun h => by simp [Fence.wide] at h, ?_⟩
 ·rw [← hW1, hrec]; exact run_enterLoop_outer _ _ _ _ _
 ·simp only [resolve, hg]
  simp [go_sem]
 ·simp [invoke, go_sem, eg]
 ·refine callsIn_wide.2 ((hseq (w.heap.size + 1)
   (fun pre C1 W => ∃ Cu, C1 = (fun b => Cu b ∨ b = w.heap.size ∨ b = w.heap.size + 1) ∧ ¬ Cu w.heap.size ∧ ¬ Cu (w.heap.size + 1) ∧ (∀ b, Cu b → b < W.heap.size) ∧ w.heap.size + 1 < W.heap.size ∧
    I pre Cu W ∧ W.heap[w.heap.size + 1]? = some (.loop (rec .ready none)) ∧ W.heap[w.heap.size]? = some (.deferred (some [])))
   (fun C1 W => ∃ Cu c, C1 = (fun b => Cu b ∨ b = w.heap.size ∨ b = w.heap.size + 1) ∧ ¬ Cu w.heap.size ∧ ¬ Cu (w.heap.size + 1) ∧ w.heap.size + 1 < W.heap.size ∧
    Ix c Cu W ∧ W.heap[w.heap.size + 1]? = some (.loop (rec .done (some c))) ∧ W.heap[w.heap.size]? = some (.deferred (some [])))
   (fun b => C b ∨ b = w.heap.size ∨ b = w.heap.size + 1) W1 ?_ ?_ ?_ ?_ ?_ ?_).mono ?_)
  ·intro b hb
   obtain ⟨h1, h2, h3⟩ := hS b hb
   refine ⟨by omega, ((hk1 (fun _ => False)).block b h1 (fun h => h)).trans h2, fun h => ?_⟩
   rcases h with h | h | h
   ·exact h3 h
   ·omega
   ·omega
  ·intro b hb
   rcases hb with h | h | h
   ·have := hC b h; omega
   ·omega
   ·omega
  ·rintro pre C1 Wa Wb ⟨Cu, rfl, h1, h2, h3, h4, h5, h6, h7⟩ hk
   have hk' : Kept (fun b => w.heap.size ≤ b ∧ ¬ Cu b) Wa Wb := hk.mono fun b _ hb => ⟨by omega, fun h => hb.2 (.inl h)⟩
   refine ⟨Cu, rfl, h1, h2, fun b hb => Nat.lt_of_lt_of_le (h3 b hb) hk.size, Nat.lt_of_lt_of_le h4 hk.size, hI _ _ _ _ h5 hk', (hk.block _ h4 ?_).trans h6, (hk.block _ (by omega) ?_).trans h7⟩
   ·intro h; exact h.2 (.inr (.inr rfl))
   ·intro h; exact h.2 (.inr (.inl rfl))
  ·rintro C1 Wa Wb ⟨Cu, c, rfl, h1, h2, h4, h5, h6, h7⟩ hk
   have hk' : Kept (fun b => w.heap.size ≤ b ∧ ¬ Cu b) Wa Wb := hk.mono fun b _ hb => ⟨by omega, fun h => hb.2 (.inl h)⟩
   refine ⟨Cu, c, rfl, h1, h2, Nat.lt_of_lt_of_le h4 hk.size, hIx _ _ _ _ h5 hk', (hk.block _ h4 ?_).trans h6, (hk.block _ (by omega) ?_).trans h7⟩
   ·intro h; exact h.2 (.inr (.inr rfl))
   ·intro h; exact h.2 (.inr (.inl rfl))
  ·rintro m pre x suf C1 Wa hxs ⟨Cu, rfl, h1, h2, h3, h4, h5, h6, h7⟩
   obtain ⟨r1, r2, r3⟩ := hround
   refine (round_yield hrec' hps I Ix hI hIx (by omega) m pre x Cu Wa h2 h6 (Ax (w.heap.size + 1) pre x Cu)
    (fun a' W2 W3 hx hl hk => r1 _ _ _ _ _ _ _ (by omega) h2 hx ⟨_, hl⟩ hk)
    (fun K hK => r2 _ m pre x suf Cu Wa K (by omega) h4 h2 hxs h5 h3 hK)
    (fun a' W2 hx hr hy => r3 _ m pre x suf Cu a' W2 (by omega) h2 hxs hx hr (fun b hb => by
     obtain ⟨Wy, k1, k2⟩ := hy
     exact Nat.lt_of_lt_of_le (h3 b hb) (Nat.le_trans k1.size k2.size)))).mono ?_
   rintro e W2 ⟨C2, st, pe, hk, hC2, hl, hcase⟩
   have hD : W2.heap[w.heap.size]? = some (.deferred (some [])) := (hk.block _ (by omega) (fun h => by
    rcases h with h | h
    ·exact h1 h
    ·omega)).trans h7
   have n1 : ¬ C2 w.heap.size := fun h => by
    rcases (hC2 _ h).2 with h | h
    ·exact h1 h
    ·omega
   have n2 : ¬ C2 (w.heap.size + 1) := fun h => by
    rcases (hC2 _ h).2 with h | h
    ·exact h2 h
    ·omega
   refine ⟨fun b => C2 b ∨ b = w.heap.size ∨ b = w.heap.size + 1, hk.mono (fun b _ h => by
    rcases h with h | h
    ·exact .inl h
    ·exact .inr (.inr h)), fun b hb => ?_, ?_⟩
   ·rcases hb with h | h | h
    ·refine ⟨(hC2 b h).1, ?_⟩
     rcases (hC2 b h).2 with h | h
     ·exact .inl (.inl h)
     ·exact .inr h
    ·exact ⟨by have := hk.size; omega, .inl (.inr (.inl h))⟩
    ·exact ⟨by have := hk.size; omega, .inl (.inr (.inr h))⟩
   ·rcases hcase with ⟨rfl, rfl, rfl, hi⟩ | ⟨rfl, rfl, c, rfl, hi⟩
    ·exact .inl ⟨rfl, C2, rfl, n1, n2, fun b hb => (hC2 b hb).1, by have := hk.size; omega, hi, hl, hD⟩
    ·exact .inr ⟨rfl, C2, c, rfl, n1, n2, by have := hk.size; omega, hi, hl, hD⟩
  ·refine ⟨C, rfl, fun h => ?_, fun h => ?_, fun b hb => by have := hC b hb; omega, by omega, hI _ _ _ _ h0 (hk1 _), hL1, hK1⟩
   ·have := hC _ h; omega
   ·have := hC _ h; omega
  ·rintro e W2 ⟨⟨v, rfl⟩, C', (⟨xs, hRx, Cu, rfl, h1, h2, h3, h4, h5, h6, h7⟩ | ⟨Cu, c, rfl, h1, h2, h4, h5, h6, h7⟩)⟩
   ·have hk : Kept (fun b => w.heap.size ≤ b ∧ ¬ Cu b) W2 (W2.putObj (w.heap.size + 1) (.loop { rec .ready none with state := .exhausted })) := (Kept.refl _ _).putObj (.inl ⟨by omega, h2⟩) _
    exact ⟨none, _, by have := run_endLoop (P := P) h6 (by rw [hrec]; simp); rw [hrec] at this ⊢; exact this, hdone xs _ Cu _ hRx (Nat.le_refl _) (by simp; omega) h1 (hI _ _ _ _ h5 hk) ((World.putObj_heap_other (by omega)).trans h7)⟩
   ·have hk : Kept (fun b => w.heap.size ≤ b ∧ ¬ Cu b) W2 (W2.putObj (w.heap.size + 1) (.loop { rec .done (some c) with state := .exhausted })) := (Kept.refl _ _).putObj (.inl ⟨by omega, h2⟩) _
    exact ⟨some c, _, by have := run_endLoop (P := P) h6 (by rw [hrec]; simp); rw [hrec] at this ⊢; exact this, wpIn_wide.2 (hstop _ c Cu _ (Nat.le_refl _) (by simp; omega) h1 (hIx _ _ _ _ h5 hk) ((World.putObj_heap_other (by omega)).trans h7))⟩
end law
end
end Go.Proofs.YtbegdcjofnfkiaaGreatDoor
