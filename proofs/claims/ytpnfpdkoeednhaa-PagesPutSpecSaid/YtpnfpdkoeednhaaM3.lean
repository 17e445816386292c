/- Several texts in one: Rel RelT RelI RelD. -/
import Derived.Test.YtpnfpdkoeednhaaM1
import Derived.Sort.Grow
section
/- A region that draws its order, each operation told by what its value is in memory: of one operation what holds of the values that it reads is asked, of the region the values in their lexical order. Over any program. -/
namespace Go.Proofs.Ytpnfpdkoeednhaa
open Go.RowKit

/-- What is told of a value, in a world. -/
abbrev VT := Value → World → Prop
/-- It stays true where all memory that is there stays as it is. -/
def VT.Stable (T : VT) : Prop := ∀ v w w', Below w.heap.size w w' → T v w → T v w'
/-- It stays true whatever happens to the blocks from n on. -/
def VT.Robust (n : Nat) (T : VT) : Prop := ∀ v w w', n ≤ w.heap.size → Below n w w' → T v w → T v w'
def IsV (x : Value) : VT := fun v _ => v = x
theorem IsV.stable (x : Value) : (IsV x).Stable := fun _ _ _ _ h => h
theorem IsV.robust (n : Nat) (x : Value) : (IsV x).Robust n := fun _ _ _ _ _ h => h

section
variable {P : Program} {ops : Array Oper} {n : Nat} {wk : Bool} {weak frag : Nat → Bool}

/-- How far an operation may turn the world: a weak one may turn what lies from n on. -/
def reach (n : Nat) (weak : Bool) (w : World) : Nat := if weak = true then n else w.heap.size
def relUpon (P : Program) (m : Nat) (w : World) (T : VT) : Result Next → Prop
  | .ok (.value u) w' => Below m w w' ∧ T u w'
  | .ok .skip w' => Below m w w' ∧ T undef w'
  | .ok (.enter f args) w' => Calls P f args w' fun e w'' => ∃ v, e = .returned v ∧ Below m w w'' ∧ T v w''
  | _ => False
def relAt (P : Program) (ops : Array Oper) (n : Nat) (weak : Bool) (T : VT) (o : Oper) (a : Act) (w : World) : Prop :=
  if Region.wanted o (yielded ops a.tmps) = true then relUpon P (reach n weak w) w T ((execOp a.eval o).run P w) else T undef w

/-- Two frames that an operation cannot tell apart. -/
def Agree (ops : Array Oper) (o : Oper) (a a' : Act) : Prop := ∀ t ∈ o.looksAt ops, a.tmps[t]? = a'.tmps[t]?
theorem Agree.exec {o : Oper} {a a' : Act} (hs : ∀ cs b, o.op ≠ .select cs b) (h : Agree ops o a a') : execOp a.eval o = execOp a'.eval o := by
  refine execOp_congr o hs fun x hx => ?_
  cases x with
  | tmp t =>
    have := h t (List.mem_append_left _ (List.mem_filterMap.2 ⟨.tmp t, by simpa using hx, rfl⟩))
    simp [Act.eval, this]
  | _ => rfl
theorem Agree.wanted {o : Oper} {a a' : Act} (h : Agree ops o a a') : Region.wanted o (yielded ops a.tmps) = Region.wanted o (yielded ops a'.tmps) := by
  unfold Region.wanted
  cases hg : o.guard with
  | none => rfl
  | some gw =>
    obtain ⟨g, want⟩ := gw
    have hy : yielded ops a.tmps g = yielded ops a'.tmps g := by
      unfold yielded
      cases ht : (ops[g]?).bind (·.dst) with
      | none => rfl
      | some t =>
        have := h t (by simp [Oper.looksAt, hg, ht])
        simp [this]
    simp only [hy]
theorem Agree.rel {T : VT} {o : Oper} {a a' : Act} {w : World} (hs : ∀ cs b, o.op ≠ .select cs b) (h : Agree ops o a a') (hr : relAt P ops n wk T o a w) : relAt P ops n wk T o a' w := by
  unfold relAt at *
  rwa [← h.exec hs, ← h.wanted]
theorem Agree.refl (o : Oper) (a : Act) : Agree ops o a a := fun _ _ => rfl
theorem put_get (a : Act) (d : Tmp) (v : Value) (t : Tmp) : (a.put (some d) v).tmps[t]? = if d = t then (a.tmps[t]?).map (fun _ => v) else a.tmps[t]? := by
  by_cases h : d = t
  · subst h
    simp [Act.put, Array.getElem?_setIfInBounds]
    split
    · rename_i hlt; simp [hlt]
    · rename_i hlt; simp [Array.getElem?_eq_none (Nat.not_lt.1 hlt)]
  · rw [if_neg h]
    simp [Act.put, Array.getElem?_setIfInBounds_ne h]
theorem Agree.put {o : Oper} {a a' : Act} (h : Agree ops o a a') (d : Option Tmp) (v : Value) : Agree ops o (a.put d v) (a'.put d v) := by
  cases d with
  | none => exact h
  | some d =>
    intro t ht
    rw [put_get, put_get, h t ht]
theorem Agree.put_left {o : Oper} {a a' : Act} (h : Agree ops o a a') {d : Option Tmp} (v : Value) (hd : ∀ x, d = some x → x ∉ o.looksAt ops) : Agree ops o (a.put d v) a' := by
  cases d with
  | none => exact h
  | some d =>
    intro t ht
    rw [put_get, if_neg (by rintro rfl; exact hd _ rfl ht)]
    exact h t ht

/-- The frame in which the operations told by 'on' have left their values. -/
def fillL (on : Nat → Bool) (vs : Nat → Value) : Nat → List Oper → Act → Act
  | _, [], a => a
  | k, o :: l, a => fillL on vs (k + 1) l (if on k = true then a.put o.dst (vs k) else a)

theorem fillL_ext {on on' : Nat → Bool} {vs vs' : Nat → Value} : ∀ (l : List Oper) (k : Nat) (a : Act), (∀ j, k ≤ j → j < k + l.length → on j = on' j ∧ (on j = true → vs j = vs' j)) → fillL on vs k l a = fillL on' vs' k l a
  | [], _, _, _ => rfl
  | o :: l, k, a, h => by
    obtain ⟨h1, h2⟩ := h k (Nat.le_refl _) (by simp)
    have ih := fun a => fillL_ext l (k + 1) a (fun j hj hj' => h j (by omega) (by simp; omega))
    unfold fillL
    rw [← h1]
    by_cases hk : on k = true
    · rw [if_pos hk, if_pos hk, h2 hk, ih]
    · rw [if_neg hk, if_neg hk, ih]

theorem fillL_agree {o : Oper} {on on' : Nat → Bool} {vs : Nat → Value} : ∀ (l : List Oper) (k : Nat) (a a' : Act), Agree ops o a a' →
    (∀ j oj, l[j]? = some oj → on (k + j) ≠ on' (k + j) → ∀ x, oj.dst = some x → x ∉ o.looksAt ops) → Agree ops o (fillL on vs k l a) (fillL on' vs k l a')
  | [], _, _, _, h, _ => h
  | oj :: l, k, a, a', h, hd => by
    unfold fillL
    refine fillL_agree l (k + 1) _ _ ?_ (fun j o' hj hne => hd (j + 1) o' (by simpa using hj) (by rwa [show k + (j + 1) = k + 1 + j by omega]))
    have h0 := hd 0 oj (by simp)
    simp only [Nat.add_zero] at h0
    cases hk : on k <;> cases hk' : on' k
    · simpa using h
    · simp only [Bool.false_eq_true, if_false, if_true]
      exact fun t ht => ((Agree.put_left (fun t ht => (h t ht).symm) (vs k) (h0 (by simp [hk, hk']))) t ht).symm
    · simp only [Bool.false_eq_true, if_false, if_true]
      exact h.put_left (vs k) (h0 (by simp [hk, hk']))
    · simpa using h.put _ _

theorem fillL_put {on : Nat → Bool} {vs : Nat → Value} {d : Option Tmp} {v : Value} : ∀ (l : List Oper) (k : Nat) (a : Act), (∀ j oj, l[j]? = some oj → on (k + j) = true → ∀ x, d = some x → oj.dst ≠ some x) →
    (fillL on vs k l a).put d v = fillL on vs k l (a.put d v)
  | [], _, _, _ => rfl
  | oj :: l, k, a, h => by
    unfold fillL
    rw [fillL_put l (k + 1) _ (fun j o' hj hon => h (j + 1) o' (by simpa using hj) (by rwa [show k + (j + 1) = k + 1 + j by omega]))]
    by_cases hk : on k = true
    · rw [if_pos hk, if_pos hk, Act.put_comm]
      intro x hx hx'
      exact h 0 oj (by simp) (by simpa using hk) x hx' hx
    · rw [if_neg hk, if_neg hk]

theorem fillL_set {on : Nat → Bool} {vs : Nat → Value} {v : Value} {i : Nat} {oi : Oper} : ∀ (l : List Oper) (k : Nat) (a : Act), k ≤ i → l[i - k]? = some oi → on i = false →
    (∀ j oj, l[j]? = some oj → i < k + j → on (k + j) = true → ∀ x, oi.dst = some x → oj.dst ≠ some x) →
    (fillL on vs k l a).put oi.dst v = fillL (fun j => j == i || on j) (fun j => if j = i then v else vs j) k l a
  | [], _, _, _, h, _, _ => by simp at h
  | o :: l, k, a, hki, hi, hoff, h => by
    unfold fillL
    by_cases he : k = i
    · subst he
      simp at hi
      subst hi
      rw [hoff]
      simp only [Bool.false_eq_true, if_false, beq_self_eq_true, Bool.true_or, if_true]
      rw [fillL_put l (k + 1) a (fun j oj hj hon => h (j + 1) oj (by simpa using hj) (by omega) (by rwa [show k + (j + 1) = k + 1 + j by omega]))]
      refine fillL_ext l (k + 1) _ fun j hj hj' => ?_
      have hne : j ≠ k := by omega
      simp [hne]
    · have hne : (k == i) = false := by simpa using he
      rw [fillL_set l (k + 1) _ (by omega) (by rw [show i - k = (i - (k + 1)) + 1 by omega] at hi; simpa using hi) hoff
        (fun j oj hj hlt hon => h (j + 1) oj (by simpa using hj) (by omega) (by rwa [show k + (j + 1) = k + 1 + j by omega]))]
      simp only [hne, Bool.false_or, if_neg he]

/-- Every operation waits for no later one; of two, the later waits for the earlier or is apart from it. -/
def relB (ops : Array Oper) : Bool :=
  Region.noSelect ops && (List.range ops.size).all fun j => match ops[j]? with
    | none => true
    | some oj => (oj.after.all fun e => !Region.binds .any e || decide (e.on < j)) && (List.range j).all fun i => match ops[i]? with
      | none => true
      | some oi => oj.after.any (fun e => Region.binds .any e && e.on == i) || oi.apart ops oj
theorem relB_spec (h : relB ops = true) : Region.noSelect ops = true ∧ ∀ j oj, ops[j]? = some oj → (∀ e ∈ oj.after, Region.binds .any e = true → e.on < j) ∧ ∀ i oi, i < j → ops[i]? = some oi → (∃ e ∈ oj.after, Region.binds .any e = true ∧ e.on = i) ∨ oi.apart ops oj = true := by
  simp only [relB, Bool.and_eq_true, List.all_eq_true, List.mem_range] at h
  refine ⟨h.1, fun j oj hj => ?_⟩
  have h1 := h.2 j (Array.getElem?_eq_some_iff.1 hj).1
  simp only [hj, Bool.and_eq_true, Array.all_eq_true_iff_forall_mem, List.all_eq_true, List.mem_range] at h1
  refine ⟨fun e he hb => ?_, fun i oi hij hi => ?_⟩
  · simpa [hb] using h1.1 e he
  · have h2 := h1.2 i hij
    simp only [hi, Bool.or_eq_true] at h2
    rcases h2 with h2 | h2
    · obtain ⟨e, he, hb⟩ := Array.any_eq_true'.1 h2
      simp only [Bool.and_eq_true, beq_iff_eq] at hb
      exact .inl ⟨e, he, hb.1, hb.2⟩
    · exact .inr h2

/-- Of one operation, behind those before it (each with what is told of its value). -/
def obl (P : Program) (ops : Array Oper) (n : Nat) (wk : Bool) (T : VT) (o : Oper) : List (Oper × VT) → Act → (World → Prop) → Prop
  | [], a, H => ∀ w, H w → relAt P ops n wk T o a w
  | x :: rest, a, H => if x.1.apart ops o = true then obl P ops n wk T o rest a H else ∀ v, obl P ops n wk T o rest (a.put x.1.dst v) (fun w => H w ∧ x.2 v w)
/-- What is told of value k is lost in the end: it is fragile, and a weak operation comes behind it. -/
def lost (weak frag : Nat → Bool) (m k : Nat) : Bool := frag k && (List.range m).any fun i => weak i && decide (k < i)
def fin (Q : Act → World → Prop) (dead : Nat → Bool) : Nat → List (Oper × VT) → Act → (World → Prop) → Prop
  | _, [], a, H => ∀ w, H w → Q a w
  | k, x :: rest, a, H => ∀ v, fin Q dead (k + 1) rest (a.put x.1.dst v) (fun w => H w ∧ (dead k = false → x.2 v w))
def wpRel (P : Program) (ops : Array Oper) (n : Nat) (weak frag : Nat → Bool) (C : World → Prop) (Q : Act → World → Prop) (a0 : Act) : List (Oper × VT) → List Oper → Prop
  | done, [] => fin Q (lost weak frag ops.size) 0 done a0 C
  | done, o :: rest => ∃ T : VT, (frag done.length = true → T.Stable) ∧ (frag done.length = false → T.Robust n) ∧ obl P ops n (weak done.length) T o done a0 C ∧ wpRel P ops n weak frag C Q a0 (done ++ [(o, T)]) rest

theorem obl_use {T : VT} {o : Oper} (vs : Nat → Value) {w : World} : ∀ (done : List (Oper × VT)) (k : Nat) (a : Act) (H : World → Prop), obl P ops n wk T o done a H → H w →
    (∀ (j : Nat) (x : Oper × VT), done[j]? = some x → x.1.apart ops o = false → x.2 (vs (k + j)) w) → relAt P ops n wk T o (fillL (fun j => match done[j - k]? with | some x => !x.1.apart ops o | none => false) vs k (done.map (·.1)) a) w
  | [], _, _, _, h, hH, _ => h w hH
  | x :: rest, k, a, H, h, hH, hT => by
    unfold obl at h
    simp only [List.map_cons, fillL]
    have e : ∀ a', fillL (fun j => match (x :: rest)[j - k]? with | some x => !x.1.apart ops o | none => false) vs (k + 1) (rest.map (·.1)) a' = fillL (fun j => match rest[j - (k + 1)]? with | some x => !x.1.apart ops o | none => false) vs (k + 1) (rest.map (·.1)) a' := by
      intro a'
      refine fillL_ext _ _ _ fun j hj _ => ⟨?_, fun _ => rfl⟩
      rw [show j - k = (j - (k + 1)) + 1 by omega]
      simp
    rw [e]
    have hT' : ∀ (j : Nat) (y : Oper × VT), rest[j]? = some y → y.1.apart ops o = false → y.2 (vs (k + 1 + j)) w := fun j y hj hy => by
      have := hT (j + 1) y (by simpa using hj) hy
      rwa [show k + (j + 1) = k + 1 + j by omega] at this
    have hx := hT 0 x (by simp)
    simp only [Nat.sub_self, List.getElem?_cons_zero, Nat.add_zero] at hx ⊢
    cases hap : x.1.apart ops o with
    | true =>
      rw [hap] at h
      simp only [if_true] at h
      simp only [Bool.not_true, Bool.false_eq_true, if_false]
      exact obl_use vs rest (k + 1) a H h hH hT'
    | false =>
      rw [hap] at h
      simp only [Bool.false_eq_true, if_false] at h
      simp only [Bool.not_false, if_true]
      exact obl_use vs rest (k + 1) _ _ (h (vs k)) ⟨hH, hx hap⟩ hT'

theorem fin_use {Q : Act → World → Prop} {dead : Nat → Bool} (vs : Nat → Value) {w : World} {on : Nat → Bool} : ∀ (done : List (Oper × VT)) (k : Nat) (a : Act) (H : World → Prop), fin Q dead k done a H → H w → (∀ (j : Nat) (x : Oper × VT), done[j]? = some x → on (k + j) = true ∧ (dead (k + j) = false → x.2 (vs (k + j)) w)) →
    Q (fillL on vs k (done.map (·.1)) a) w
  | [], _, _, _, h, hH, _ => h w hH
  | x :: rest, k, a, H, h, hH, hT => by
    unfold fin at h
    have h0 := hT 0 x (by simp)
    simp only [Nat.add_zero] at h0
    simp only [List.map_cons, fillL, h0.1, if_true]
    refine fin_use vs rest (k + 1) _ _ (h (vs k)) ⟨hH, h0.2⟩ fun j y hj => ?_
    have := hT (j + 1) y (by simpa using hj)
    rwa [show k + (j + 1) = k + 1 + j by omega] at this

theorem wpRel_all {C : World → Prop} {Q : Act → World → Prop} {a0 : Act} : ∀ (rest : List Oper) (done : List (Oper × VT)), wpRel P ops n weak frag C Q a0 done rest →
    ∃ D : List (Oper × VT), D.map (·.1) = done.map (·.1) ++ rest ∧ D.take done.length = done ∧ (∀ (k : Nat) (o : Oper) (T : VT), done.length ≤ k → D[k]? = some (o, T) → (frag k = true → T.Stable) ∧ (frag k = false → T.Robust n) ∧ obl P ops n (weak k) T o (D.take k) a0 C) ∧ fin Q (lost weak frag ops.size) 0 D a0 C
  | [], done, h => ⟨done, by simp, by simp, ⟨fun k o T hk hD => (by rw [List.getElem?_eq_none hk] at hD; cases hD), h⟩⟩
  | o :: rest, done, ⟨T, hT, hT', ho, h⟩ => by
    obtain ⟨D, h1, h2, h3, h4⟩ := wpRel_all rest _ h
    have hlen : (done ++ [(o, T)]).length = done.length + 1 := by simp
    rw [hlen] at h2 h3
    have hd : D.take done.length = done := by
      have := congrArg (List.take done.length) h2
      rw [List.take_take, Nat.min_eq_left (by omega)] at this
      rw [this]
      simp
    refine ⟨D, by rw [h1]; simp, hd, fun k o' T' hk hD => ?_, h4⟩
    rcases Nat.lt_or_ge done.length k with hlt | hge
    · exact h3 k o' T' (by omega) hD
    · obtain rfl : k = done.length := by omega
      have he : D[done.length]? = some (o, T) := by
        have := congrArg (fun l => l[done.length]?) h2
        simp only [List.getElem?_take] at this
        rw [if_pos (by omega)] at this
        rw [this]
        simp
      rw [he] at hD
      injection hD with hD
      injection hD with e1 e2
      subst e1 e2
      rw [hd]
      exact ⟨hT, hT', ho⟩

def unl (n : Nat) (listed : Array Bool) : Nat := ((List.range n).filter fun j => !listed.getD j true).length
theorem filter_less {p q : Nat → Bool} : ∀ (l : List Nat) (i : Nat), l.Nodup → i ∈ l → p i = true → q i = false → (∀ j ∈ l, j ≠ i → q j = p j) → (l.filter q).length + 1 = (l.filter p).length
  | [], _, _, h, _, _, _ => by simp at h
  | x :: l, i, hn, hi, hp, hq, h => by
    rw [List.nodup_cons] at hn
    by_cases hx : x = i
    · subst hx
      have e : l.filter q = l.filter p := List.filter_congr fun j hj => h j (by simp [hj]) (fun e => hn.1 (e ▸ hj))
      rw [List.filter_cons, List.filter_cons, hp, hq, e]
      simp
    · have hil : i ∈ l := by
        rcases List.mem_cons.1 hi with e | e
        · exact absurd e.symm hx
        · exact e
      have ih := filter_less l i hn.2 hil hp hq (fun j hj => h j (by simp [hj]))
      have hxx := h x (by simp) hx
      by_cases hpx : p x = true
      · rw [List.filter_cons_of_pos (by simpa [hxx] using hpx), List.filter_cons_of_pos (by simpa using hpx)]
        simpa using ih
      · rw [List.filter_cons_of_neg (by simpa [hxx] using hpx), List.filter_cons_of_neg (by simpa using hpx)]
        exact ih
theorem unl_set {n : Nat} {listed : Array Bool} {i : Nat} (hs : listed.size = n) (hi : i < n) (h : listed.getD i true = false) : unl n (listed.setIfInBounds i true) + 1 = unl n listed := by
  refine filter_less _ i List.nodup_range (List.mem_range.2 hi) (by simpa using h) ?_ fun j _ hne => by rw [getD_set_ne true (Ne.symm hne)]
  have : i < listed.size := by omega
  simp [this]

/-- A weak operation comes behind all that read what it spoils, and ahead of what is fragile and later. -/
def killB (ops : Array Oper) (weak frag : Nat → Bool) : Bool :=
  let tied := fun (x y : Nat) => match ops[x]?, ops[y]? with
    | some ox, some oy => !ox.apart ops oy
    | _, _ => false
  (List.range ops.size).all fun i => !weak i || (List.range ops.size).all fun j => !frag j ||
    ((!decide (j < i) || (List.range ops.size).all fun k => !decide (j < k) || !tied j k || k == i || (decide (k < i) && tied k i)) && (!decide (i < j) || tied i j))
theorem killB_spec (h : killB ops weak frag = true) {i j : Nat} {oi oj : Oper} (hi : ops[i]? = some oi) (hj : ops[j]? = some oj) (hw : weak i = true) (hf : frag j = true) :
    (j < i → ∀ k ok, ops[k]? = some ok → j < k → oj.apart ops ok = false → k = i ∨ (k < i ∧ ok.apart ops oi = false)) ∧ (i < j → oi.apart ops oj = false) := by
  simp only [killB, List.all_eq_true, List.mem_range] at h
  have h1 := h i (Array.getElem?_eq_some_iff.1 hi).1
  rw [hw] at h1
  simp only [Bool.not_true, Bool.false_or, List.all_eq_true, List.mem_range] at h1
  have h2 := h1 j (Array.getElem?_eq_some_iff.1 hj).1
  rw [hf] at h2
  simp only [Bool.not_true, Bool.false_or, Bool.and_eq_true, hi, hj] at h2
  refine ⟨fun hji k ok hk hjk hap => ?_, fun hij => ?_⟩
  · have h3 := h2.1
    simp only [hji, decide_true, Bool.not_true, Bool.false_or, List.all_eq_true, List.mem_range] at h3
    have h4 := h3 k (Array.getElem?_eq_some_iff.1 hk).1
    simp only [hk, hjk, hap, decide_true, Bool.not_true, Bool.false_or, Bool.not_false, Bool.or_eq_true, beq_iff_eq, Bool.and_eq_true, decide_eq_true_eq, Bool.not_eq_true'] at h4
    exact h4
  · have h3 := h2.2
    simpa [hij] using h3
/-- Spoilt by now. -/
def killed (weak frag : Nat → Bool) (m : Nat) (listed : Array Bool) (j : Nat) : Prop := frag j = true ∧ ∃ i, i < m ∧ weak i = true ∧ j < i ∧ listed.getD i false = true

theorem wpAny_of_rel {C : World → Prop} {Q : Exit → Act → World → Prop} {a0 : Act} {D : List (Oper × VT)} (hl : D.map (·.1) = ops.toList) (hB : relB ops = true) (hkB : killB ops weak frag = true) (hC : ∀ w w', C w → Below n w w' → C w') (hCn : ∀ w, C w → n ≤ w.heap.size)
    (ho : ∀ (k : Nat) (o : Oper) (T : VT), D[k]? = some (o, T) → (frag k = true → T.Stable) ∧ (frag k = false → T.Robust n) ∧ obl P ops n (weak k) T o (D.take k) a0 C) (hf : fin (fun a w => Q .normal a w) (lost weak frag ops.size) 0 D a0 C) :
    ∀ (fuel : Nat) (listed : Array Bool) (vs : Nat → Value) (w : World), listed.size = ops.size → unl ops.size listed ≤ fuel →
      (∀ (j : Nat) (oj : Oper), ops[j]? = some oj → listed.getD j false = true → ∀ e ∈ oj.after, Region.binds .any e = true → listed.getD e.on false = true) →
      (∀ (j : Nat) (o : Oper) (T : VT), D[j]? = some (o, T) → listed.getD j false = true → ¬ killed weak frag ops.size listed j → T (vs j) w) → C w →
      wpAny P .any ops Q fuel listed (fillL (fun j => listed.getD j false) vs 0 ops.toList a0) w := by
  obtain ⟨hsel0, hB⟩ := relB_spec hB
  have hsel := Region.noSelect_spec hsel0
  have hD : ∀ (k : Nat) (o : Oper), ops[k]? = some o → ∃ T : VT, D[k]? = some (o, T) := by
    intro k o hk
    have h1 : (D.map (·.1))[k]? = some o := by rw [hl]; simpa using hk
    rw [List.getElem?_map] at h1
    cases hd : D[k]? with
    | none => rw [hd] at h1; simp at h1
    | some x =>
      rw [hd] at h1
      simp at h1
      exact ⟨x.2, by rw [← h1]⟩
  have hdone : ∀ (listed : Array Bool) (vs : Nat → Value) (w : World), listed.size = ops.size → (∀ (j : Nat) (o : Oper) (T : VT), D[j]? = some (o, T) → listed.getD j false = true → ¬ killed weak frag ops.size listed j → T (vs j) w) → C w → Region.ready .any ops listed = [] →
      Q .normal (fillL (fun j => listed.getD j false) vs 0 ops.toList a0) w := by
    intro listed vs w hsz hT hCw hr
    have hall : ∀ j, j < ops.size → listed.getD j false = true := by
      intro j
      induction j using Nat.strongRecOn with
      | ind j ih =>
        intro hj
        cases hb : listed.getD j false with
        | true => rfl
        | false =>
          exfalso
          have hm : j ∈ Region.ready .any ops listed := by
            rw [mem_ready]
            have hjl : j < listed.size := by omega
            refine ⟨by simpa [hjl] using hb, ops[j], Array.getElem?_eq_getElem hj, fun e he hbd => ?_⟩
            have hlt := (hB j ops[j] (Array.getElem?_eq_getElem hj)).1 e he hbd
            exact ih e.on hlt (by omega)
          rw [hr] at hm
          cases hm
    rw [← hl]
    refine fin_use vs D 0 a0 C hf hCw fun j x hj => ?_
    have hj' : j < ops.size := by
      have h1 := (List.getElem?_eq_some_iff.1 hj).1
      have h2 := congrArg List.length hl
      simp at h2
      omega
    rw [Nat.zero_add]
    refine ⟨hall j hj', fun hd => hT j x.1 x.2 hj (hall j hj') ?_⟩
    rintro ⟨hfr, i, hi, hw, hji, _⟩
    have : lost weak frag ops.size j = true := by
      simp only [lost, hfr, Bool.true_and, List.any_eq_true, List.mem_range]
      exact ⟨i, hi, by simp [hw, hji]⟩
    rw [this] at hd
    cases hd
  intro fuel
  induction fuel with
  | zero =>
    intro listed vs w hsz hfu _ hT hCw
    have hr : Region.ready .any ops listed = [] := by
      cases hr : Region.ready .any ops listed with
      | nil => rfl
      | cons i rs =>
        have hi : i ∈ Region.ready .any ops listed := by rw [hr]; simp
        obtain ⟨h0, o, ho', _⟩ := mem_ready.1 hi
        have := unl_set hsz (Array.getElem?_eq_some_iff.1 ho').1 h0
        omega
    exact ⟨hr, hdone listed vs w hsz hT hCw hr⟩
  | succ fuel ih =>
    intro listed vs w hsz hfu hcl hT hCw
    refine ⟨hdone listed vs w hsz hT hCw, fun i hi => ?_⟩
    obtain ⟨h0, oi, hoi, hdeps⟩ := mem_ready.1 hi
    have hilt := (Array.getElem?_eq_some_iff.1 hoi).1
    have hioff : listed.getD i false = false := by
      have : i < listed.size := by omega
      simpa [this] using h0
    obtain ⟨T, hDi⟩ := hD i oi hoi
    obtain ⟨_, _, hob⟩ := ho i oi T hDi
    -- an operation that is listed and later is apart
    have hlater : ∀ j oj, ops[j]? = some oj → i < j → listed.getD j false = true → oi.apart ops oj = true := fun j oj hj hij hon => by
      rcases (hB j oj hj).2 i oi hij hoi with ⟨e, he, hb, hon'⟩ | h
      · have := hcl j oj hj hon e he hb
        rw [hon', hioff] at this
        cases this
      · exact h
    have hearlier : ∀ j oj, ops[j]? = some oj → j < i → oj.apart ops oi = false → listed.getD j false = true := fun j oj hj hij hna => by
      rcases (hB i oi hoi).2 j oj hij hj with ⟨e, he, hb, hon'⟩ | h
      · have := hdeps e he hb
        rwa [hon'] at this
      · rw [h] at hna; cases hna
    have hused := obl_use (w := w) vs (D.take i) 0 a0 C hob hCw (fun j x hj hna => by
      rw [Nat.zero_add]
      rw [List.getElem?_take] at hj
      split at hj
      · rename_i hji
        have hoj : ops[j]? = some x.1 := by
          have h1 := congrArg (fun l => l[j]?) hl
          simp only [List.getElem?_map, hj, Option.map_some] at h1
          simpa using h1.symm
        refine hT j x.1 x.2 hj (hearlier j x.1 hoj hji hna) ?_
        rintro ⟨hfr, i', hi', hw, hji', hon'⟩
        rcases (killB_spec hkB (Array.getElem?_eq_getElem hi') hoj hw hfr).1 hji' i oi hoi hji hna with e | ⟨e1, e2⟩
        · rw [← e, hioff] at hon'; cases hon'
        · rw [hlater i' _ (Array.getElem?_eq_getElem hi') e1 hon'] at e2; cases e2
      · cases hj)
    have hrel : relAt P ops n (weak i) T oi (fillL (fun j => listed.getD j false) vs 0 ops.toList a0) w := by
      refine Agree.rel (hsel i oi · · hoi) ?_ hused
      -- the frame with what is read, and the whole one
      have hsplit : ops.toList = (D.take i).map (·.1) ++ ops.toList.drop i := by
        rw [← hl, List.map_take, List.take_append_drop]
      have hfa : ∀ (on : Nat → Bool) (l1 l2 : List Oper) (k : Nat) (a : Act), fillL on vs k (l1 ++ l2) a = fillL on vs (k + l1.length) l2 (fillL on vs k l1 a) := by
        intro on l1
        induction l1 with
        | nil => intro l2 k a; rfl
        | cons x l1 ih => intro l2 k a; simp only [List.cons_append, fillL, List.length_cons]; rw [ih]; congr 1; omega
      have hlen : ((D.take i).map (·.1)).length = i := by
        have h2 := congrArg List.length hl
        simp at h2
        simp
        omega
      have h1 : Agree ops oi (fillL (fun j => match (D.take i)[j - 0]? with | some x => !x.1.apart ops oi | none => false) vs 0 ((D.take i).map (·.1)) a0) (fillL (fun j => listed.getD j false) vs 0 ((D.take i).map (·.1)) a0) := by
        refine fillL_agree _ _ _ _ (Agree.refl _ _) fun j oj hj hne x hx => ?_
        rw [List.getElem?_map] at hj
        cases hd : (D.take i)[j]? with
        | none => rw [hd] at hj; simp at hj
        | some y =>
          rw [hd] at hj
          simp at hj
          subst hj
          have hji : j < i := by
            have := (List.getElem?_eq_some_iff.1 hd).1
            simp at this
            omega
          rw [List.getElem?_take, if_pos hji] at hd
          have hoj : ops[j]? = some y.1 := by
            have h1 := congrArg (fun l => l[j]?) hl
            simp only [List.getElem?_map, hd, Option.map_some] at h1
            simpa using h1.symm
          have hyy : (D.take i)[j]? = some y := by rw [List.getElem?_take, if_pos hji]; exact hd
          simp only [Nat.zero_add, Nat.sub_zero, hyy] at hne
          cases hap : y.1.apart ops oi with
          | true => exact (Oper.apart_spec hap).1 x hx
          | false =>
            rw [hap, hearlier j y.1 hoj hji hap] at hne
            exact absurd rfl hne
      rw [hsplit, hfa, hlen]
      have h2 : ∀ (l : List Oper) (k : Nat) (a : Act), (∀ j oj, l[j]? = some oj → listed.getD (k + j) false = true → ∀ x, oj.dst = some x → x ∉ oi.looksAt ops) → Agree ops oi a (fillL (fun j => listed.getD j false) vs k l a) := by
        intro l k a hh
        have := fillL_agree (ops := ops) (o := oi) (on := fun _ => false) (on' := fun j => listed.getD j false) (vs := vs) l k a a (Agree.refl _ _) (fun j oj hj hne x hx => hh j oj hj (by
          cases hb : listed.getD (k + j) false with
          | true => rfl
          | false => exact absurd hb.symm hne) x hx)
        have hz : ∀ (l : List Oper) (k : Nat) (a : Act), fillL (fun _ => false) vs k l a = a := by
          intro l
          induction l with
          | nil => intro k a; rfl
          | cons o l ih => intro k a; simp only [fillL, Bool.false_eq_true, if_false]; exact ih _ _
        rwa [hz] at this
      refine fun t ht => (h1 t ht).trans (h2 (ops.toList.drop i) (0 + i) _ (fun j oj hj hon x hx => ?_) t ht)
      rw [List.getElem?_drop] at hj
      have hoj : ops[i + j]? = some oj := by simpa using hj
      rw [Nat.zero_add] at hon
      rcases Nat.eq_zero_or_pos j with rfl | hpos
      · rw [Nat.add_zero, hioff] at hon; cases hon
      · exact (Oper.apart_spec (hlater (i + j) oj hoj (by omega) hon)).2.2 x hx
    -- the step
    have next : ∀ v w', Below (reach n (weak i) w) w w' → T v w' → wpAny P .any ops Q fuel (listed.setIfInBounds i true) ((fillL (fun j => listed.getD j false) vs 0 ops.toList a0).put oi.dst v) w' := by
      intro v w' hb hv
      have hbn : Below n w w' := hb.mono (by unfold reach; split; exact Nat.le_refl _; exact hCn w hCw)
      rw [fillL_set (i := i) (oi := oi) ops.toList 0 a0 (Nat.zero_le _) (by simpa using hoi) hioff (fun j oj hj hij hon x hx => by
        rw [Nat.zero_add] at hij hon
        exact (Oper.apart_spec (hlater j oj (by simpa using hj) hij hon)).2.1 x hx)]
      have hset : ∀ j, j < ops.size → (j == i || listed.getD j false) = (listed.setIfInBounds i true).getD j false := by
        intro j hj
        by_cases hji : j = i
        · subst hji
          have : j < listed.size := by omega
          simp [this]
        · rw [getD_set_ne false (Ne.symm hji)]
          simp [hji]
      rw [fillL_ext (on' := fun j => (listed.setIfInBounds i true).getD j false) (vs' := fun j => if j = i then v else vs j) ops.toList 0 a0 (fun j _ hj => ⟨hset j (by simpa using hj), fun _ => rfl⟩)]
      refine ih _ _ w' (by simpa using hsz) (by have := unl_set hsz hilt h0; omega) (fun j oj hj hon e he hbd => ?_) (fun j o T' hj hon hnk => ?_) (hC w w' hCw hbn)
      · by_cases hji : j = i
        · subst hji
          rw [hoi] at hj
          injection hj with hj
          subst hj
          exact getD_set_true (hdeps e he hbd)
        · rw [getD_set_ne false (Ne.symm hji)] at hon
          exact getD_set_true (hcl j oj hj hon e he hbd)
      · by_cases hji : j = i
        · subst hji
          rw [hDi] at hj
          injection hj with hj
          injection hj with e1 e2
          subst e1 e2
          simpa using hv
        · rw [getD_set_ne false (Ne.symm hji)] at hon
          simp only [if_neg hji]
          have hjlt : j < ops.size := by
            have h1 := (List.getElem?_eq_some_iff.1 hj).1
            have h2 := congrArg List.length hl
            simp at h2
            omega
          have hTj := hT j o T' hj hon (fun ⟨hfr, i', hi', hw, hji', hon'⟩ => hnk ⟨hfr, i', hi', hw, hji', getD_set_true hon'⟩)
          cases hfr : frag j with
          | false => exact (ho j o T' hj).2.1 hfr _ _ _ (hCn w hCw) hbn hTj
          | true =>
            cases hwi : weak i with
            | false =>
              rw [hwi] at hb
              exact (ho j o T' hj).1 hfr _ _ _ hb hTj
            | true =>
              exfalso
              have hil : i < listed.size := by omega
              rcases Nat.lt_or_ge j i with hlt | hge
              · exact hnk ⟨hfr, i, hilt, hwi, hlt, by simp [hil]⟩
              · have hij : i < j := by omega
                have e2 := (killB_spec hkB hoi (Array.getElem?_eq_getElem hjlt) hwi hfr).2 hij
                rw [hlater j _ (Array.getElem?_eq_getElem hjlt) hij hon] at e2
                cases e2
    unfold wpOp
    simp only [hoi]
    unfold relAt at hrel
    split
    · rename_i hw
      rw [if_pos hw] at hrel
      refine .inl ?_
      unfold Oper.wp
      generalize (execOp (fillL (fun j => listed.getD j false) vs 0 ops.toList a0).eval oi).run P w = r at hrel
      cases r with
      | ok n w' =>
        cases n <;> simp only [relUpon] at hrel <;> simp only [Oper.upon]
        case value u => exact next u w' hrel.1 hrel.2
        case skip => exact next undef w' hrel.1 hrel.2
        case enter f args =>
          exact hrel.mono fun e w'' ⟨v, he, h1, h2⟩ => by subst he; exact next v w'' h1 h2
      | halt x w' => simp only [relUpon] at hrel
    · rename_i hw
      rw [if_neg hw] at hrel
      exact next undef w (Below.refl _ _) hrel

theorem getD_rep (n j : Nat) : (Array.replicate n false).getD j false = false := by
  simp [Array.getElem?_replicate]
  split <;> rfl
/-- **A region that draws, by what is told of each value.** -/
theorem wp_region_rel {id : Nat} {Q : Exit → Act → World → Prop} {a : Act} {w : World} {l : List Oper} (n : Nat) (weak frag : Nat → Bool) (hn : n ≤ w.heap.size) (hm : P.follows .mixedOrders = true) (hB : relB l.toArray = true) (hkB : killB l.toArray weak frag = true)
    (h : wpRel P l.toArray n weak frag (Below n w) (fun a' w' => Q .normal a' w') a [] l) : (Code.region id l.toArray true).wp P Q a w := by
  obtain ⟨D, h1, _, h3, h4⟩ := wpRel_all l [] h
  refine wp_region_any hm ?_
  have := wpAny_of_rel (Q := Q) (ops := l.toArray) (D := D) (a0 := a) (C := Below n w) (by simpa using h1) hB hkB (fun w1 w2 hb hb' => hb.trans hb') (fun w1 hb => Nat.le_trans hn hb.size)
    (fun k o T hk => h3 k o T (Nat.zero_le _) hk) h4 l.toArray.size (Array.replicate l.toArray.size false) (fun _ => undef) { w with drawn := w.drawn + 1 } (by simp)
    (by unfold unl; exact Nat.le_trans (List.length_filter_le _ _) (by simp)) (fun j oj _ hon => by rw [getD_rep] at hon; cases hon) (fun j o T _ hon _ => by rw [getD_rep] at hon; cases hon) ⟨rfl, rfl, rfl, Nat.le_refl _, fun _ _ => rfl⟩
  have hz : ∀ (l : List Oper) (on : Nat → Bool) (k : Nat) (a : Act), (∀ j, on j = false) → fillL on (fun _ => undef) k l a = a := by
    intro l on
    induction l with
    | nil => intro k a _; rfl
    | cons o l ih => intro k a hon; simp only [fillL, hon, Bool.false_eq_true, if_false]; exact ih _ _ hon
  rwa [hz _ _ _ _ (fun j => getD_rep _ _)] at this

variable {C : World → Prop} {Q : Act → World → Prop} {a0 a : Act} {done rest : List (Oper × VT)} {later : List Oper} {o oj : Oper} {T : VT} {H : World → Prop}
theorem rel_det {x : Value} (h : obl P ops n (weak done.length) (IsV x) o done a0 C) (hr : wpRel P ops n weak frag C Q a0 (done ++ [(o, IsV x)]) later) : wpRel P ops n weak frag C Q a0 done (o :: later) := ⟨_, fun _ => IsV.stable x, fun _ => IsV.robust n x, h, hr⟩
theorem rel_any (T : VT) (hf : frag done.length = true) (hT : T.Stable) (h : obl P ops n (weak done.length) T o done a0 C) (hr : wpRel P ops n weak frag C Q a0 (done ++ [(o, T)]) later) : wpRel P ops n weak frag C Q a0 done (o :: later) := ⟨T, fun _ => hT, fun h => (by rw [hf] at h; cases h), h, hr⟩
theorem obl_skip {Tj : VT} (hap : oj.apart ops o = true) (h : obl P ops n wk T o rest a H) : obl P ops n wk T o ((oj, Tj) :: rest) a H := by
  unfold obl; rw [if_pos hap]; exact h
theorem obl_var {Tj : VT} (hap : oj.apart ops o = false) (h : ∀ v, obl P ops n wk T o rest (a.put oj.dst v) (fun w => H w ∧ Tj v w)) : obl P ops n wk T o ((oj, Tj) :: rest) a H := by
  unfold obl; rw [if_neg (by rw [hap]; decide)]; exact h
theorem obl_det {x : Value} (hap : oj.apart ops o = false) (h : obl P ops n wk T o rest (a.put oj.dst x) H) : obl P ops n wk T o ((oj, IsV x) :: rest) a H := by
  have aux : ∀ (rest : List (Oper × VT)) (a : Act) (H H' : World → Prop), (∀ w, H' w → H w) → obl P ops n wk T o rest a H → obl P ops n wk T o rest a H' := by
    intro rest
    induction rest with
    | nil => intro a H H' hh h w hw; exact h w (hh w hw)
    | cons y rest ih =>
      intro a H H' hh h
      rw [obl] at h ⊢
      split
      · rename_i hap; rw [if_pos hap] at h; exact ih _ _ _ hh h
      · rename_i hap; rw [if_neg hap] at h; exact fun v => ih _ _ _ (fun w hw => ⟨hh w hw.1, hw.2⟩) (h v)
  have aux2 : ∀ (rest : List (Oper × VT)) (a : Act) (H : World → Prop), (∀ w, ¬ H w) → obl P ops n wk T o rest a H := by
    intro rest
    induction rest with
    | nil => intro a H hh w hw; exact absurd hw (hh w)
    | cons y rest ih =>
      intro a H hh
      rw [obl]
      split
      · exact ih _ _ hh
      · exact fun v => ih _ _ (fun w hw => hh w hw.1)
  refine obl_var hap fun v => ?_
  by_cases hv : v = x
  · subst hv; exact aux _ _ _ _ (fun w hw => hw.1) h
  · exact aux2 _ _ _ (fun w hw => hv hw.2)
theorem fin_mono {dead : Nat → Bool} : ∀ (rest : List (Oper × VT)) (k : Nat) (a : Act) (H H' : World → Prop), (∀ w, H' w → H w) → fin Q dead k rest a H → fin Q dead k rest a H'
  | [], _, _, _, _, hh, h => fun w hw => h w (hh w hw)
  | _ :: rest, k, _, _, _, hh, h => fun v => fin_mono rest (k + 1) _ _ _ (fun w hw => ⟨hh w hw.1, hw.2⟩) (h v)
theorem fin_false {dead : Nat → Bool} : ∀ (rest : List (Oper × VT)) (k : Nat) (a : Act) (H : World → Prop), (∀ w, ¬ H w) → fin Q dead k rest a H
  | [], _, _, _, hh => fun w hw => absurd hw (hh w)
  | _ :: rest, k, _, _, hh => fun _ => fin_false rest (k + 1) _ _ (fun w hw => hh w hw.1)
theorem fin_det {dead : Nat → Bool} {k : Nat} {x : Value} (hd : dead k = false) (h : fin Q dead (k + 1) rest (a.put o.dst x) H) : fin Q dead k ((o, IsV x) :: rest) a H := by
  intro v
  by_cases hv : v = x
  · subst hv; exact fin_mono _ _ _ _ _ (fun w hw => hw.1) h
  · exact fin_false _ _ _ _ (fun w hw => hv (hw.2 hd))
theorem fin_var {dead : Nat → Bool} {k : Nat} {T : VT} (hd : dead k = false) (h : ∀ v, fin Q dead (k + 1) rest (a.put o.dst v) (fun w => H w ∧ T v w)) : fin Q dead k ((o, T) :: rest) a H :=
  fun v => fin_mono _ _ _ _ _ (fun _ hw => ⟨hw.1, hw.2 hd⟩) (h v)
theorem fin_dead {dead : Nat → Bool} {k : Nat} {T : VT} (h : ∀ v, fin Q dead (k + 1) rest (a.put o.dst v) H) : fin Q dead k ((o, T) :: rest) a H :=
  fun v => fin_mono _ _ _ _ _ (fun _ hw => hw.1) (h v)
theorem relAt_wanted {w : World} (hw : Region.wanted o (yielded ops a.tmps) = true) (h : relUpon P (reach n wk w) w T ((execOp a.eval o).run P w)) : relAt P ops n wk T o a w := by
  unfold relAt; rw [if_pos hw]; exact h
theorem relAt_not {w : World} (hw : Region.wanted o (yielded ops a.tmps) = false) (h : T undef w) : relAt P ops n wk T o a w := by
  unfold relAt; rw [if_neg (by rw [hw]; decide)]; exact h
theorem relUpon_append {m : Nat} {w w' : World} {v u v' : Value} (s x : Operand) (t : TypeId)
    (ho : o.op = .call { callee := .builtin .append, args := #[s, x], argTypes := #[t, t] }) (hs : a.eval s = v) (hx : a.eval x = u) (hrun : (Builtin.append_ #[t, t] o.type #[v, u]).run P w = .ok v' w')
    (hb : Below m w w') (hT : T v' w') : relUpon P m w T ((execOp a.eval o).run P w) := by
  unfold execOp
  simp only [ho, resolve, invoke, builtin, Sem.run_bind, Sem.run_pure, Result.andThen_ok, List.map_toArray, List.map_cons, List.map_nil, hs, hx, hrun]
  exact ⟨hb, hT⟩
theorem relAt_cps {w : World} (hw : Region.wanted o (yielded ops a.tmps) = true) (h : ∀ T' : VT, (∀ u w', T u w' → T' u w') → relUpon P (reach n wk w) w T' ((execOp a.eval o).run P w)) : relAt P ops n wk T o a w :=
  relAt_wanted hw (h T fun _ _ h => h)
end
attribute [go_sem] relUpon
end Go.Proofs.Ytpnfpdkoeednhaa

end
section
/- As Rel, where the last operations of the region wait for all before them (stores behind allocations): these are left to be walked in their order; blocks that the earlier ones make are told apart. Over any program. -/
namespace Go.Proofs.Ytpnfpdkoeednhaa
open Go.RowKit
section
variable {P : Program} {ops : Array Oper} {n m : Nat} {fr : Nat → Bool}

def TF (f : Bool) (T : VT) (w : World) : VT := fun v w' => T v w' ∧ (f = true → ∃ b, v = .pointer (some ⟨b, 0, none⟩) ∧ w.heap.size ≤ b ∧ b < w'.heap.size)
def oblT (P : Program) (ops : Array Oper) (n : Nat) (f : Bool) (T : VT) (o : Oper) : List (Oper × VT) → Act → (World → Prop) → Prop
  | [], a, H => ∀ w, H w → relAt P ops n false (TF f T w) o a w
  | x :: rest, a, H => if x.1.apart ops o = true then oblT P ops n f T o rest a H else ∀ v, oblT P ops n f T o rest (a.put x.1.dst v) (fun w => H w ∧ x.2 v w)
def finT (Q : Act → World → Prop) (fr : Nat → Bool) : Nat → List Value → List (Oper × VT) → Act → (World → Prop) → Prop
  | _, _, [], a, H => ∀ w, H w → Q a w
  | k, seen, x :: rest, a, H => ∀ v, finT Q fr (k + 1) (if fr k = true then v :: seen else seen) rest (a.put x.1.dst v) (fun w => H w ∧ x.2 v w ∧ (fr k = true → v ∉ seen))
def wpRelT (P : Program) (ops : Array Oper) (n : Nat) (fr : Nat → Bool) (C : World → Prop) (Q : Act → World → Prop) (a0 : Act) : List (Oper × VT) → List Oper → Prop
  | done, [] => finT Q fr 0 [] done a0 C
  | done, o :: rest => ∃ T : VT, T.Stable ∧ oblT P ops n (fr done.length) T o done a0 C ∧ wpRelT P ops n fr C Q a0 (done ++ [(o, T)]) rest

def direct (ops : Array Oper) (i j : Nat) : Bool := match ops[j]? with
  | some oj => oj.after.any fun e => Region.binds .any e && e.on == i
  | none => false
/-- j waits for i, by so many steps at most. -/
def behind (ops : Array Oper) : Nat → Nat → Nat → Bool
  | 0, _, _ => false
  | f + 1, i, j => direct ops i j || (List.range j).any fun k => direct ops k j && behind ops f i k
def relBT (ops : Array Oper) (m : Nat) : Bool :=
  Region.noSelect ops && (List.range ops.size).all fun j => match ops[j]? with
    | none => true
    | some oj => (oj.after.all fun e => !Region.binds .any e || decide (e.on < j)) && (List.range j).all fun i => match ops[i]? with
      | none => true
      | some oi => direct ops i j || (if j < m then oi.apart ops oj else behind ops 12 i j)
theorem direct_spec {i j : Nat} (h : direct ops i j = true) : ∃ oj, ops[j]? = some oj ∧ ∃ e ∈ oj.after, Region.binds .any e = true ∧ e.on = i := by
  unfold direct at h
  split at h
  · rename_i oj ho
    obtain ⟨e, he, hb⟩ := Array.any_eq_true'.1 h
    simp only [Bool.and_eq_true, beq_iff_eq] at hb
    exact ⟨oj, ho, e, he, hb.1, hb.2⟩
  · cases h
theorem behind_succ {f i j : Nat} (h : behind ops f i j = true) : behind ops (f + 1) i j = true := by
  induction f generalizing i j with
  | zero => simp [behind] at h
  | succ f ih =>
    unfold behind at h ⊢
    simp only [Bool.or_eq_true, List.any_eq_true, List.mem_range, Bool.and_eq_true] at h ⊢
    rcases h with h | ⟨k, h1, h2, h3⟩
    · exact .inl h
    · exact .inr ⟨k, h1, h2, ih h3⟩
theorem relBT_spec (h : relBT ops m = true) : Region.noSelect ops = true ∧ (∀ j oj, ops[j]? = some oj → ∀ e ∈ oj.after, Region.binds .any e = true → e.on < j) ∧
    (∀ j oj, ops[j]? = some oj → j < m → ∀ i oi, i < j → ops[i]? = some oi → (∃ e ∈ oj.after, Region.binds .any e = true ∧ e.on = i) ∨ oi.apart ops oj = true) ∧
    (∀ j oj, ops[j]? = some oj → m ≤ j → ∀ i, i < j → behind ops 13 i j = true) := by
  simp only [relBT, Bool.and_eq_true, List.all_eq_true, List.mem_range] at h
  have hj : ∀ j oj, ops[j]? = some oj → (∀ e ∈ oj.after, Region.binds .any e = true → e.on < j) ∧ ∀ i oi, i < j → ops[i]? = some oi → (direct ops i j = true ∨ (if j < m then oi.apart ops oj else behind ops 12 i j) = true) := by
    intro j oj hj
    have h1 := h.2 j (Array.getElem?_eq_some_iff.1 hj).1
    simp only [hj, Bool.and_eq_true, Array.all_eq_true_iff_forall_mem, List.all_eq_true, List.mem_range] at h1
    refine ⟨fun e he hb => by simpa [hb] using h1.1 e he, fun i oi hij hi => ?_⟩
    have h2 := h1.2 i hij
    simp only [hi, Bool.or_eq_true] at h2
    exact h2
  have hd : ∀ {i j oj}, ops[j]? = some oj → direct ops i j = true → ∃ e ∈ oj.after, Region.binds .any e = true ∧ e.on = i := by
    intro i j oj ho hd
    obtain ⟨oj', ho', h⟩ := direct_spec hd
    rw [ho] at ho'
    cases ho'
    exact h
  refine ⟨h.1, fun j oj ho => (hj j oj ho).1, fun j oj ho hjm i oi hij hi => ?_, fun j oj ho hjm i hij => ?_⟩
  · rcases (hj j oj ho).2 i oi hij hi with h1 | h1
    · exact .inl (hd ho h1)
    · rw [if_pos hjm] at h1
      exact .inr h1
  · have hjl := (Array.getElem?_eq_some_iff.1 ho).1
    have hil : i < ops.size := by omega
    rcases (hj j oj ho).2 i _ hij (Array.getElem?_eq_getElem hil) with h1 | h1
    · unfold behind; rw [h1]; rfl
    · rw [if_neg (by omega)] at h1
      exact behind_succ h1
/-- Where all that an operation waits for is listed, all that it is behind is. -/
theorem behind_listed {listed : Nat → Bool} (hcl : ∀ (j : Nat) (oj : Oper), ops[j]? = some oj → listed j = true → ∀ e ∈ oj.after, Region.binds .any e = true → listed e.on = true) :
    ∀ (f i j : Nat) (oj : Oper), ops[j]? = some oj → (∀ e ∈ oj.after, Region.binds .any e = true → listed e.on = true) → behind ops f i j = true → listed i = true
  | 0, _, _, _, _, _, h => by simp [behind] at h
  | f + 1, i, j, oj, ho, hd, h => by
    simp only [behind, Bool.or_eq_true, List.any_eq_true, List.mem_range, Bool.and_eq_true] at h
    rcases h with h | ⟨k, _, hk, h⟩
    · obtain ⟨oj', ho', e, he, hb, hon⟩ := direct_spec h
      rw [ho] at ho'; cases ho'
      rw [← hon]; exact hd e he hb
    · obtain ⟨oj', ho', e, he, hb, hon⟩ := direct_spec hk
      rw [ho] at ho'; cases ho'
      have hkl : listed k = true := by rw [← hon]; exact hd e he hb
      rcases Nat.lt_or_ge k ops.size with hks | hks
      · exact behind_listed hcl f i k _ (Array.getElem?_eq_getElem hks) (fun e he hb => hcl k _ (Array.getElem?_eq_getElem hks) hkl e he hb) h
      · exfalso
        cases f with
        | zero => simp [behind] at h
        | succ f =>
          simp only [behind, Bool.or_eq_true, List.any_eq_true, List.mem_range, Bool.and_eq_true] at h
          have hn : ∀ x, direct ops x k = false := fun x => by simp [direct, Array.getElem?_eq_none hks]
          rcases h with h | ⟨x, _, h, _⟩
          · rw [hn] at h; cases h
          · rw [hn] at h; cases h

theorem obl_useT {f : Bool} {T : VT} {o : Oper} (vs : Nat → Value) {w : World} : ∀ (done : List (Oper × VT)) (k : Nat) (a : Act) (H : World → Prop), oblT P ops n f T o done a H → H w →
    (∀ (j : Nat) (x : Oper × VT), done[j]? = some x → x.1.apart ops o = false → x.2 (vs (k + j)) w) → relAt P ops n false (TF f T w) o (fillL (fun j => match done[j - k]? with | some x => !x.1.apart ops o | none => false) vs k (done.map (·.1)) a) w
  | [], _, _, _, h, hH, _ => h w hH
  | x :: rest, k, a, H, h, hH, hT => by
    unfold oblT at h
    simp only [List.map_cons, fillL]
    have e : ∀ a', fillL (fun j => match (x :: rest)[j - k]? with | some x => !x.1.apart ops o | none => false) vs (k + 1) (rest.map (·.1)) a' = fillL (fun j => match rest[j - (k + 1)]? with | some x => !x.1.apart ops o | none => false) vs (k + 1) (rest.map (·.1)) a' := by
      intro a'
      refine fillL_ext _ _ _ fun j hj _ => ⟨?_, fun _ => rfl⟩
      rw [show j - k = (j - (k + 1)) + 1 by omega]
      simp
    rw [e]
    have hT' : ∀ (j : Nat) (y : Oper × VT), rest[j]? = some y → y.1.apart ops o = false → y.2 (vs (k + 1 + j)) w := fun j y hj hy => by
      have := hT (j + 1) y (by simpa using hj) hy
      rwa [show k + (j + 1) = k + 1 + j by omega] at this
    have hx := hT 0 x (by simp)
    simp only [Nat.sub_self, List.getElem?_cons_zero, Nat.add_zero] at hx ⊢
    cases hap : x.1.apart ops o with
    | true =>
      rw [hap] at h
      simp only [if_true] at h
      simp only [Bool.not_true, Bool.false_eq_true, if_false]
      exact obl_useT vs rest (k + 1) a H h hH hT'
    | false =>
      rw [hap] at h
      simp only [Bool.false_eq_true, if_false] at h
      simp only [Bool.not_false, if_true]
      exact obl_useT vs rest (k + 1) _ _ (h (vs k)) ⟨hH, hx hap⟩ hT'

theorem fin_useT {Q : Act → World → Prop} (vs : Nat → Value) {w : World} {on : Nat → Bool} : ∀ (done : List (Oper × VT)) (k : Nat) (seen : List Value) (a : Act) (H : World → Prop), finT Q fr k seen done a H → H w →
    (∀ (j : Nat) (x : Oper × VT), done[j]? = some x → on (k + j) = true ∧ x.2 (vs (k + j)) w ∧ (fr (k + j) = true → vs (k + j) ∉ seen ∧ ∀ i, i < j → fr (k + i) = true → vs (k + j) ≠ vs (k + i))) →
    Q (fillL on vs k (done.map (·.1)) a) w
  | [], _, _, _, _, h, hH, _ => h w hH
  | x :: rest, k, seen, a, H, h, hH, hT => by
    unfold finT at h
    have h0 := hT 0 x (by simp)
    simp only [Nat.add_zero] at h0
    simp only [List.map_cons, fillL, h0.1, if_true]
    refine fin_useT vs rest (k + 1) _ _ _ (h (vs k)) ⟨hH, h0.2.1, fun hf => (h0.2.2 hf).1⟩ fun j y hj => ?_
    have := hT (j + 1) y (by simpa using hj)
    rw [show k + (j + 1) = k + 1 + j by omega] at this
    refine ⟨this.1, this.2.1, fun hf => ⟨?_, fun i hi hfi => ?_⟩⟩
    · split
      · rename_i hk
        rw [List.mem_cons, not_or]
        exact ⟨(this.2.2 hf).2 0 (by omega) (by simpa using hk), (this.2.2 hf).1⟩
      · exact (this.2.2 hf).1
    · have := (this.2.2 hf).2 (i + 1) (by omega) (by rw [show k + (i + 1) = k + 1 + i by omega]; exact hfi)
      rwa [show k + (i + 1) = k + 1 + i by omega] at this

theorem wpRelT_all {C : World → Prop} {Q : Act → World → Prop} {a0 : Act} : ∀ (rest : List Oper) (done : List (Oper × VT)), wpRelT P ops n fr C Q a0 done rest →
    ∃ D : List (Oper × VT), D.map (·.1) = done.map (·.1) ++ rest ∧ D.take done.length = done ∧ (∀ (k : Nat) (o : Oper) (T : VT), done.length ≤ k → D[k]? = some (o, T) → T.Stable ∧ oblT P ops n (fr k) T o (D.take k) a0 C) ∧ finT Q fr 0 [] D a0 C
  | [], done, h => ⟨done, by simp, by simp, ⟨fun k o T hk hD => (by rw [List.getElem?_eq_none hk] at hD; cases hD), h⟩⟩
  | o :: rest, done, ⟨T, hT, ho, h⟩ => by
    obtain ⟨D, h1, h2, h3, h4⟩ := wpRelT_all rest _ h
    have hlen : (done ++ [(o, T)]).length = done.length + 1 := by simp
    rw [hlen] at h2 h3
    have hd : D.take done.length = done := by
      have := congrArg (List.take done.length) h2
      rw [List.take_take, Nat.min_eq_left (by omega)] at this
      rw [this]
      simp
    refine ⟨D, by rw [h1]; simp, hd, fun k o' T' hk hD => ?_, h4⟩
    rcases Nat.lt_or_ge done.length k with hlt | hge
    · exact h3 k o' T' (by omega) hD
    · obtain rfl : k = done.length := by omega
      have he : D[done.length]? = some (o, T) := by
        have := congrArg (fun l => l[done.length]?) h2
        simp only [List.getElem?_take] at this
        rw [if_pos (by omega)] at this
        rw [this]
        simp
      rw [he] at hD
      injection hD with hD
      injection hD with e1 e2
      subst e1 e2
      rw [hd]
      exact ⟨hT, ho⟩

/-- The last operations, each behind all before it. -/
theorem wpAny_tail {Q : Exit → Act → World → Prop} (hB : relBT ops m = true) : ∀ (fuel k : Nat) (listed : Array Bool) (a : Act) (w : World), listed.size = ops.size → unl ops.size listed ≤ fuel → m ≤ k → k ≤ ops.size →
    (∀ j, j < k → listed.getD j false = true) → (∀ j, k ≤ j → listed.getD j false = false) → wpList P ops Q (ops.toList.drop k) a w → wpAny P .any ops Q fuel listed a w := by
  obtain ⟨_, hlow, _, htl⟩ := relBT_spec hB
  have hnone : ∀ (k : Nat) (listed : Array Bool), listed.size = ops.size → k ≤ ops.size → (∀ j, j < k → listed.getD j false = true) → (∀ j, k ≤ j → listed.getD j false = false) → Region.ready .any ops listed = [] → k = ops.size := by
    intro k listed hsz hk hon hoff hr
    rcases Nat.lt_or_ge k ops.size with hlt | hge
    · exfalso
      have hm : k ∈ Region.ready .any ops listed := by
        rw [mem_ready]
        have hkl : k < listed.size := by omega
        refine ⟨by have := hoff k (Nat.le_refl _); simpa [hkl] using this, ops[k], Array.getElem?_eq_getElem hlt, fun e he hbd => hon _ (hlow k _ (Array.getElem?_eq_getElem hlt) e he hbd)⟩
      rw [hr] at hm
      cases hm
    · omega
  intro fuel
  induction fuel with
  | zero =>
    intro k listed a w hsz hfu hmk hk hon hoff h
    have hr : Region.ready .any ops listed = [] := by
      cases hr : Region.ready .any ops listed with
      | nil => rfl
      | cons i rs =>
        have hi : i ∈ Region.ready .any ops listed := by rw [hr]; simp
        obtain ⟨h0, o, ho', _⟩ := mem_ready.1 hi
        have := unl_set hsz (Array.getElem?_eq_some_iff.1 ho').1 h0
        omega
    have hkz := hnone k listed hsz hk hon hoff hr
    subst hkz
    refine ⟨hr, ?_⟩
    rw [List.drop_of_length_le (by simp)] at h
    exact h
  | succ fuel ih =>
    intro k listed a w hsz hfu hmk hk hon hoff h
    refine ⟨fun hr => ?_, fun i hi => ?_⟩
    · have hkz := hnone k listed hsz hk hon hoff hr
      subst hkz
      rw [List.drop_of_length_le (by simp)] at h
      exact h
    · obtain ⟨h0, oi, hoi, hdeps⟩ := mem_ready.1 hi
      have hilt := (Array.getElem?_eq_some_iff.1 hoi).1
      have hioff : listed.getD i false = false := by
        have : i < listed.size := by omega
        simpa [this] using h0
      have hki : k ≤ i := by
        rcases Nat.lt_or_ge i k with h1 | h1
        · rw [hon i h1] at hioff; cases hioff
        · exact h1
      have hik : i = k := by
        rcases Nat.lt_or_ge k i with h1 | h1
        · exfalso
          have hkoff := hoff k (Nat.le_refl _)
          have hcl2 : ∀ (j : Nat) (oj : Oper), ops[j]? = some oj → listed.getD j false = true → ∀ e ∈ oj.after, Region.binds .any e = true → listed.getD e.on false = true := fun j oj ho hj e he hb => by
            have hjk : j < k := by
              rcases Nat.lt_or_ge j k with h2 | h2
              · exact h2
              · rw [hoff j h2] at hj; cases hj
            exact hon _ (Nat.lt_trans (hlow j oj ho e he hb) hjk)
          have := behind_listed (listed := fun j => listed.getD j false) hcl2 13 k i oi hoi hdeps (htl i oi hoi (by omega) k h1)
          rw [hkoff] at this; cases this
        · omega
      subst hik
      have hd : ops.toList.drop i = oi :: ops.toList.drop (i + 1) := drop_cons (by simpa using hoi)
      rw [hd] at h
      have next : ∀ a' w', wpList P ops Q (ops.toList.drop (i + 1)) a' w' → wpAny P .any ops Q fuel (listed.setIfInBounds i true) a' w' := fun a' w' h' =>
        ih (i + 1) _ a' w' (by simpa using hsz) (by have := unl_set hsz hilt h0; omega) (by omega) (by omega)
          (fun j hj => by
            rcases Nat.lt_or_ge j i with h1 | h1
            · exact getD_set_true (hon j h1)
            · obtain rfl : j = i := by omega
              have : j < listed.size := by omega
              simp [this])
          (fun j hj => by rw [getD_set_ne false (by omega)]; exact hoff j (by omega)) h'
      unfold wpOp
      simp only [hoi]
      unfold wpList at h
      split
      · rename_i hw
        rw [if_pos hw] at h
        exact h.imp (fun h => Oper.wp_mono next h) id
      · rename_i hw
        rw [if_neg hw] at h
        exact next _ _ h

theorem wpAny_of_relT {C : World → Prop} {Q : Exit → Act → World → Prop} {a0 : Act} {D : List (Oper × VT)} (hl : D.map (·.1) = ops.toList.take m) (hm : m ≤ ops.size) (hB : relBT ops m = true) (hC : ∀ w w', C w → Below n w w' → C w') (hCn : ∀ w, C w → n ≤ w.heap.size)
    (ho : ∀ (k : Nat) (o : Oper) (T : VT), D[k]? = some (o, T) → T.Stable ∧ oblT P ops n (fr k) T o (D.take k) a0 C) (hf : finT (fun a w => wpList P ops Q (ops.toList.drop m) a w) fr 0 [] D a0 C) :
    ∀ (fuel : Nat) (listed : Array Bool) (vs : Nat → Value) (w : World), listed.size = ops.size → unl ops.size listed ≤ fuel → (∀ j, m ≤ j → listed.getD j false = false) →
      (∀ (j : Nat) (oj : Oper), ops[j]? = some oj → listed.getD j false = true → ∀ e ∈ oj.after, Region.binds .any e = true → listed.getD e.on false = true) →
      (∀ (j : Nat) (o : Oper) (T : VT), D[j]? = some (o, T) → listed.getD j false = true → T (vs j) w ∧ (fr j = true → ∃ b, vs j = .pointer (some ⟨b, 0, none⟩) ∧ b < w.heap.size)) →
      (∀ i j, i < m → j < m → i ≠ j → fr i = true → fr j = true → listed.getD i false = true → listed.getD j false = true → vs i ≠ vs j) → C w →
      wpAny P .any ops Q fuel listed (fillL (fun j => listed.getD j false) vs 0 (ops.toList.take m) a0) w := by
  obtain ⟨hsel0, hlow, hB1, htl⟩ := relBT_spec hB
  have hsel := Region.noSelect_spec hsel0
  have hDl : D.length = m := by
    have := congrArg List.length hl
    simp at this
    omega
  have hDo : ∀ {j : Nat} {x : Oper × VT}, D[j]? = some x → j < m ∧ ops[j]? = some x.1 := by
    intro j x hj
    have hjm : j < m := by rw [← hDl]; exact (List.getElem?_eq_some_iff.1 hj).1
    have h1 := congrArg (fun l => l[j]?) hl
    simp only [List.getElem?_map, hj, Option.map_some, List.getElem?_take, if_pos hjm] at h1
    exact ⟨hjm, by simpa using h1.symm⟩
  have hD : ∀ (k : Nat) (o : Oper), k < m → ops[k]? = some o → ∃ T : VT, D[k]? = some (o, T) := by
    intro k o hkm hk
    have hkD : k < D.length := by omega
    have h1 := hDo (List.getElem?_eq_getElem hkD)
    rw [hk] at h1
    exact ⟨D[k].2, by rw [List.getElem?_eq_getElem hkD, Option.some.inj h1.2]⟩
  -- all the first are listed
  have hfirst : ∀ (listed : Array Bool) (vs : Nat → Value) (w : World) (fuel : Nat), listed.size = ops.size → unl ops.size listed ≤ fuel → (∀ j, j < m → listed.getD j false = true) → (∀ j, m ≤ j → listed.getD j false = false) →
      (∀ (j : Nat) (o : Oper) (T : VT), D[j]? = some (o, T) → listed.getD j false = true → T (vs j) w ∧ (fr j = true → ∃ b, vs j = .pointer (some ⟨b, 0, none⟩) ∧ b < w.heap.size)) →
      (∀ i j, i < m → j < m → i ≠ j → fr i = true → fr j = true → listed.getD i false = true → listed.getD j false = true → vs i ≠ vs j) → C w →
      wpAny P .any ops Q fuel listed (fillL (fun j => listed.getD j false) vs 0 (ops.toList.take m) a0) w := by
    intro listed vs w fuel hsz hfu hon hoff hT hne hCw
    refine wpAny_tail hB fuel m listed _ w hsz hfu (Nat.le_refl _) hm hon hoff ?_
    rw [← hl]
    refine fin_useT vs D 0 [] a0 C hf hCw fun j x hj => ?_
    rw [Nat.zero_add]
    obtain ⟨hjm, _⟩ := hDo hj
    refine ⟨hon j hjm, (hT j x.1 x.2 hj (hon j hjm)).1, fun hfj => ⟨by simp, fun i hi hfi => ?_⟩⟩
    rw [Nat.zero_add] at hfi ⊢
    exact hne j i hjm (by omega) (by omega) hfj hfi (hon j hjm) (hon i (by omega))
  intro fuel
  induction fuel with
  | zero =>
    intro listed vs w hsz hfu hoff _ hT hne hCw
    refine hfirst listed vs w 0 hsz hfu (fun j hj => ?_) hoff hT hne hCw
    rcases hb : listed.getD j false with _ | _
    · exfalso
      have hjl : j < listed.size := by omega
      have := unl_set (i := j) hsz (by omega) (by simpa [hjl] using hb)
      omega
    · rfl
  | succ fuel ih =>
    intro listed vs w hsz hfu hoff hcl hT hne hCw
    by_cases hall : ∀ j, j < m → listed.getD j false = true
    · exact hfirst listed vs w (fuel + 1) hsz hfu hall hoff hT hne hCw
    refine ⟨fun hr => ?_, fun i hi => ?_⟩
    · exfalso
      apply hall
      intro j
      induction j using Nat.strongRecOn with
      | ind j ihj =>
        intro hj
        cases hb : listed.getD j false with
        | true => rfl
        | false =>
          exfalso
          have hjo : j < ops.size := by omega
          have hm' : j ∈ Region.ready .any ops listed := by
            rw [mem_ready]
            have hjl : j < listed.size := by omega
            refine ⟨by simpa [hjl] using hb, ops[j], Array.getElem?_eq_getElem hjo, fun e he hbd => ?_⟩
            have hlt := hlow j ops[j] (Array.getElem?_eq_getElem hjo) e he hbd
            exact ihj e.on hlt (by omega)
          rw [hr] at hm'
          cases hm'
    obtain ⟨h0, oi, hoi, hdeps⟩ := mem_ready.1 hi
    have hilt := (Array.getElem?_eq_some_iff.1 hoi).1
    have hioff : listed.getD i false = false := by
      have : i < listed.size := by omega
      simpa [this] using h0
    have him : i < m := by
      rcases Nat.lt_or_ge i m with h1 | h1
      · exact h1
      · exfalso
        apply hall
        intro j hj
        exact behind_listed (listed := fun j => listed.getD j false) hcl 13 j i oi hoi hdeps (htl i oi hoi h1 j (by omega))
    obtain ⟨T, hDi⟩ := hD i oi him hoi
    obtain ⟨_, hob⟩ := ho i oi T hDi
    have hlater : ∀ j oj, ops[j]? = some oj → i < j → listed.getD j false = true → oi.apart ops oj = true := fun j oj hj hij hon => by
      have hjm : j < m := by
        rcases Nat.lt_or_ge j m with h1 | h1
        · exact h1
        · rw [hoff j h1] at hon; cases hon
      rcases hB1 j oj hj hjm i oi hij hoi with ⟨e, he, hb, hon'⟩ | h
      · have := hcl j oj hj hon e he hb
        rw [hon', hioff] at this
        cases this
      · exact h
    have hearlier : ∀ j oj, ops[j]? = some oj → j < i → oj.apart ops oi = false → listed.getD j false = true := fun j oj hj hij hna => by
      rcases hB1 i oi hoi him j oj hij hj with ⟨e, he, hb, hon'⟩ | h
      · have := hdeps e he hb
        rwa [hon'] at this
      · rw [h] at hna; cases hna
    have hused := obl_useT (w := w) vs (D.take i) 0 a0 C hob hCw (fun j x hj hna => by
      rw [Nat.zero_add]
      rw [List.getElem?_take] at hj
      split at hj
      · rename_i hji
        exact (hT j x.1 x.2 hj (hearlier j x.1 (hDo hj).2 hji hna)).1
      · cases hj)
    have hrel : relAt P ops n false (TF (fr i) T w) oi (fillL (fun j => listed.getD j false) vs 0 (ops.toList.take m) a0) w := by
      refine Agree.rel (hsel i oi · · hoi) ?_ hused
      have hsplit : ops.toList.take m = (D.take i).map (·.1) ++ (ops.toList.take m).drop i := by
        rw [← hl, List.map_take, List.take_append_drop]
      have hfa : ∀ (on : Nat → Bool) (l1 l2 : List Oper) (k : Nat) (a : Act), fillL on vs k (l1 ++ l2) a = fillL on vs (k + l1.length) l2 (fillL on vs k l1 a) := by
        intro on l1
        induction l1 with
        | nil => intro l2 k a; rfl
        | cons x l1 ih => intro l2 k a; simp only [List.cons_append, fillL, List.length_cons]; rw [ih]; congr 1; omega
      have hlen : ((D.take i).map (·.1)).length = i := by simp; omega
      have h1 : Agree ops oi (fillL (fun j => match (D.take i)[j - 0]? with | some x => !x.1.apart ops oi | none => false) vs 0 ((D.take i).map (·.1)) a0) (fillL (fun j => listed.getD j false) vs 0 ((D.take i).map (·.1)) a0) := by
        refine fillL_agree _ _ _ _ (Agree.refl _ _) fun j oj hj hne x hx => ?_
        rw [List.getElem?_map] at hj
        cases hd : (D.take i)[j]? with
        | none => rw [hd] at hj; simp at hj
        | some y =>
          rw [hd] at hj
          simp at hj
          subst hj
          have hji : j < i := by
            have := (List.getElem?_eq_some_iff.1 hd).1
            simp at this
            omega
          rw [List.getElem?_take, if_pos hji] at hd
          have hoj := (hDo hd).2
          have hyy : (D.take i)[j]? = some y := by rw [List.getElem?_take, if_pos hji]; exact hd
          simp only [Nat.zero_add, Nat.sub_zero, hyy] at hne
          cases hap : y.1.apart ops oi with
          | true => exact (Oper.apart_spec hap).1 x hx
          | false =>
            rw [hap, hearlier j y.1 hoj hji hap] at hne
            exact absurd rfl hne
      rw [hsplit, hfa, hlen]
      have h2 : ∀ (l : List Oper) (k : Nat) (a : Act), (∀ j oj, l[j]? = some oj → listed.getD (k + j) false = true → ∀ x, oj.dst = some x → x ∉ oi.looksAt ops) → Agree ops oi a (fillL (fun j => listed.getD j false) vs k l a) := by
        intro l k a hh
        have := fillL_agree (ops := ops) (o := oi) (on := fun _ => false) (on' := fun j => listed.getD j false) (vs := vs) l k a a (Agree.refl _ _) (fun j oj hj hne x hx => hh j oj hj (by
          cases hb : listed.getD (k + j) false with
          | true => rfl
          | false => exact absurd hb.symm hne) x hx)
        have hz : ∀ (l : List Oper) (k : Nat) (a : Act), fillL (fun _ => false) vs k l a = a := by
          intro l
          induction l with
          | nil => intro k a; rfl
          | cons o l ih => intro k a; simp only [fillL, Bool.false_eq_true, if_false]; exact ih _ _
        rwa [hz] at this
      refine fun t ht => (h1 t ht).trans (h2 ((ops.toList.take m).drop i) (0 + i) _ (fun j oj hj hon x hx => ?_) t ht)
      rw [List.getElem?_drop, List.getElem?_take] at hj
      split at hj
      · have hoj : ops[i + j]? = some oj := by simpa using hj
        rw [Nat.zero_add] at hon
        rcases Nat.eq_zero_or_pos j with rfl | hpos
        · rw [Nat.add_zero, hioff] at hon; cases hon
        · exact (Oper.apart_spec (hlater (i + j) oj hoj (by omega) hon)).2.2 x hx
      · cases hj
    have next : ∀ v w', Below w.heap.size w w' → TF (fr i) T w v w' → wpAny P .any ops Q fuel (listed.setIfInBounds i true) ((fillL (fun j => listed.getD j false) vs 0 (ops.toList.take m) a0).put oi.dst v) w' := by
      rintro v w' hb ⟨hv, hvf⟩
      have hbn : Below n w w' := hb.mono (hCn w hCw)
      have hoiT : (ops.toList.take m)[i]? = some oi := by rw [List.getElem?_take, if_pos him]; simpa using hoi
      rw [fillL_set (i := i) (oi := oi) (ops.toList.take m) 0 a0 (Nat.zero_le _) (by simpa using hoiT) hioff (fun j oj hj hij hon x hx => by
        rw [Nat.zero_add] at hij hon
        rw [List.getElem?_take] at hj
        split at hj
        · exact (Oper.apart_spec (hlater j oj (by simpa using hj) hij hon)).2.1 x hx
        · cases hj)]
      have hset : ∀ j, j < ops.size → (j == i || listed.getD j false) = (listed.setIfInBounds i true).getD j false := by
        intro j hj
        by_cases hji : j = i
        · subst hji
          have : j < listed.size := by omega
          simp [this]
        · rw [getD_set_ne false (Ne.symm hji)]
          simp [hji]
      rw [fillL_ext (on' := fun j => (listed.setIfInBounds i true).getD j false) (vs' := fun j => if j = i then v else vs j) (ops.toList.take m) 0 a0 (fun j _ hj => ⟨hset j (by simp at hj; omega), fun _ => rfl⟩)]
      have hold : ∀ j, (listed.setIfInBounds i true).getD j false = true → j ≠ i → listed.getD j false = true := fun j hon hji => by
        rwa [getD_set_ne false (Ne.symm hji)] at hon
      refine ih _ _ w' (by simpa using hsz) (by have := unl_set hsz hilt h0; omega) (fun j hj => by rw [getD_set_ne false (by omega)]; exact hoff j hj) (fun j oj hj hon e he hbd => ?_) (fun j o T' hj hon => ?_) (fun j k hj hk hjk hfj hfk hoj hok => ?_) (hC w w' hCw hbn)
      · by_cases hji : j = i
        · subst hji
          rw [hoi] at hj
          injection hj with hj
          subst hj
          exact getD_set_true (hdeps e he hbd)
        · exact getD_set_true (hcl j oj hj (hold j hon hji) e he hbd)
      · by_cases hji : j = i
        · subst hji
          rw [hDi] at hj
          injection hj with hj
          injection hj with e1 e2
          subst e1 e2
          rw [if_pos rfl]
          refine ⟨hv, fun hf => ?_⟩
          obtain ⟨b, h1, _, h3⟩ := hvf hf
          exact ⟨b, h1, h3⟩
        · simp only [if_neg hji]
          have hTj := hT j o T' hj (hold j hon hji)
          refine ⟨(ho j o T' hj).1 _ _ _ hb hTj.1, fun hf => ?_⟩
          obtain ⟨b, h1, h2⟩ := hTj.2 hf
          exact ⟨b, h1, Nat.lt_of_lt_of_le h2 hb.size⟩
      · have hfresh : ∀ k, k < m → k ≠ i → fr k = true → fr i = true → (listed.setIfInBounds i true).getD k false = true → v ≠ vs k := fun k hk hki hfk hfi hok => by
          obtain ⟨b, h1, h2, _⟩ := hvf hfi
          obtain ⟨Tk, hDk⟩ := hD k ops[k] hk (Array.getElem?_eq_getElem (by omega))
          obtain ⟨b', h1', h2'⟩ := (hT k _ Tk hDk (hold k hok hki)).2 hfk
          rw [h1, h1']
          intro h
          injection h with h
          injection h with h
          injection h with h
          omega
        by_cases hji : j = i
        · subst hji
          rw [if_pos rfl, if_neg (Ne.symm hjk)]
          exact hfresh k hk (Ne.symm hjk) hfk hfj hok
        · by_cases hki : k = i
          · subst hki
            rw [if_pos rfl, if_neg hji]
            exact fun h => hfresh j hj hji hfj hfk hoj h.symm
          · rw [if_neg hji, if_neg hki]
            exact hne j k hj hk hjk hfj hfk (hold j hoj hji) (hold k hok hki)
    unfold wpOp
    simp only [hoi]
    unfold relAt at hrel
    rw [show reach n false w = w.heap.size from rfl] at hrel
    split
    · rename_i hw
      rw [if_pos hw] at hrel
      refine .inl ?_
      unfold Oper.wp
      generalize (execOp (fillL (fun j => listed.getD j false) vs 0 (ops.toList.take m) a0).eval oi).run P w = r at hrel
      cases r with
      | ok n w' =>
        cases n <;> simp only [relUpon] at hrel <;> simp only [Oper.upon]
        case value u => exact next u w' hrel.1 hrel.2
        case skip => exact next undef w' hrel.1 hrel.2
        case enter f args =>
          exact hrel.mono fun e w'' ⟨v, he, h1, h2⟩ => by subst he; exact next v w'' h1 h2
      | halt x w' => simp only [relUpon] at hrel
    · rename_i hw
      rw [if_neg hw] at hrel
      exact next undef w (Below.refl _ _) hrel

/-- **A region that draws and ends in operations of a fixed order.** -/
theorem wp_region_tail {id : Nat} {Q : Exit → Act → World → Prop} {a : Act} {w : World} {l : List Oper} (n m : Nat) (fr : Nat → Bool) (hn : n ≤ w.heap.size) (hmx : P.follows .mixedOrders = true) (hm : decide (m ≤ l.length) = true) (hB : relBT l.toArray m = true)
    (h : wpRelT P l.toArray n fr (Below n w) (fun a' w' => wpList P l.toArray Q (l.drop m) a' w') a [] (l.take m)) : (Code.region id l.toArray true).wp P Q a w := by
  have hm' : m ≤ l.length := by simpa using hm
  obtain ⟨D, h1, _, h3, h4⟩ := wpRelT_all _ [] h
  refine wp_region_any hmx ?_
  have := wpAny_of_relT (Q := Q) (ops := l.toArray) (D := D) (a0 := a) (m := m) (fr := fr) (C := Below n w) (by simpa using h1) (by simpa using hm') hB (fun w1 w2 hb hb' => hb.trans hb') (fun w1 hb => Nat.le_trans hn hb.size)
    (fun k o T hk => h3 k o T (Nat.zero_le _) hk) h4 l.toArray.size (Array.replicate l.toArray.size false) (fun _ => undef) { w with drawn := w.drawn + 1 } (by simp)
    (by unfold unl; exact Nat.le_trans (List.length_filter_le _ _) (by simp)) (fun j _ => getD_rep _ _) (fun j oj _ hon => by rw [getD_rep] at hon; cases hon) (fun j o T _ hon => by rw [getD_rep] at hon; cases hon) (fun i j _ _ _ _ _ hon _ => by rw [getD_rep] at hon; cases hon) ⟨rfl, rfl, rfl, Nat.le_refl _, fun _ _ => rfl⟩
  have hz : ∀ (l : List Oper) (on : Nat → Bool) (k : Nat) (a : Act), (∀ j, on j = false) → fillL on (fun _ => undef) k l a = a := by
    intro l on
    induction l with
    | nil => intro k a _; rfl
    | cons o l ih => intro k a hon; simp only [fillL, hon, Bool.false_eq_true, if_false]; exact ih _ _ hon
  rwa [hz _ _ _ _ (fun j => getD_rep _ _)] at this

variable {C : World → Prop} {Q : Act → World → Prop} {a0 a : Act} {done rest : List (Oper × VT)} {later : List Oper} {o oj : Oper} {T : VT} {H : World → Prop} {f : Bool}
theorem finT_mono : ∀ (rest : List (Oper × VT)) (k : Nat) (seen : List Value) (a : Act) (H H' : World → Prop), (∀ w, H' w → H w) → finT Q fr k seen rest a H → finT Q fr k seen rest a H'
  | [], _, _, _, _, _, hh, h => fun w hw => h w (hh w hw)
  | _ :: rest, k, _, _, _, _, hh, h => fun v => finT_mono rest (k + 1) _ _ _ _ (fun w hw => ⟨hh w hw.1, hw.2⟩) (h v)
theorem finT_false : ∀ (rest : List (Oper × VT)) (k : Nat) (seen : List Value) (a : Act) (H : World → Prop), (∀ w, ¬ H w) → finT Q fr k seen rest a H
  | [], _, _, _, _, hh => fun w hw => absurd hw (hh w)
  | _ :: rest, k, _, _, _, hh => fun _ => finT_false rest (k + 1) _ _ _ (fun w hw => hh w hw.1)
theorem finT_det {k : Nat} {seen : List Value} {x : Value} (hf : fr k = false) (h : finT Q fr (k + 1) seen rest (a.put o.dst x) H) : finT Q fr k seen ((o, IsV x) :: rest) a H := by
  intro v
  simp only [hf, Bool.false_eq_true, if_false]
  by_cases hv : v = x
  · subst hv; exact finT_mono _ _ _ _ _ _ (fun w hw => hw.1) h
  · exact finT_false _ _ _ _ _ (fun w hw => hv hw.2.1)
theorem finT_var {k : Nat} {seen : List Value} {T : VT} (hf : fr k = false) (h : ∀ v, finT Q fr (k + 1) seen rest (a.put o.dst v) (fun w => H w ∧ T v w)) : finT Q fr k seen ((o, T) :: rest) a H := by
  intro v
  simp only [hf, Bool.false_eq_true, if_false]
  exact finT_mono _ _ _ _ _ _ (fun _ hw => ⟨hw.1, hw.2.1⟩) (h v)
theorem finT_fresh {k : Nat} {seen : List Value} {T : VT} (hf : fr k = true) (h : ∀ v, finT Q fr (k + 1) (v :: seen) rest (a.put o.dst v) (fun w => H w ∧ T v w ∧ v ∉ seen)) : finT Q fr k seen ((o, T) :: rest) a H := by
  intro v
  simp only [hf, if_true]
  exact finT_mono _ _ _ _ _ _ (fun _ hw => ⟨hw.1, hw.2.1, hw.2.2 trivial⟩) (h v)
end
end Go.Proofs.Ytpnfpdkoeednhaa
namespace Go.Proofs.Ytpnfpdkoeednhaa
open Go.RowKit

abbrev Ent := Oper × (Value ⊕ VT)
def Ent.vt (x : Ent) : Oper × VT := (x.1, match x.2 with | .inl v => IsV v | .inr T => T)
section
variable {P : Program} {ops : Array Oper} {n : Nat} {fr : Nat → Bool} {C : World → Prop} {Q : Act → World → Prop} {a0 : Act} {done : List Ent} {later : List Oper} {o : Oper} {T : VT}

/-- What is left to show of one operation, in its frame. -/
def oblS (E : Act → (World → Prop) → Prop) : List Ent → List Bool → Act → (World → Prop) → Prop
  | (oj, .inl x) :: rest, true :: mask, a, H => oblS E rest mask (a.put oj.dst x) H
  | (oj, .inr T) :: rest, true :: mask, a, H => ∀ v, oblS E rest mask (a.put oj.dst v) (fun w => H w ∧ T v w)
  | _ :: rest, false :: mask, a, H => oblS E rest mask a H
  | _, _, a, H => E a H
theorem oblT_H {f : Bool} : ∀ (rest : List (Oper × VT)) (a : Act) (H H' : World → Prop), (∀ w, H' w → H w) → oblT P ops n f T o rest a H → oblT P ops n f T o rest a H'
  | [], _, _, _, hh, h => fun w hw => h w (hh w hw)
  | y :: rest, a, H, H', hh, h => by
    rw [oblT] at h ⊢
    split
    · rename_i hap; rw [if_pos hap] at h; exact oblT_H rest _ _ _ hh h
    · rename_i hap; rw [if_neg hap] at h; exact fun v => oblT_H rest _ _ _ (fun w hw => ⟨hh w hw.1, hw.2⟩) (h v)
theorem oblT_no {f : Bool} : ∀ (rest : List (Oper × VT)) (a : Act) (H : World → Prop), (∀ w, ¬ H w) → oblT P ops n f T o rest a H
  | [], _, _, hh => fun w hw => absurd hw (hh w)
  | y :: rest, a, H, hh => by
    rw [oblT]
    split
    · exact oblT_no rest _ _ hh
    · exact fun v => oblT_no rest _ _ (fun w hw => hh w hw.1)
theorem oblS_use {f : Bool} {E : Act → (World → Prop) → Prop} (hE : ∀ a H, E a H → ∀ w, H w → relAt P ops n false (TF f T w) o a w) : ∀ (done : List Ent) (mask : List Bool) (a : Act) (H : World → Prop), (done.map fun x => !x.1.apart ops o) = mask → oblS E done mask a H → oblT P ops n f T o (done.map Ent.vt) a H
  | [], _, a, H, hm, h => by
    subst hm
    exact hE a H h
  | (oj, x) :: rest, _, a, H, hm, h => by
    subst hm
    simp only [List.map_cons]
    unfold oblT
    cases hap : oj.apart ops o with
    | true =>
      simp only [Ent.vt, hap, if_true]
      refine oblS_use hE rest _ a H rfl ?_
      simp only [List.map_cons, hap, Bool.not_true] at h
      cases x <;> exact h
    | false =>
      simp only [Ent.vt, hap, Bool.false_eq_true, if_false]
      intro v
      simp only [List.map_cons, hap, Bool.not_false] at h
      cases x with
      | inl x =>
        by_cases hv : v = x
        · subst hv
          exact oblT_H _ _ _ _ (fun w hw => hw.1) (oblS_use hE rest _ _ _ rfl h)
        · exact oblT_no _ _ _ (fun w hw => hv hw.2)
      | inr T' => exact oblS_use hE rest _ _ _ rfl (h v)

def wpRelS (P : Program) (ops : Array Oper) (n : Nat) (fr : Nat → Bool) (C : World → Prop) (Q : Act → World → Prop) (a0 : Act) (done : List Ent) (rest : List Oper) : Prop := wpRelT P ops n fr C Q a0 (done.map Ent.vt) rest
theorem wp_region_S {id : Nat} {Q : Exit → Act → World → Prop} {a : Act} {w : World} {l : List Oper} (n m : Nat) (fr : Nat → Bool) (hn : n ≤ w.heap.size) (hmx : P.follows .mixedOrders = true) (hm : decide (m ≤ l.length) = true) (hB : relBT l.toArray m = true)
    (h : wpRelS P l.toArray n fr (Below n w) (fun a' w' => wpList P l.toArray Q (l.drop m) a' w') a [] (l.take m)) : (Code.region id l.toArray true).wp P Q a w :=
  wp_region_tail n m fr hn hmx hm hB h
/-- The order of the text is one of the orders. -/
theorem wpList_of_any {m : Nat} {Q : Exit → Act → World → Prop} (hB : relBT ops m = true) : ∀ (fuel k : Nat) (listed : Array Bool) (a : Act) (w : World), listed.size = ops.size → k + fuel = ops.size →
    (∀ j, j < k → listed.getD j false = true) → (∀ j, k ≤ j → listed.getD j false = false) → wpAny P .any ops Q fuel listed a w → wpList P ops Q (ops.toList.drop k) a w := by
  obtain ⟨_, hlow, _, _⟩ := relBT_spec hB
  intro fuel
  induction fuel with
  | zero =>
    intro k listed a w hsz hk hon hoff h
    rw [List.drop_of_length_le (by simp; omega)]
    exact h.2
  | succ fuel ih =>
    intro k listed a w hsz hk hon hoff h
    have hlt : k < ops.size := by omega
    have ho : ops[k]? = some ops[k] := Array.getElem?_eq_getElem hlt
    have hm : k ∈ Region.ready .any ops listed := by
      rw [mem_ready]
      have hkl : k < listed.size := by omega
      exact ⟨by have := hoff k (Nat.le_refl _); simpa [hkl] using this, ops[k], ho, fun e he hbd => hon _ (hlow k _ ho e he hbd)⟩
    have h1 := h.2 k hm
    have ho' : ops.toList[k]? = some ops[k] := by rw [Array.getElem?_toList]; exact ho
    rw [drop_cons ho']
    unfold wpOp at h1
    simp only [ho] at h1
    have next : ∀ a' w', wpAny P .any ops Q fuel (listed.setIfInBounds k true) a' w' → wpList P ops Q (ops.toList.drop (k + 1)) a' w' := fun a' w' h' =>
      ih (k + 1) _ a' w' (by simpa using hsz) (by omega)
        (fun j hj => by
          rcases Nat.lt_or_ge j k with h2 | h2
          · exact getD_set_true (hon j h2)
          · obtain rfl : j = k := by omega
            have : j < listed.size := by omega
            simp [this])
        (fun j hj => by rw [getD_set_ne false (by omega)]; exact hoff j (by omega)) h'
    unfold wpList
    split
    · rename_i hw
      rw [if_pos hw] at h1
      exact h1.imp (fun h => Oper.wp_mono next h) id
    · rename_i hw
      rw [if_neg hw] at h1
      exact next _ _ h1
/-- As wp_region_S, of a region that is carried out in the text's order. -/
theorem wp_region_SF {id : Nat} {Q : Exit → Act → World → Prop} {a : Act} {w : World} {l : List Oper} (n m : Nat) (fr : Nat → Bool) (hn : n ≤ w.heap.size) (_hmx : P.follows .mixedOrders = true) (hm : decide (m ≤ l.length) = true) (hB : relBT l.toArray m = true)
    (h : wpRelS P l.toArray n fr (Below n w) (fun a' w' => wpList P l.toArray Q (l.drop m) a' w') a [] (l.take m)) : (Code.region id l.toArray false).wp P Q a w := by
  have hm' : m ≤ l.length := by simpa using hm
  obtain ⟨D, h1, _, h3, h4⟩ := wpRelT_all _ [] (show wpRelT P l.toArray n fr (Below n w) (fun a' w' => wpList P l.toArray Q (l.drop m) a' w') a [] (l.take m) from h)
  have := wpAny_of_relT (Q := Q) (ops := l.toArray) (D := D) (a0 := a) (m := m) (fr := fr) (C := Below n w) (by simpa using h1) (by simpa using hm') hB (fun w1 w2 hb hb' => hb.trans hb') (fun w1 hb => Nat.le_trans hn hb.size)
    (fun k o T hk => h3 k o T (Nat.zero_le _) hk) h4 l.toArray.size (Array.replicate l.toArray.size false) (fun _ => undef) w (by simp)
    (by unfold unl; exact Nat.le_trans (List.length_filter_le _ _) (by simp)) (fun j _ => getD_rep _ _) (fun j oj _ hon => by rw [getD_rep] at hon; cases hon) (fun j o T _ hon => by rw [getD_rep] at hon; cases hon) (fun i j _ _ _ _ _ hon _ => by rw [getD_rep] at hon; cases hon) (Below.refl _ _)
  have hz : ∀ (l : List Oper) (on : Nat → Bool) (k : Nat) (a : Act), (∀ j, on j = false) → fillL on (fun _ => undef) k l a = a := by
    intro l on
    induction l with
    | nil => intro k a _; rfl
    | cons o l ih => intro k a hon; simp only [fillL, hon, Bool.false_eq_true, if_false]; exact ih _ _ hon
  rw [hz _ _ _ _ (fun j => getD_rep _ _)] at this
  exact wp_region_list (by simpa using wpList_of_any hB l.toArray.size 0 _ a w (by simp) (by simp) (fun j hj => by omega) (fun j _ => getD_rep _ _) this)
theorem relS_step {x : Value ⊕ VT} (hT : (Ent.vt (o, x)).2.Stable) (h : oblT P ops n (fr done.length) (Ent.vt (o, x)).2 o (done.map Ent.vt) a0 C) (hr : wpRelS P ops n fr C Q a0 (done ++ [(o, x)]) later) : wpRelS P ops n fr C Q a0 done (o :: later) := by
  refine ⟨_, hT, by simpa using h, ?_⟩
  unfold wpRelS at hr
  rw [List.map_append] at hr
  exact hr

theorem TF_false {w : World} {v : Value} {w' : World} (h : T v w') : TF false T w v w' := ⟨h, fun h => by cases h⟩
theorem relUpon_mono {m : Nat} {w : World} {T T' : VT} (hT : ∀ v w', T v w' → T' v w') {r : Result Next} (h : relUpon P m w T r) : relUpon P m w T' r := by
  cases r with
  | ok x w' =>
    cases x with
    | value u => exact ⟨h.1, hT _ _ h.2⟩
    | skip => exact ⟨h.1, hT _ _ h.2⟩
    | enter f args => exact Calls.mono h fun _ _ ⟨v, h1, h2, h3⟩ => ⟨v, h1, h2, hT _ _ h3⟩
    | _ => exact h
  | halt x w' => exact h
/-- No guard. -/
theorem relS_free {f : Bool} (hg : o.guard = none) (a : Act) (H : World → Prop) (h : ∀ w, H w → relUpon P w.heap.size w (TF f T w) ((execOp a.eval o).run P w)) : ∀ w, H w → relAt P ops n false (TF f T w) o a w := fun w hw => by
  refine relAt_wanted ?_ (h w hw)
  unfold Region.wanted; rw [hg]
def guardIs (ops : Array Oper) (o : Oper) (t : Tmp) (want : Bool) : Bool := match o.guard with
  | some (g, b) => ((ops[g]?).bind (·.dst)) == some t && b == want
  | none => false
theorem wanted_of {t : Tmp} {want b : Bool} {a : Act} (hg : guardIs ops o t want = true) (hb : a.tmps[t]? = some (.bool b)) : Region.wanted o (yielded ops a.tmps) = (b == want) := by
  unfold guardIs at hg
  split at hg
  · rename_i g b' hgu
    simp only [Bool.and_eq_true, beq_iff_eq] at hg
    unfold Region.wanted yielded
    rw [hgu]
    simp only [hg.1, Option.bind_some, hb, hg.2]
    cases b <;> cases want <;> rfl
  · cases hg
theorem relS_wanted {f : Bool} (t : Tmp) (want : Bool) (hg : guardIs ops o t want = true) (a : Act) (H : World → Prop) (h : a.tmps[t]? = some (.bool want) ∧ ∀ w, H w → relUpon P w.heap.size w (TF f T w) ((execOp a.eval o).run P w)) : ∀ w, H w → relAt P ops n false (TF f T w) o a w := fun w hw => by
  refine relAt_wanted ?_ (h.2 w hw)
  rw [wanted_of hg h.1]; simp
theorem relS_unwanted {f : Bool} (t : Tmp) (want : Bool) (hg : guardIs ops o t want = true) (a : Act) (H : World → Prop) (h : a.tmps[t]? = some (.bool (!want)) ∧ ∀ w, H w → TF f T w undef w) : ∀ w, H w → relAt P ops n false (TF f T w) o a w := fun w hw => by
  refine relAt_not ?_ (h.2 w hw)
  rw [wanted_of hg h.1]; cases want <;> rfl

/-- Told by its value; no guard. -/
theorem relS_det (mask : List Bool) {x : Value} (hf : fr done.length = false) (hg : o.guard.isNone = true) (hm : (done.map fun x => !x.1.apart ops o) = mask) (h : oblS (fun a H => ∀ w, H w → relUpon P w.heap.size w (IsV x) ((execOp a.eval o).run P w)) done mask a0 C)
    (hr : wpRelS P ops n fr C Q a0 (done ++ [(o, .inl x)]) later) : wpRelS P ops n fr C Q a0 done (o :: later) :=
  relS_step (x := .inl x) (IsV.stable x) (by rw [hf]; exact oblS_use (fun a H h => relS_free (by simpa using hg) a H fun w hw => relUpon_mono (fun _ _ h => TF_false h) (h w hw)) done mask a0 C hm h) hr
/-- Told by a predicate; no guard. -/
theorem relS_any (mask : List Bool) (T : VT) (hT : T.Stable) (hf : fr done.length = false) (hg : o.guard.isNone = true) (hm : (done.map fun x => !x.1.apart ops o) = mask) (h : oblS (fun a H => ∀ w, H w → ∀ T' : VT, (∀ u w', T u w' → T' u w') → relUpon P w.heap.size w T' ((execOp a.eval o).run P w)) done mask a0 C)
    (hr : wpRelS P ops n fr C Q a0 (done ++ [(o, .inr T)]) later) : wpRelS P ops n fr C Q a0 done (o :: later) :=
  relS_step (x := .inr T) hT (by rw [hf]; exact oblS_use (fun a H h => relS_free (by simpa using hg) a H fun w hw => h w hw _ (fun _ _ h => TF_false h)) done mask a0 C hm h) hr
/-- Told by its value; a guard lets it. -/
theorem relS_detg (mask : List Bool) (t : Tmp) (want : Bool) {x : Value} (hf : fr done.length = false) (hg : guardIs ops o t want = true) (hm : (done.map fun x => !x.1.apart ops o) = mask) (h : oblS (fun a H => a.tmps[t]? = some (.bool want) ∧ ∀ w, H w → relUpon P w.heap.size w (IsV x) ((execOp a.eval o).run P w)) done mask a0 C)
    (hr : wpRelS P ops n fr C Q a0 (done ++ [(o, .inl x)]) later) : wpRelS P ops n fr C Q a0 done (o :: later) :=
  relS_step (x := .inl x) (IsV.stable x) (by rw [hf]; exact oblS_use (fun a H h => relS_wanted t want hg a H ⟨h.1, fun w hw => relUpon_mono (fun _ _ h => TF_false h) (h.2 w hw)⟩) done mask a0 C hm h) hr
theorem relS_anyg (mask : List Bool) (t : Tmp) (want : Bool) (T : VT) (hT : T.Stable) (hf : fr done.length = false) (hg : guardIs ops o t want = true) (hm : (done.map fun x => !x.1.apart ops o) = mask) (h : oblS (fun a H => a.tmps[t]? = some (.bool want) ∧ ∀ w, H w → ∀ T' : VT, (∀ u w', T u w' → T' u w') → relUpon P w.heap.size w T' ((execOp a.eval o).run P w)) done mask a0 C)
    (hr : wpRelS P ops n fr C Q a0 (done ++ [(o, .inr T)]) later) : wpRelS P ops n fr C Q a0 done (o :: later) :=
  relS_step (x := .inr T) hT (by rw [hf]; exact oblS_use (fun a H h => relS_wanted t want hg a H ⟨h.1, fun w hw => h.2 w hw _ (fun _ _ h => TF_false h)⟩) done mask a0 C hm h) hr
/-- A guard forbids it. -/
theorem relS_not (mask : List Bool) (t : Tmp) (want : Bool) (hf : fr done.length = false) (hg : guardIs ops o t want = true) (hm : (done.map fun x => !x.1.apart ops o) = mask) (h : oblS (fun a _ => a.tmps[t]? = some (.bool (!want))) done mask a0 C)
    (hr : wpRelS P ops n fr C Q a0 (done ++ [(o, .inl undef)]) later) : wpRelS P ops n fr C Q a0 done (o :: later) :=
  relS_step (x := .inl undef) (IsV.stable undef) (by rw [hf]; exact oblS_use (fun a H h => relS_unwanted t want hg a H ⟨h, fun w _ => TF_false rfl⟩) done mask a0 C hm h) hr

/-- The end: the frame with all values. -/
def finS (Q : Act → World → Prop) (fr : Nat → Bool) : Nat → List Value → List Ent → Act → (World → Prop) → Prop
  | k, seen, (o, .inl x) :: rest, a, H => finS Q fr (k + 1) seen rest (a.put o.dst x) H
  | k, seen, (o, .inr T) :: rest, a, H => match fr k with
    | true => ∀ v, finS Q fr (k + 1) (v :: seen) rest (a.put o.dst v) (fun w => H w ∧ T v w ∧ v ∉ seen)
    | false => ∀ v, finS Q fr (k + 1) seen rest (a.put o.dst v) (fun w => H w ∧ T v w)
  | _, _, [], a, H => ∀ w, H w → Q a w
theorem finS_use : ∀ (done : List Ent) (k : Nat) (seen : List Value) (a : Act) (H : World → Prop), (∀ j o x, done[j]? = some (o, .inl x) → fr (k + j) = false) → finS Q fr k seen done a H → finT Q fr k seen (done.map Ent.vt) a H
  | [], _, _, _, _, _, h => h
  | (o, .inl x) :: rest, k, seen, a, H, hf, h => by
    have h0 : fr k = false := hf 0 o x rfl
    refine finT_det h0 (finS_use rest (k + 1) seen _ _ (fun j o' x' hj => ?_) h)
    have := hf (j + 1) o' x' (by simpa using hj)
    rwa [show k + (j + 1) = k + 1 + j by omega] at this
  | (o, .inr T) :: rest, k, seen, a, H, hf, h => by
    have hf' : ∀ j o' x', rest[j]? = some (o', .inl x') → fr (k + 1 + j) = false := fun j o' x' hj => by
      have := hf (j + 1) o' x' (by simpa using hj)
      rwa [show k + (j + 1) = k + 1 + j by omega] at this
    unfold finS at h
    cases hk : fr k with
    | true =>
      rw [hk] at h
      exact finT_fresh hk fun v => finS_use rest (k + 1) _ _ _ hf' (h v)
    | false =>
      rw [hk] at h
      exact finT_var hk fun v => finS_use rest (k + 1) _ _ _ hf' (h v)
def detB (fr : Nat → Bool) : Nat → List Ent → Bool
  | k, (_, .inl _) :: rest => !fr k && detB fr (k + 1) rest
  | k, (_, .inr _) :: rest => detB fr (k + 1) rest
  | _, [] => true
theorem detB_spec : ∀ (done : List Ent) (k : Nat), detB fr k done = true → ∀ j o x, done[j]? = some (o, .inl x) → fr (k + j) = false
  | [], _, _, j, o, x, h => by simp at h
  | (o', .inl x') :: rest, k, hd, j, o, x, h => by
    simp only [detB, Bool.and_eq_true, Bool.not_eq_true'] at hd
    cases j with
    | zero => simpa using hd.1
    | succ j =>
      have := detB_spec rest (k + 1) hd.2 j o x (by simpa using h)
      rwa [show k + (j + 1) = k + 1 + j by omega]
  | (o', .inr x') :: rest, k, hd, j, o, x, h => by
    simp only [detB] at hd
    cases j with
    | zero => simp at h
    | succ j =>
      have := detB_spec rest (k + 1) hd j o x (by simpa using h)
      rwa [show k + (j + 1) = k + 1 + j by omega]
theorem relS_end (hd : detB fr 0 done = true) (h : finS Q fr 0 [] done a0 C) : wpRelS P ops n fr C Q a0 done [] :=
  finS_use done 0 [] a0 C (detB_spec done 0 hd) h
end
end Go.Proofs.Ytpnfpdkoeednhaa

end
section
/- As RelT's law, for an operation whose guard is not decided. Over any program. -/
namespace Go.Proofs.Ytpnfpdkoeednhaa
open Go.RowKit
section
variable {P : Program} {ops : Array Oper} {n : Nat} {fr : Nat → Bool} {C : World → Prop} {Q : Act → World → Prop} {a0 : Act} {done : List Ent} {later : List Oper} {o : Oper} {T : VT}

/-- A guard that is not decided: g tells whether it lets the operation. -/
theorem wanted_iff {t : Tmp} {want g : Bool} {a : Act} {v : Value} (hg : guardIs ops o t want = true) (hv : a.tmps[t]? = some v) (h1 : g = true → v = .bool want) (h2 : g = false → v ≠ .bool want) : Region.wanted o (yielded ops a.tmps) = g := by
  unfold guardIs at hg
  split at hg
  · rename_i gi b' hgu
    simp only [Bool.and_eq_true, beq_iff_eq] at hg
    unfold Region.wanted yielded
    rw [hgu]
    simp only [hg.1, Option.bind_some, hv, hg.2]
    cases g with
    | true => rw [h1 rfl]; cases want <;> rfl
    | false =>
      have := h2 rfl
      cases v <;> try rfl
      rename_i b
      cases b <;> cases want <;> first | rfl | exact absurd rfl this
  · cases hg
theorem guard_free {X g want : Bool} (h : g = (X == want)) : (g = true → Value.bool X = .bool want) ∧ (g = false → Value.bool X ≠ .bool want) := by
  subst h
  cases X <;> cases want <;> simp
theorem guard_in {c X g want : Bool} (h : g = (c && (X == want))) : (g = true → (if c = true then Value.bool X else undef) = .bool want) ∧ (g = false → (if c = true then Value.bool X else undef) ≠ .bool want) := by
  subst h
  cases c <;> cases X <;> cases want <;> simp [undef]
theorem relS_if (mask : List Bool) (t : Tmp) (want g : Bool) {x : Value} (hf : fr done.length = false) (hg : guardIs ops o t want = true) (hm : (done.map fun x => !x.1.apart ops o) = mask)
    (h : oblS (fun a H => (∃ v, a.tmps[t]? = some v ∧ (g = true → v = .bool want) ∧ (g = false → v ≠ .bool want)) ∧ (g = true → ∀ w, H w → relUpon P w.heap.size w (IsV x) ((execOp a.eval o).run P w))) done mask a0 C)
    (hr : wpRelS P ops n fr C Q a0 (done ++ [(o, .inl (if g = true then x else undef))]) later) : wpRelS P ops n fr C Q a0 done (o :: later) :=
  relS_step (x := .inl (if g = true then x else undef)) (IsV.stable _) (by
    rw [hf]
    refine oblS_use (fun a H h => ?_) done mask a0 C hm h
    obtain ⟨⟨v, hv, h1, h2⟩, h3⟩ := h
    intro w hw
    have hwt := wanted_iff hg hv h1 h2
    cases g with
    | true =>
      refine relAt_wanted hwt ?_
      exact relUpon_mono (fun _ _ h => TF_false (by simpa [Ent.vt] using h)) (h3 rfl w hw)
    | false => exact relAt_not hwt (TF_false rfl)) hr
/-- The end, where of some values nothing is wanted any more. -/
def finK (Q : Act → World → Prop) (fr : Nat → Bool) : Nat → List Value → List Ent → List Bool → Act → (World → Prop) → Prop
  | k, seen, (o, _) :: rest, false :: keep, a, H => ∀ v, finK Q fr (k + 1) seen rest keep (a.put o.dst v) H
  | k, seen, (o, .inl x) :: rest, true :: keep, a, H => finK Q fr (k + 1) seen rest keep (a.put o.dst x) H
  | k, seen, (o, .inr T) :: rest, true :: keep, a, H => match fr k with
    | true => ∀ v, finK Q fr (k + 1) (v :: seen) rest keep (a.put o.dst v) (fun w => H w ∧ T v w ∧ v ∉ seen)
    | false => ∀ v, finK Q fr (k + 1) seen rest keep (a.put o.dst v) (fun w => H w ∧ T v w)
  | _, _, _, _, a, H => ∀ w, H w → Q a w
def keepB (fr : Nat → Bool) : Nat → List Ent → List Bool → Bool
  | k, _ :: rest, b :: keep => (b || !fr k) && keepB fr (k + 1) rest keep
  | _, [], [] => true
  | _, _, _ => false
theorem finS_H : ∀ (done : List Ent) (k : Nat) (seen : List Value) (a : Act) (H H' : World → Prop), (∀ w, H' w → H w) → finS Q fr k seen done a H → finS Q fr k seen done a H'
  | [], _, _, _, _, _, hh, h => fun w hw => h w (hh w hw)
  | (o, .inl x) :: rest, k, seen, a, H, H', hh, h => finS_H rest (k + 1) seen _ H H' hh h
  | (o, .inr T) :: rest, k, seen, a, H, H', hh, h => by
    unfold finS at h ⊢
    cases hk : fr k with
    | true => rw [hk] at h; exact fun v => finS_H rest (k + 1) _ _ _ _ (fun w hw => ⟨hh w hw.1, hw.2⟩) (h v)
    | false => rw [hk] at h; exact fun v => finS_H rest (k + 1) _ _ _ _ (fun w hw => ⟨hh w hw.1, hw.2⟩) (h v)
theorem finK_use : ∀ (done : List Ent) (keep : List Bool) (k : Nat) (seen : List Value) (a : Act) (H : World → Prop), keepB fr k done keep = true → finK Q fr k seen done keep a H → finS Q fr k seen done a H
  | [], [], _, _, _, _, _, h => h
  | [], _ :: _, _, _, _, _, hk, _ => by simp [keepB] at hk
  | (o, .inl x) :: rest, true :: keep, k, seen, a, H, hk, h => finK_use rest keep (k + 1) seen _ H (by simp [keepB] at hk; exact hk) h
  | (o, .inr T) :: rest, true :: keep, k, seen, a, H, hk, h => by
    have hk' : keepB fr (k + 1) rest keep = true := by simp [keepB] at hk; exact hk
    unfold finK at h
    unfold finS
    cases hf : fr k with
    | true => rw [hf] at h; exact fun v => finK_use rest keep (k + 1) _ _ _ hk' (h v)
    | false => rw [hf] at h; exact fun v => finK_use rest keep (k + 1) _ _ _ hk' (h v)
  | (o, .inl x) :: rest, false :: keep, k, seen, a, H, hk, h => finK_use rest keep (k + 1) seen _ H (by simp [keepB] at hk; exact hk.2) (h x)
  | (o, .inr T) :: rest, false :: keep, k, seen, a, H, hk, h => by
    simp only [keepB, Bool.and_eq_true, Bool.false_or, Bool.not_eq_true'] at hk
    unfold finK at h
    unfold finS
    rw [hk.1]
    exact fun v => finS_H rest (k + 1) seen _ H _ (fun w hw => hw.1) (finK_use rest keep (k + 1) seen _ H hk.2 (h v))
  | _ :: _, [], _, _, _, _, hk, _ => by simp [keepB] at hk
theorem relS_endK (keep : List Bool) (hd : detB fr 0 done = true) (hk : keepB fr 0 done keep = true) (h : finK Q fr 0 [] done keep a0 C) : wpRelS P ops n fr C Q a0 done [] :=
  relS_end hd (finK_use done keep 0 [] a0 C hk h)
end
end Go.Proofs.Ytpnfpdkoeednhaa

end
section
/- As Rel, with one thing more told of the world behind the region: it has drawn no less. Over any program. -/
namespace Go.Proofs.Ytpnfpdkoeednhaa.RelD
open Go.RowKit Go.Sort

/-- Below, and no draw is taken back. -/
structure BelowD (n : Nat) (w w' : World) : Prop where
  b : Below n w w'
  d : w.drawn ≤ w'.drawn
namespace BelowD
variable {n m : Nat} {A B C : World}
theorem refl (n : Nat) (w : World) : BelowD n w w := ⟨Below.refl n w, Nat.le_refl _⟩
theorem trans (h : BelowD n A B) (k : BelowD n B C) : BelowD n A C := ⟨h.b.trans k.b, Nat.le_trans h.d k.d⟩
theorem mono (h : BelowD n A B) (hm : m ≤ n) : BelowD m A B := ⟨h.b.mono hm, h.d⟩
theorem alloc (h : BelowD n A B) (hn : n ≤ B.heap.size) (o : Obj) : BelowD n A (B.alloc o) := ⟨h.b.alloc hn o, h.d⟩
theorem drew (h : BelowD n A B) : BelowD n A B.drew := ⟨h.b.drew, Nat.le_succ_of_le h.d⟩
theorem size (h : BelowD n A B) : A.heap.size ≤ B.heap.size := h.b.size
theorem block (h : BelowD n A B) : ∀ k, k < n → B.heap[k]? = A.heap[k]? := h.b.block
/-- It has grown. -/
theorem grown (h : BelowD A.heap.size A B) : ∃ q os, B = grow (A.drewN q) os := by
  refine ⟨B.drawn - A.drawn, B.heap.extract A.heap.size B.heap.size, ?_⟩
  obtain ⟨⟨h1, h2, h3, h4, h5⟩, h6⟩ := h
  obtain ⟨hB, tB, dB, oB, uB⟩ := B
  obtain ⟨hA, tA, dA, oA, uA⟩ := A
  simp only at *
  subst h1 h2 h3
  simp only [grow, World.drewN, World.mk.injEq, true_and, and_true]
  refine ⟨?_, by omega⟩
  apply Array.ext_getElem?
  intro i
  rw [Array.getElem?_append]
  split
  · rename_i hi
    exact h5 i hi
  · rename_i hi
    rw [Array.getElem?_extract]
    split
    · rw [show hA.size + (i - hA.size) = i by omega]
    · rw [Array.getElem?_eq_none (by omega)]
end BelowD

/-- What is told of a value, in a world. -/
abbrev VT := Value → World → Prop
/-- It stays true where all memory that is there stays as it is. -/
def VT.Stable (T : VT) : Prop := ∀ v w w', BelowD w.heap.size w w' → T v w → T v w'
/-- It stays true whatever happens to the blocks from n on. -/
def VT.Robust (n : Nat) (T : VT) : Prop := ∀ v w w', n ≤ w.heap.size → BelowD n w w' → T v w → T v w'
def IsV (x : Value) : VT := fun v _ => v = x
theorem IsV.stable (x : Value) : (IsV x).Stable := fun _ _ _ _ h => h
theorem IsV.robust (n : Nat) (x : Value) : (IsV x).Robust n := fun _ _ _ _ _ h => h

section
variable {P : Program} {ops : Array Oper} {n : Nat} {wk : Bool} {weak frag : Nat → Bool}

/-- How far an operation may turn the world: a weak one may turn what lies from n on. -/
def reach (n : Nat) (weak : Bool) (w : World) : Nat := if weak = true then n else w.heap.size
def relUpon (P : Program) (m : Nat) (w : World) (T : VT) : Result Next → Prop
  | .ok (.value u) w' => BelowD m w w' ∧ T u w'
  | .ok .skip w' => BelowD m w w' ∧ T undef w'
  | .ok (.enter f args) w' => Calls P f args w' fun e w'' => ∃ v, e = .returned v ∧ BelowD m w w'' ∧ T v w''
  | _ => False
def relAt (P : Program) (ops : Array Oper) (n : Nat) (weak : Bool) (T : VT) (o : Oper) (a : Act) (w : World) : Prop :=
  if Region.wanted o (yielded ops a.tmps) = true then relUpon P (reach n weak w) w T ((execOp a.eval o).run P w) else T undef w

/-- Two frames that an operation cannot tell apart. -/
def Agree (ops : Array Oper) (o : Oper) (a a' : Act) : Prop := ∀ t ∈ o.looksAt ops, a.tmps[t]? = a'.tmps[t]?
theorem Agree.exec {o : Oper} {a a' : Act} (hs : ∀ cs b, o.op ≠ .select cs b) (h : Agree ops o a a') : execOp a.eval o = execOp a'.eval o := by
  refine execOp_congr o hs fun x hx => ?_
  cases x with
  | tmp t =>
    have := h t (List.mem_append_left _ (List.mem_filterMap.2 ⟨.tmp t, by simpa using hx, rfl⟩))
    simp [Act.eval, this]
  | _ => rfl
theorem Agree.wanted {o : Oper} {a a' : Act} (h : Agree ops o a a') : Region.wanted o (yielded ops a.tmps) = Region.wanted o (yielded ops a'.tmps) := by
  unfold Region.wanted
  cases hg : o.guard with
  | none => rfl
  | some gw =>
    obtain ⟨g, want⟩ := gw
    have hy : yielded ops a.tmps g = yielded ops a'.tmps g := by
      unfold yielded
      cases ht : (ops[g]?).bind (·.dst) with
      | none => rfl
      | some t =>
        have := h t (by simp [Oper.looksAt, hg, ht])
        simp [this]
    simp only [hy]
theorem Agree.rel {T : VT} {o : Oper} {a a' : Act} {w : World} (hs : ∀ cs b, o.op ≠ .select cs b) (h : Agree ops o a a') (hr : relAt P ops n wk T o a w) : relAt P ops n wk T o a' w := by
  unfold relAt at *
  rwa [← h.exec hs, ← h.wanted]
theorem Agree.refl (o : Oper) (a : Act) : Agree ops o a a := fun _ _ => rfl
theorem put_get (a : Act) (d : Tmp) (v : Value) (t : Tmp) : (a.put (some d) v).tmps[t]? = if d = t then (a.tmps[t]?).map (fun _ => v) else a.tmps[t]? := by
  by_cases h : d = t
  · subst h
    simp [Act.put, Array.getElem?_setIfInBounds]
    split
    · rename_i hlt; simp [hlt]
    · rename_i hlt; simp [Array.getElem?_eq_none (Nat.not_lt.1 hlt)]
  · rw [if_neg h]
    simp [Act.put, Array.getElem?_setIfInBounds_ne h]
theorem Agree.put {o : Oper} {a a' : Act} (h : Agree ops o a a') (d : Option Tmp) (v : Value) : Agree ops o (a.put d v) (a'.put d v) := by
  cases d with
  | none => exact h
  | some d =>
    intro t ht
    rw [put_get, put_get, h t ht]
theorem Agree.put_left {o : Oper} {a a' : Act} (h : Agree ops o a a') {d : Option Tmp} (v : Value) (hd : ∀ x, d = some x → x ∉ o.looksAt ops) : Agree ops o (a.put d v) a' := by
  cases d with
  | none => exact h
  | some d =>
    intro t ht
    rw [put_get, if_neg (by rintro rfl; exact hd _ rfl ht)]
    exact h t ht

/-- The frame in which the operations told by 'on' have left their values. -/
def fillL (on : Nat → Bool) (vs : Nat → Value) : Nat → List Oper → Act → Act
  | _, [], a => a
  | k, o :: l, a => fillL on vs (k + 1) l (if on k = true then a.put o.dst (vs k) else a)

theorem fillL_ext {on on' : Nat → Bool} {vs vs' : Nat → Value} : ∀ (l : List Oper) (k : Nat) (a : Act), (∀ j, k ≤ j → j < k + l.length → on j = on' j ∧ (on j = true → vs j = vs' j)) → fillL on vs k l a = fillL on' vs' k l a
  | [], _, _, _ => rfl
  | o :: l, k, a, h => by
    obtain ⟨h1, h2⟩ := h k (Nat.le_refl _) (by simp)
    have ih := fun a => fillL_ext l (k + 1) a (fun j hj hj' => h j (by omega) (by simp; omega))
    unfold fillL
    rw [← h1]
    by_cases hk : on k = true
    · rw [if_pos hk, if_pos hk, h2 hk, ih]
    · rw [if_neg hk, if_neg hk, ih]

theorem fillL_agree {o : Oper} {on on' : Nat → Bool} {vs : Nat → Value} : ∀ (l : List Oper) (k : Nat) (a a' : Act), Agree ops o a a' →
    (∀ j oj, l[j]? = some oj → on (k + j) ≠ on' (k + j) → ∀ x, oj.dst = some x → x ∉ o.looksAt ops) → Agree ops o (fillL on vs k l a) (fillL on' vs k l a')
  | [], _, _, _, h, _ => h
  | oj :: l, k, a, a', h, hd => by
    unfold fillL
    refine fillL_agree l (k + 1) _ _ ?_ (fun j o' hj hne => hd (j + 1) o' (by simpa using hj) (by rwa [show k + (j + 1) = k + 1 + j by omega]))
    have h0 := hd 0 oj (by simp)
    simp only [Nat.add_zero] at h0
    cases hk : on k <;> cases hk' : on' k
    · simpa using h
    · simp only [Bool.false_eq_true, if_false, if_true]
      exact fun t ht => ((Agree.put_left (fun t ht => (h t ht).symm) (vs k) (h0 (by simp [hk, hk']))) t ht).symm
    · simp only [Bool.false_eq_true, if_false, if_true]
      exact h.put_left (vs k) (h0 (by simp [hk, hk']))
    · simpa using h.put _ _

theorem fillL_put {on : Nat → Bool} {vs : Nat → Value} {d : Option Tmp} {v : Value} : ∀ (l : List Oper) (k : Nat) (a : Act), (∀ j oj, l[j]? = some oj → on (k + j) = true → ∀ x, d = some x → oj.dst ≠ some x) →
    (fillL on vs k l a).put d v = fillL on vs k l (a.put d v)
  | [], _, _, _ => rfl
  | oj :: l, k, a, h => by
    unfold fillL
    rw [fillL_put l (k + 1) _ (fun j o' hj hon => h (j + 1) o' (by simpa using hj) (by rwa [show k + (j + 1) = k + 1 + j by omega]))]
    by_cases hk : on k = true
    · rw [if_pos hk, if_pos hk, Act.put_comm]
      intro x hx hx'
      exact h 0 oj (by simp) (by simpa using hk) x hx' hx
    · rw [if_neg hk, if_neg hk]

theorem fillL_set {on : Nat → Bool} {vs : Nat → Value} {v : Value} {i : Nat} {oi : Oper} : ∀ (l : List Oper) (k : Nat) (a : Act), k ≤ i → l[i - k]? = some oi → on i = false →
    (∀ j oj, l[j]? = some oj → i < k + j → on (k + j) = true → ∀ x, oi.dst = some x → oj.dst ≠ some x) →
    (fillL on vs k l a).put oi.dst v = fillL (fun j => j == i || on j) (fun j => if j = i then v else vs j) k l a
  | [], _, _, _, h, _, _ => by simp at h
  | o :: l, k, a, hki, hi, hoff, h => by
    unfold fillL
    by_cases he : k = i
    · subst he
      simp at hi
      subst hi
      rw [hoff]
      simp only [Bool.false_eq_true, if_false, beq_self_eq_true, Bool.true_or, if_true]
      rw [fillL_put l (k + 1) a (fun j oj hj hon => h (j + 1) oj (by simpa using hj) (by omega) (by rwa [show k + (j + 1) = k + 1 + j by omega]))]
      refine fillL_ext l (k + 1) _ fun j hj hj' => ?_
      have hne : j ≠ k := by omega
      simp [hne]
    · have hne : (k == i) = false := by simpa using he
      rw [fillL_set l (k + 1) _ (by omega) (by rw [show i - k = (i - (k + 1)) + 1 by omega] at hi; simpa using hi) hoff
        (fun j oj hj hlt hon => h (j + 1) oj (by simpa using hj) (by omega) (by rwa [show k + (j + 1) = k + 1 + j by omega]))]
      simp only [hne, Bool.false_or, if_neg he]

/-- Every operation waits for no later one; of two, the later waits for the earlier or is apart from it. -/
def relB (ops : Array Oper) : Bool :=
  Region.noSelect ops && (List.range ops.size).all fun j => match ops[j]? with
    | none => true
    | some oj => (oj.after.all fun e => !Region.binds .any e || decide (e.on < j)) && (List.range j).all fun i => match ops[i]? with
      | none => true
      | some oi => oj.after.any (fun e => Region.binds .any e && e.on == i) || oi.apart ops oj
theorem relB_spec (h : relB ops = true) : Region.noSelect ops = true ∧ ∀ j oj, ops[j]? = some oj → (∀ e ∈ oj.after, Region.binds .any e = true → e.on < j) ∧ ∀ i oi, i < j → ops[i]? = some oi → (∃ e ∈ oj.after, Region.binds .any e = true ∧ e.on = i) ∨ oi.apart ops oj = true := by
  simp only [relB, Bool.and_eq_true, List.all_eq_true, List.mem_range] at h
  refine ⟨h.1, fun j oj hj => ?_⟩
  have h1 := h.2 j (Array.getElem?_eq_some_iff.1 hj).1
  simp only [hj, Bool.and_eq_true, Array.all_eq_true_iff_forall_mem, List.all_eq_true, List.mem_range] at h1
  refine ⟨fun e he hb => ?_, fun i oi hij hi => ?_⟩
  · simpa [hb] using h1.1 e he
  · have h2 := h1.2 i hij
    simp only [hi, Bool.or_eq_true] at h2
    rcases h2 with h2 | h2
    · obtain ⟨e, he, hb⟩ := Array.any_eq_true'.1 h2
      simp only [Bool.and_eq_true, beq_iff_eq] at hb
      exact .inl ⟨e, he, hb.1, hb.2⟩
    · exact .inr h2

/-- Of one operation, behind those before it (each with what is told of its value). -/
def obl (P : Program) (ops : Array Oper) (n : Nat) (wk : Bool) (T : VT) (o : Oper) : List (Oper × VT) → Act → (World → Prop) → Prop
  | [], a, H => ∀ w, H w → relAt P ops n wk T o a w
  | x :: rest, a, H => if x.1.apart ops o = true then obl P ops n wk T o rest a H else ∀ v, obl P ops n wk T o rest (a.put x.1.dst v) (fun w => H w ∧ x.2 v w)
/-- What is told of value k is lost in the end: it is fragile, and a weak operation comes behind it. -/
def lost (weak frag : Nat → Bool) (m k : Nat) : Bool := frag k && (List.range m).any fun i => weak i && decide (k < i)
def fin (Q : Act → World → Prop) (dead : Nat → Bool) : Nat → List (Oper × VT) → Act → (World → Prop) → Prop
  | _, [], a, H => ∀ w, H w → Q a w
  | k, x :: rest, a, H => ∀ v, fin Q dead (k + 1) rest (a.put x.1.dst v) (fun w => H w ∧ (dead k = false → x.2 v w))
def wpRel (P : Program) (ops : Array Oper) (n : Nat) (weak frag : Nat → Bool) (C : World → Prop) (Q : Act → World → Prop) (a0 : Act) : List (Oper × VT) → List Oper → Prop
  | done, [] => fin Q (lost weak frag ops.size) 0 done a0 C
  | done, o :: rest => ∃ T : VT, (frag done.length = true → T.Stable) ∧ (frag done.length = false → T.Robust n) ∧ obl P ops n (weak done.length) T o done a0 C ∧ wpRel P ops n weak frag C Q a0 (done ++ [(o, T)]) rest

theorem obl_use {T : VT} {o : Oper} (vs : Nat → Value) {w : World} : ∀ (done : List (Oper × VT)) (k : Nat) (a : Act) (H : World → Prop), obl P ops n wk T o done a H → H w →
    (∀ (j : Nat) (x : Oper × VT), done[j]? = some x → x.1.apart ops o = false → x.2 (vs (k + j)) w) → relAt P ops n wk T o (fillL (fun j => match done[j - k]? with | some x => !x.1.apart ops o | none => false) vs k (done.map (·.1)) a) w
  | [], _, _, _, h, hH, _ => h w hH
  | x :: rest, k, a, H, h, hH, hT => by
    unfold obl at h
    simp only [List.map_cons, fillL]
    have e : ∀ a', fillL (fun j => match (x :: rest)[j - k]? with | some x => !x.1.apart ops o | none => false) vs (k + 1) (rest.map (·.1)) a' = fillL (fun j => match rest[j - (k + 1)]? with | some x => !x.1.apart ops o | none => false) vs (k + 1) (rest.map (·.1)) a' := by
      intro a'
      refine fillL_ext _ _ _ fun j hj _ => ⟨?_, fun _ => rfl⟩
      rw [show j - k = (j - (k + 1)) + 1 by omega]
      simp
    rw [e]
    have hT' : ∀ (j : Nat) (y : Oper × VT), rest[j]? = some y → y.1.apart ops o = false → y.2 (vs (k + 1 + j)) w := fun j y hj hy => by
      have := hT (j + 1) y (by simpa using hj) hy
      rwa [show k + (j + 1) = k + 1 + j by omega] at this
    have hx := hT 0 x (by simp)
    simp only [Nat.sub_self, List.getElem?_cons_zero, Nat.add_zero] at hx ⊢
    cases hap : x.1.apart ops o with
    | true =>
      rw [hap] at h
      simp only [if_true] at h
      simp only [Bool.not_true, Bool.false_eq_true, if_false]
      exact obl_use vs rest (k + 1) a H h hH hT'
    | false =>
      rw [hap] at h
      simp only [Bool.false_eq_true, if_false] at h
      simp only [Bool.not_false, if_true]
      exact obl_use vs rest (k + 1) _ _ (h (vs k)) ⟨hH, hx hap⟩ hT'

theorem fin_use {Q : Act → World → Prop} {dead : Nat → Bool} (vs : Nat → Value) {w : World} {on : Nat → Bool} : ∀ (done : List (Oper × VT)) (k : Nat) (a : Act) (H : World → Prop), fin Q dead k done a H → H w → (∀ (j : Nat) (x : Oper × VT), done[j]? = some x → on (k + j) = true ∧ (dead (k + j) = false → x.2 (vs (k + j)) w)) →
    Q (fillL on vs k (done.map (·.1)) a) w
  | [], _, _, _, h, hH, _ => h w hH
  | x :: rest, k, a, H, h, hH, hT => by
    unfold fin at h
    have h0 := hT 0 x (by simp)
    simp only [Nat.add_zero] at h0
    simp only [List.map_cons, fillL, h0.1, if_true]
    refine fin_use vs rest (k + 1) _ _ (h (vs k)) ⟨hH, h0.2⟩ fun j y hj => ?_
    have := hT (j + 1) y (by simpa using hj)
    rwa [show k + (j + 1) = k + 1 + j by omega] at this

theorem wpRel_all {C : World → Prop} {Q : Act → World → Prop} {a0 : Act} : ∀ (rest : List Oper) (done : List (Oper × VT)), wpRel P ops n weak frag C Q a0 done rest →
    ∃ D : List (Oper × VT), D.map (·.1) = done.map (·.1) ++ rest ∧ D.take done.length = done ∧ (∀ (k : Nat) (o : Oper) (T : VT), done.length ≤ k → D[k]? = some (o, T) → (frag k = true → T.Stable) ∧ (frag k = false → T.Robust n) ∧ obl P ops n (weak k) T o (D.take k) a0 C) ∧ fin Q (lost weak frag ops.size) 0 D a0 C
  | [], done, h => ⟨done, by simp, by simp, ⟨fun k o T hk hD => (by rw [List.getElem?_eq_none hk] at hD; cases hD), h⟩⟩
  | o :: rest, done, ⟨T, hT, hT', ho, h⟩ => by
    obtain ⟨D, h1, h2, h3, h4⟩ := wpRel_all rest _ h
    have hlen : (done ++ [(o, T)]).length = done.length + 1 := by simp
    rw [hlen] at h2 h3
    have hd : D.take done.length = done := by
      have := congrArg (List.take done.length) h2
      rw [List.take_take, Nat.min_eq_left (by omega)] at this
      rw [this]
      simp
    refine ⟨D, by rw [h1]; simp, hd, fun k o' T' hk hD => ?_, h4⟩
    rcases Nat.lt_or_ge done.length k with hlt | hge
    · exact h3 k o' T' (by omega) hD
    · obtain rfl : k = done.length := by omega
      have he : D[done.length]? = some (o, T) := by
        have := congrArg (fun l => l[done.length]?) h2
        simp only [List.getElem?_take] at this
        rw [if_pos (by omega)] at this
        rw [this]
        simp
      rw [he] at hD
      injection hD with hD
      injection hD with e1 e2
      subst e1 e2
      rw [hd]
      exact ⟨hT, hT', ho⟩

def unl (n : Nat) (listed : Array Bool) : Nat := ((List.range n).filter fun j => !listed.getD j true).length
theorem filter_less {p q : Nat → Bool} : ∀ (l : List Nat) (i : Nat), l.Nodup → i ∈ l → p i = true → q i = false → (∀ j ∈ l, j ≠ i → q j = p j) → (l.filter q).length + 1 = (l.filter p).length
  | [], _, _, h, _, _, _ => by simp at h
  | x :: l, i, hn, hi, hp, hq, h => by
    rw [List.nodup_cons] at hn
    by_cases hx : x = i
    · subst hx
      have e : l.filter q = l.filter p := List.filter_congr fun j hj => h j (by simp [hj]) (fun e => hn.1 (e ▸ hj))
      rw [List.filter_cons, List.filter_cons, hp, hq, e]
      simp
    · have hil : i ∈ l := by
        rcases List.mem_cons.1 hi with e | e
        · exact absurd e.symm hx
        · exact e
      have ih := filter_less l i hn.2 hil hp hq (fun j hj => h j (by simp [hj]))
      have hxx := h x (by simp) hx
      by_cases hpx : p x = true
      · rw [List.filter_cons_of_pos (by simpa [hxx] using hpx), List.filter_cons_of_pos (by simpa using hpx)]
        simpa using ih
      · rw [List.filter_cons_of_neg (by simpa [hxx] using hpx), List.filter_cons_of_neg (by simpa using hpx)]
        exact ih
theorem unl_set {n : Nat} {listed : Array Bool} {i : Nat} (hs : listed.size = n) (hi : i < n) (h : listed.getD i true = false) : unl n (listed.setIfInBounds i true) + 1 = unl n listed := by
  refine filter_less _ i List.nodup_range (List.mem_range.2 hi) (by simpa using h) ?_ fun j _ hne => by rw [getD_set_ne true (Ne.symm hne)]
  have : i < listed.size := by omega
  simp [this]

/-- A weak operation comes behind all that read what it spoils, and ahead of what is fragile and later. -/
def killB (ops : Array Oper) (weak frag : Nat → Bool) : Bool :=
  let tied := fun (x y : Nat) => match ops[x]?, ops[y]? with
    | some ox, some oy => !ox.apart ops oy
    | _, _ => false
  (List.range ops.size).all fun i => !weak i || (List.range ops.size).all fun j => !frag j ||
    ((!decide (j < i) || (List.range ops.size).all fun k => !decide (j < k) || !tied j k || k == i || (decide (k < i) && tied k i)) && (!decide (i < j) || tied i j))
theorem killB_spec (h : killB ops weak frag = true) {i j : Nat} {oi oj : Oper} (hi : ops[i]? = some oi) (hj : ops[j]? = some oj) (hw : weak i = true) (hf : frag j = true) :
    (j < i → ∀ k ok, ops[k]? = some ok → j < k → oj.apart ops ok = false → k = i ∨ (k < i ∧ ok.apart ops oi = false)) ∧ (i < j → oi.apart ops oj = false) := by
  simp only [killB, List.all_eq_true, List.mem_range] at h
  have h1 := h i (Array.getElem?_eq_some_iff.1 hi).1
  rw [hw] at h1
  simp only [Bool.not_true, Bool.false_or, List.all_eq_true, List.mem_range] at h1
  have h2 := h1 j (Array.getElem?_eq_some_iff.1 hj).1
  rw [hf] at h2
  simp only [Bool.not_true, Bool.false_or, Bool.and_eq_true, hi, hj] at h2
  refine ⟨fun hji k ok hk hjk hap => ?_, fun hij => ?_⟩
  · have h3 := h2.1
    simp only [hji, decide_true, Bool.not_true, Bool.false_or, List.all_eq_true, List.mem_range] at h3
    have h4 := h3 k (Array.getElem?_eq_some_iff.1 hk).1
    simp only [hk, hjk, hap, decide_true, Bool.not_true, Bool.false_or, Bool.not_false, Bool.or_eq_true, beq_iff_eq, Bool.and_eq_true, decide_eq_true_eq, Bool.not_eq_true'] at h4
    exact h4
  · have h3 := h2.2
    simpa [hij] using h3
/-- Spoilt by now. -/
def killed (weak frag : Nat → Bool) (m : Nat) (listed : Array Bool) (j : Nat) : Prop := frag j = true ∧ ∃ i, i < m ∧ weak i = true ∧ j < i ∧ listed.getD i false = true

theorem wpAny_of_rel {C : World → Prop} {Q : Exit → Act → World → Prop} {a0 : Act} {D : List (Oper × VT)} (hl : D.map (·.1) = ops.toList) (hB : relB ops = true) (hkB : killB ops weak frag = true) (hC : ∀ w w', C w → BelowD n w w' → C w') (hCn : ∀ w, C w → n ≤ w.heap.size)
    (ho : ∀ (k : Nat) (o : Oper) (T : VT), D[k]? = some (o, T) → (frag k = true → T.Stable) ∧ (frag k = false → T.Robust n) ∧ obl P ops n (weak k) T o (D.take k) a0 C) (hf : fin (fun a w => Q .normal a w) (lost weak frag ops.size) 0 D a0 C) :
    ∀ (fuel : Nat) (listed : Array Bool) (vs : Nat → Value) (w : World), listed.size = ops.size → unl ops.size listed ≤ fuel →
      (∀ (j : Nat) (oj : Oper), ops[j]? = some oj → listed.getD j false = true → ∀ e ∈ oj.after, Region.binds .any e = true → listed.getD e.on false = true) →
      (∀ (j : Nat) (o : Oper) (T : VT), D[j]? = some (o, T) → listed.getD j false = true → ¬ killed weak frag ops.size listed j → T (vs j) w) → C w →
      wpAny P .any ops Q fuel listed (fillL (fun j => listed.getD j false) vs 0 ops.toList a0) w := by
  obtain ⟨hsel0, hB⟩ := relB_spec hB
  have hsel := Region.noSelect_spec hsel0
  have hD : ∀ (k : Nat) (o : Oper), ops[k]? = some o → ∃ T : VT, D[k]? = some (o, T) := by
    intro k o hk
    have h1 : (D.map (·.1))[k]? = some o := by rw [hl]; simpa using hk
    rw [List.getElem?_map] at h1
    cases hd : D[k]? with
    | none => rw [hd] at h1; simp at h1
    | some x =>
      rw [hd] at h1
      simp at h1
      exact ⟨x.2, by rw [← h1]⟩
  have hdone : ∀ (listed : Array Bool) (vs : Nat → Value) (w : World), listed.size = ops.size → (∀ (j : Nat) (o : Oper) (T : VT), D[j]? = some (o, T) → listed.getD j false = true → ¬ killed weak frag ops.size listed j → T (vs j) w) → C w → Region.ready .any ops listed = [] →
      Q .normal (fillL (fun j => listed.getD j false) vs 0 ops.toList a0) w := by
    intro listed vs w hsz hT hCw hr
    have hall : ∀ j, j < ops.size → listed.getD j false = true := by
      intro j
      induction j using Nat.strongRecOn with
      | ind j ih =>
        intro hj
        cases hb : listed.getD j false with
        | true => rfl
        | false =>
          exfalso
          have hm : j ∈ Region.ready .any ops listed := by
            rw [mem_ready]
            have hjl : j < listed.size := by omega
            refine ⟨by simpa [hjl] using hb, ops[j], Array.getElem?_eq_getElem hj, fun e he hbd => ?_⟩
            have hlt := (hB j ops[j] (Array.getElem?_eq_getElem hj)).1 e he hbd
            exact ih e.on hlt (by omega)
          rw [hr] at hm
          cases hm
    rw [← hl]
    refine fin_use vs D 0 a0 C hf hCw fun j x hj => ?_
    have hj' : j < ops.size := by
      have h1 := (List.getElem?_eq_some_iff.1 hj).1
      have h2 := congrArg List.length hl
      simp at h2
      omega
    rw [Nat.zero_add]
    refine ⟨hall j hj', fun hd => hT j x.1 x.2 hj (hall j hj') ?_⟩
    rintro ⟨hfr, i, hi, hw, hji, _⟩
    have : lost weak frag ops.size j = true := by
      simp only [lost, hfr, Bool.true_and, List.any_eq_true, List.mem_range]
      exact ⟨i, hi, by simp [hw, hji]⟩
    rw [this] at hd
    cases hd
  intro fuel
  induction fuel with
  | zero =>
    intro listed vs w hsz hfu _ hT hCw
    have hr : Region.ready .any ops listed = [] := by
      cases hr : Region.ready .any ops listed with
      | nil => rfl
      | cons i rs =>
        have hi : i ∈ Region.ready .any ops listed := by rw [hr]; simp
        obtain ⟨h0, o, ho', _⟩ := mem_ready.1 hi
        have := unl_set hsz (Array.getElem?_eq_some_iff.1 ho').1 h0
        omega
    exact ⟨hr, hdone listed vs w hsz hT hCw hr⟩
  | succ fuel ih =>
    intro listed vs w hsz hfu hcl hT hCw
    refine ⟨hdone listed vs w hsz hT hCw, fun i hi => ?_⟩
    obtain ⟨h0, oi, hoi, hdeps⟩ := mem_ready.1 hi
    have hilt := (Array.getElem?_eq_some_iff.1 hoi).1
    have hioff : listed.getD i false = false := by
      have : i < listed.size := by omega
      simpa [this] using h0
    obtain ⟨T, hDi⟩ := hD i oi hoi
    obtain ⟨_, _, hob⟩ := ho i oi T hDi
    -- an operation that is listed and later is apart
    have hlater : ∀ j oj, ops[j]? = some oj → i < j → listed.getD j false = true → oi.apart ops oj = true := fun j oj hj hij hon => by
      rcases (hB j oj hj).2 i oi hij hoi with ⟨e, he, hb, hon'⟩ | h
      · have := hcl j oj hj hon e he hb
        rw [hon', hioff] at this
        cases this
      · exact h
    have hearlier : ∀ j oj, ops[j]? = some oj → j < i → oj.apart ops oi = false → listed.getD j false = true := fun j oj hj hij hna => by
      rcases (hB i oi hoi).2 j oj hij hj with ⟨e, he, hb, hon'⟩ | h
      · have := hdeps e he hb
        rwa [hon'] at this
      · rw [h] at hna; cases hna
    have hused := obl_use (w := w) vs (D.take i) 0 a0 C hob hCw (fun j x hj hna => by
      rw [Nat.zero_add]
      rw [List.getElem?_take] at hj
      split at hj
      · rename_i hji
        have hoj : ops[j]? = some x.1 := by
          have h1 := congrArg (fun l => l[j]?) hl
          simp only [List.getElem?_map, hj, Option.map_some] at h1
          simpa using h1.symm
        refine hT j x.1 x.2 hj (hearlier j x.1 hoj hji hna) ?_
        rintro ⟨hfr, i', hi', hw, hji', hon'⟩
        rcases (killB_spec hkB (Array.getElem?_eq_getElem hi') hoj hw hfr).1 hji' i oi hoi hji hna with e | ⟨e1, e2⟩
        · rw [← e, hioff] at hon'; cases hon'
        · rw [hlater i' _ (Array.getElem?_eq_getElem hi') e1 hon'] at e2; cases e2
      · cases hj)
    have hrel : relAt P ops n (weak i) T oi (fillL (fun j => listed.getD j false) vs 0 ops.toList a0) w := by
      refine Agree.rel (hsel i oi · · hoi) ?_ hused
      -- the frame with what is read, and the whole one
      have hsplit : ops.toList = (D.take i).map (·.1) ++ ops.toList.drop i := by
        rw [← hl, List.map_take, List.take_append_drop]
      have hfa : ∀ (on : Nat → Bool) (l1 l2 : List Oper) (k : Nat) (a : Act), fillL on vs k (l1 ++ l2) a = fillL on vs (k + l1.length) l2 (fillL on vs k l1 a) := by
        intro on l1
        induction l1 with
        | nil => intro l2 k a; rfl
        | cons x l1 ih => intro l2 k a; simp only [List.cons_append, fillL, List.length_cons]; rw [ih]; congr 1; omega
      have hlen : ((D.take i).map (·.1)).length = i := by
        have h2 := congrArg List.length hl
        simp at h2
        simp
        omega
      have h1 : Agree ops oi (fillL (fun j => match (D.take i)[j - 0]? with | some x => !x.1.apart ops oi | none => false) vs 0 ((D.take i).map (·.1)) a0) (fillL (fun j => listed.getD j false) vs 0 ((D.take i).map (·.1)) a0) := by
        refine fillL_agree _ _ _ _ (Agree.refl _ _) fun j oj hj hne x hx => ?_
        rw [List.getElem?_map] at hj
        cases hd : (D.take i)[j]? with
        | none => rw [hd] at hj; simp at hj
        | some y =>
          rw [hd] at hj
          simp at hj
          subst hj
          have hji : j < i := by
            have := (List.getElem?_eq_some_iff.1 hd).1
            simp at this
            omega
          rw [List.getElem?_take, if_pos hji] at hd
          have hoj : ops[j]? = some y.1 := by
            have h1 := congrArg (fun l => l[j]?) hl
            simp only [List.getElem?_map, hd, Option.map_some] at h1
            simpa using h1.symm
          have hyy : (D.take i)[j]? = some y := by rw [List.getElem?_take, if_pos hji]; exact hd
          simp only [Nat.zero_add, Nat.sub_zero, hyy] at hne
          cases hap : y.1.apart ops oi with
          | true => exact (Oper.apart_spec hap).1 x hx
          | false =>
            rw [hap, hearlier j y.1 hoj hji hap] at hne
            exact absurd rfl hne
      rw [hsplit, hfa, hlen]
      have h2 : ∀ (l : List Oper) (k : Nat) (a : Act), (∀ j oj, l[j]? = some oj → listed.getD (k + j) false = true → ∀ x, oj.dst = some x → x ∉ oi.looksAt ops) → Agree ops oi a (fillL (fun j => listed.getD j false) vs k l a) := by
        intro l k a hh
        have := fillL_agree (ops := ops) (o := oi) (on := fun _ => false) (on' := fun j => listed.getD j false) (vs := vs) l k a a (Agree.refl _ _) (fun j oj hj hne x hx => hh j oj hj (by
          cases hb : listed.getD (k + j) false with
          | true => rfl
          | false => exact absurd hb.symm hne) x hx)
        have hz : ∀ (l : List Oper) (k : Nat) (a : Act), fillL (fun _ => false) vs k l a = a := by
          intro l
          induction l with
          | nil => intro k a; rfl
          | cons o l ih => intro k a; simp only [fillL, Bool.false_eq_true, if_false]; exact ih _ _
        rwa [hz] at this
      refine fun t ht => (h1 t ht).trans (h2 (ops.toList.drop i) (0 + i) _ (fun j oj hj hon x hx => ?_) t ht)
      rw [List.getElem?_drop] at hj
      have hoj : ops[i + j]? = some oj := by simpa using hj
      rw [Nat.zero_add] at hon
      rcases Nat.eq_zero_or_pos j with rfl | hpos
      · rw [Nat.add_zero, hioff] at hon; cases hon
      · exact (Oper.apart_spec (hlater (i + j) oj hoj (by omega) hon)).2.2 x hx
    -- the step
    have next : ∀ v w', BelowD (reach n (weak i) w) w w' → T v w' → wpAny P .any ops Q fuel (listed.setIfInBounds i true) ((fillL (fun j => listed.getD j false) vs 0 ops.toList a0).put oi.dst v) w' := by
      intro v w' hb hv
      have hbn : BelowD n w w' := hb.mono (by unfold reach; split; exact Nat.le_refl _; exact hCn w hCw)
      rw [fillL_set (i := i) (oi := oi) ops.toList 0 a0 (Nat.zero_le _) (by simpa using hoi) hioff (fun j oj hj hij hon x hx => by
        rw [Nat.zero_add] at hij hon
        exact (Oper.apart_spec (hlater j oj (by simpa using hj) hij hon)).2.1 x hx)]
      have hset : ∀ j, j < ops.size → (j == i || listed.getD j false) = (listed.setIfInBounds i true).getD j false := by
        intro j hj
        by_cases hji : j = i
        · subst hji
          have : j < listed.size := by omega
          simp [this]
        · rw [getD_set_ne false (Ne.symm hji)]
          simp [hji]
      rw [fillL_ext (on' := fun j => (listed.setIfInBounds i true).getD j false) (vs' := fun j => if j = i then v else vs j) ops.toList 0 a0 (fun j _ hj => ⟨hset j (by simpa using hj), fun _ => rfl⟩)]
      refine ih _ _ w' (by simpa using hsz) (by have := unl_set hsz hilt h0; omega) (fun j oj hj hon e he hbd => ?_) (fun j o T' hj hon hnk => ?_) (hC w w' hCw hbn)
      · by_cases hji : j = i
        · subst hji
          rw [hoi] at hj
          injection hj with hj
          subst hj
          exact getD_set_true (hdeps e he hbd)
        · rw [getD_set_ne false (Ne.symm hji)] at hon
          exact getD_set_true (hcl j oj hj hon e he hbd)
      · by_cases hji : j = i
        · subst hji
          rw [hDi] at hj
          injection hj with hj
          injection hj with e1 e2
          subst e1 e2
          simpa using hv
        · rw [getD_set_ne false (Ne.symm hji)] at hon
          simp only [if_neg hji]
          have hjlt : j < ops.size := by
            have h1 := (List.getElem?_eq_some_iff.1 hj).1
            have h2 := congrArg List.length hl
            simp at h2
            omega
          have hTj := hT j o T' hj hon (fun ⟨hfr, i', hi', hw, hji', hon'⟩ => hnk ⟨hfr, i', hi', hw, hji', getD_set_true hon'⟩)
          cases hfr : frag j with
          | false => exact (ho j o T' hj).2.1 hfr _ _ _ (hCn w hCw) hbn hTj
          | true =>
            cases hwi : weak i with
            | false =>
              rw [hwi] at hb
              exact (ho j o T' hj).1 hfr _ _ _ hb hTj
            | true =>
              exfalso
              have hil : i < listed.size := by omega
              rcases Nat.lt_or_ge j i with hlt | hge
              · exact hnk ⟨hfr, i, hilt, hwi, hlt, by simp [hil]⟩
              · have hij : i < j := by omega
                have e2 := (killB_spec hkB hoi (Array.getElem?_eq_getElem hjlt) hwi hfr).2 hij
                rw [hlater j _ (Array.getElem?_eq_getElem hjlt) hij hon] at e2
                cases e2
    unfold wpOp
    simp only [hoi]
    unfold relAt at hrel
    split
    · rename_i hw
      rw [if_pos hw] at hrel
      refine .inl ?_
      unfold Oper.wp
      generalize (execOp (fillL (fun j => listed.getD j false) vs 0 ops.toList a0).eval oi).run P w = r at hrel
      cases r with
      | ok n w' =>
        cases n <;> simp only [relUpon] at hrel <;> simp only [Oper.upon]
        case value u => exact next u w' hrel.1 hrel.2
        case skip => exact next undef w' hrel.1 hrel.2
        case enter f args =>
          exact hrel.mono fun e w'' ⟨v, he, h1, h2⟩ => by subst he; exact next v w'' h1 h2
      | halt x w' => simp only [relUpon] at hrel
    · rename_i hw
      rw [if_neg hw] at hrel
      exact next undef w (BelowD.refl _ _) hrel

theorem getD_rep (n j : Nat) : (Array.replicate n false).getD j false = false := by
  simp [Array.getElem?_replicate]
  split <;> rfl
/-- **A region that draws, by what is told of each value.** -/
theorem wp_region_rel {id : Nat} {Q : Exit → Act → World → Prop} {a : Act} {w : World} {l : List Oper} (n : Nat) (weak frag : Nat → Bool) (hn : n ≤ w.heap.size) (hm : P.follows .mixedOrders = true) (hB : relB l.toArray = true) (hkB : killB l.toArray weak frag = true)
    (h : wpRel P l.toArray n weak frag (BelowD n w) (fun a' w' => Q .normal a' w') a [] l) : (Code.region id l.toArray true).wp P Q a w := by
  obtain ⟨D, h1, _, h3, h4⟩ := wpRel_all l [] h
  refine wp_region_any hm ?_
  have := wpAny_of_rel (Q := Q) (ops := l.toArray) (D := D) (a0 := a) (C := BelowD n w) (by simpa using h1) hB hkB (fun w1 w2 hb hb' => hb.trans hb') (fun w1 hb => Nat.le_trans hn hb.size)
    (fun k o T hk => h3 k o T (Nat.zero_le _) hk) h4 l.toArray.size (Array.replicate l.toArray.size false) (fun _ => undef) { w with drawn := w.drawn + 1 } (by simp)
    (by unfold unl; exact Nat.le_trans (List.length_filter_le _ _) (by simp)) (fun j oj _ hon => by rw [getD_rep] at hon; cases hon) (fun j o T _ hon _ => by rw [getD_rep] at hon; cases hon) ⟨⟨rfl, rfl, rfl, Nat.le_refl _, fun _ _ => rfl⟩, Nat.le_succ _⟩
  have hz : ∀ (l : List Oper) (on : Nat → Bool) (k : Nat) (a : Act), (∀ j, on j = false) → fillL on (fun _ => undef) k l a = a := by
    intro l on
    induction l with
    | nil => intro k a _; rfl
    | cons o l ih => intro k a hon; simp only [fillL, hon, Bool.false_eq_true, if_false]; exact ih _ _ hon
  rwa [hz _ _ _ _ (fun j => getD_rep _ _)] at this

variable {C : World → Prop} {Q : Act → World → Prop} {a0 a : Act} {done rest : List (Oper × VT)} {later : List Oper} {o oj : Oper} {T : VT} {H : World → Prop}
theorem rel_det {x : Value} (h : obl P ops n (weak done.length) (IsV x) o done a0 C) (hr : wpRel P ops n weak frag C Q a0 (done ++ [(o, IsV x)]) later) : wpRel P ops n weak frag C Q a0 done (o :: later) := ⟨_, fun _ => IsV.stable x, fun _ => IsV.robust n x, h, hr⟩
theorem rel_any (T : VT) (hf : frag done.length = true) (hT : T.Stable) (h : obl P ops n (weak done.length) T o done a0 C) (hr : wpRel P ops n weak frag C Q a0 (done ++ [(o, T)]) later) : wpRel P ops n weak frag C Q a0 done (o :: later) := ⟨T, fun _ => hT, fun h => (by rw [hf] at h; cases h), h, hr⟩
theorem obl_skip {Tj : VT} (hap : oj.apart ops o = true) (h : obl P ops n wk T o rest a H) : obl P ops n wk T o ((oj, Tj) :: rest) a H := by
  unfold obl; rw [if_pos hap]; exact h
theorem obl_var {Tj : VT} (hap : oj.apart ops o = false) (h : ∀ v, obl P ops n wk T o rest (a.put oj.dst v) (fun w => H w ∧ Tj v w)) : obl P ops n wk T o ((oj, Tj) :: rest) a H := by
  unfold obl; rw [if_neg (by rw [hap]; decide)]; exact h
theorem obl_det {x : Value} (hap : oj.apart ops o = false) (h : obl P ops n wk T o rest (a.put oj.dst x) H) : obl P ops n wk T o ((oj, IsV x) :: rest) a H := by
  have aux : ∀ (rest : List (Oper × VT)) (a : Act) (H H' : World → Prop), (∀ w, H' w → H w) → obl P ops n wk T o rest a H → obl P ops n wk T o rest a H' := by
    intro rest
    induction rest with
    | nil => intro a H H' hh h w hw; exact h w (hh w hw)
    | cons y rest ih =>
      intro a H H' hh h
      rw [obl] at h ⊢
      split
      · rename_i hap; rw [if_pos hap] at h; exact ih _ _ _ hh h
      · rename_i hap; rw [if_neg hap] at h; exact fun v => ih _ _ _ (fun w hw => ⟨hh w hw.1, hw.2⟩) (h v)
  have aux2 : ∀ (rest : List (Oper × VT)) (a : Act) (H : World → Prop), (∀ w, ¬ H w) → obl P ops n wk T o rest a H := by
    intro rest
    induction rest with
    | nil => intro a H hh w hw; exact absurd hw (hh w)
    | cons y rest ih =>
      intro a H hh
      rw [obl]
      split
      · exact ih _ _ hh
      · exact fun v => ih _ _ (fun w hw => hh w hw.1)
  refine obl_var hap fun v => ?_
  by_cases hv : v = x
  · subst hv; exact aux _ _ _ _ (fun w hw => hw.1) h
  · exact aux2 _ _ _ (fun w hw => hv hw.2)
theorem fin_mono {dead : Nat → Bool} : ∀ (rest : List (Oper × VT)) (k : Nat) (a : Act) (H H' : World → Prop), (∀ w, H' w → H w) → fin Q dead k rest a H → fin Q dead k rest a H'
  | [], _, _, _, _, hh, h => fun w hw => h w (hh w hw)
  | _ :: rest, k, _, _, _, hh, h => fun v => fin_mono rest (k + 1) _ _ _ (fun w hw => ⟨hh w hw.1, hw.2⟩) (h v)
theorem fin_false {dead : Nat → Bool} : ∀ (rest : List (Oper × VT)) (k : Nat) (a : Act) (H : World → Prop), (∀ w, ¬ H w) → fin Q dead k rest a H
  | [], _, _, _, hh => fun w hw => absurd hw (hh w)
  | _ :: rest, k, _, _, hh => fun _ => fin_false rest (k + 1) _ _ (fun w hw => hh w hw.1)
theorem fin_det {dead : Nat → Bool} {k : Nat} {x : Value} (hd : dead k = false) (h : fin Q dead (k + 1) rest (a.put o.dst x) H) : fin Q dead k ((o, IsV x) :: rest) a H := by
  intro v
  by_cases hv : v = x
  · subst hv; exact fin_mono _ _ _ _ _ (fun w hw => hw.1) h
  · exact fin_false _ _ _ _ (fun w hw => hv (hw.2 hd))
theorem fin_var {dead : Nat → Bool} {k : Nat} {T : VT} (hd : dead k = false) (h : ∀ v, fin Q dead (k + 1) rest (a.put o.dst v) (fun w => H w ∧ T v w)) : fin Q dead k ((o, T) :: rest) a H :=
  fun v => fin_mono _ _ _ _ _ (fun _ hw => ⟨hw.1, hw.2 hd⟩) (h v)
theorem fin_dead {dead : Nat → Bool} {k : Nat} {T : VT} (h : ∀ v, fin Q dead (k + 1) rest (a.put o.dst v) H) : fin Q dead k ((o, T) :: rest) a H :=
  fun v => fin_mono _ _ _ _ _ (fun _ hw => hw.1) (h v)
theorem relAt_wanted {w : World} (hw : Region.wanted o (yielded ops a.tmps) = true) (h : relUpon P (reach n wk w) w T ((execOp a.eval o).run P w)) : relAt P ops n wk T o a w := by
  unfold relAt; rw [if_pos hw]; exact h
theorem relAt_not {w : World} (hw : Region.wanted o (yielded ops a.tmps) = false) (h : T undef w) : relAt P ops n wk T o a w := by
  unfold relAt; rw [if_neg (by rw [hw]; decide)]; exact h
theorem relUpon_append {m : Nat} {w w' : World} {v u v' : Value} (s x : Operand) (t : TypeId)
    (ho : o.op = .call { callee := .builtin .append, args := #[s, x], argTypes := #[t, t] }) (hs : a.eval s = v) (hx : a.eval x = u) (hrun : (Builtin.append_ #[t, t] o.type #[v, u]).run P w = .ok v' w')
    (hb : BelowD m w w') (hT : T v' w') : relUpon P m w T ((execOp a.eval o).run P w) := by
  unfold execOp
  simp only [ho, resolve, invoke, builtin, Sem.run_bind, Sem.run_pure, Result.andThen_ok, List.map_toArray, List.map_cons, List.map_nil, hs, hx, hrun]
  exact ⟨hb, hT⟩
theorem relAt_cps {w : World} (hw : Region.wanted o (yielded ops a.tmps) = true) (h : ∀ T' : VT, (∀ u w', T u w' → T' u w') → relUpon P (reach n wk w) w T' ((execOp a.eval o).run P w)) : relAt P ops n wk T o a w :=
  relAt_wanted hw (h T fun _ _ h => h)
end
attribute [go_sem] relUpon
end Go.Proofs.Ytpnfpdkoeednhaa.RelD

end

