/- The law for regions that draw, in a form that is quick to walk: what an operation does not read is struck out by a mask, values that are known are put in at once, guards are told by the slot that they ask. Over any program. -/
import Derived.Test.YtoalmffhiinbbaaRelT
namespace Go.Proofs.Ytoalmffhiinbbaa
open Go.RowKit

abbrev Ent := Oper × (Value ⊕ VT)
def Ent.vt (x : Ent) : Oper × VT := (x.1, match x.2 with | .inl v => IsV v | .inr T => T)
section
variable {P : Program} {ops : Array Oper} {n : Nat} {fr : Nat → Bool} {C : World → Prop} {Q : Act → World → Prop} {a0 : Act} {done : List Ent} {later : List Oper} {o : Oper} {T : VT}

/-- What is left to show of one operation, in its frame. -/
def oblS (E : Act → (World → Prop) → Prop) : List Ent → List Bool → Act → (World → Prop) → Prop
  | (oj, .inl x) :: rest, true :: mask, a, H => oblS E rest mask (a.put oj.dst x) H
  | (oj, .inr T) :: rest, true :: mask, a, H => ∀ v, oblS E rest mask (a.put oj.dst v) (fun w => H w ∧ T v w)
  | _ :: rest, false :: mask, a, H => oblS E rest mask a H
  | _, _, a, H => E a H
theorem oblT_H {f : Bool} : ∀ (rest : List (Oper × VT)) (a : Act) (H H' : World → Prop), (∀ w, H' w → H w) → oblT P ops n f T o rest a H → oblT P ops n f T o rest a H'
  | [], _, _, _, hh, h => fun w hw => h w (hh w hw)
  | y :: rest, a, H, H', hh, h => by
    rw [oblT] at h ⊢
    split
    · rename_i hap; rw [if_pos hap] at h; exact oblT_H rest _ _ _ hh h
    · rename_i hap; rw [if_neg hap] at h; exact fun v => oblT_H rest _ _ _ (fun w hw => ⟨hh w hw.1, hw.2⟩) (h v)
theorem oblT_no {f : Bool} : ∀ (rest : List (Oper × VT)) (a : Act) (H : World → Prop), (∀ w, ¬ H w) → oblT P ops n f T o rest a H
  | [], _, _, hh => fun w hw => absurd hw (hh w)
  | y :: rest, a, H, hh => by
    rw [oblT]
    split
    · exact oblT_no rest _ _ hh
    · exact fun v => oblT_no rest _ _ (fun w hw => hh w hw.1)
theorem oblS_use {f : Bool} {E : Act → (World → Prop) → Prop} (hE : ∀ a H, E a H → ∀ w, H w → relAt P ops n false (TF f T w) o a w) : ∀ (done : List Ent) (mask : List Bool) (a : Act) (H : World → Prop), (done.map fun x => !x.1.apart ops o) = mask → oblS E done mask a H → oblT P ops n f T o (done.map Ent.vt) a H
  | [], _, a, H, hm, h => by
    subst hm
    exact hE a H h
  | (oj, x) :: rest, _, a, H, hm, h => by
    subst hm
    simp only [List.map_cons]
    unfold oblT
    cases hap : oj.apart ops o with
    | true =>
      simp only [Ent.vt, hap, if_true]
      refine oblS_use hE rest _ a H rfl ?_
      simp only [List.map_cons, hap, Bool.not_true] at h
      cases x <;> exact h
    | false =>
      simp only [Ent.vt, hap, Bool.false_eq_true, if_false]
      intro v
      simp only [List.map_cons, hap, Bool.not_false] at h
      cases x with
      | inl x =>
        by_cases hv : v = x
        · subst hv
          exact oblT_H _ _ _ _ (fun w hw => hw.1) (oblS_use hE rest _ _ _ rfl h)
        · exact oblT_no _ _ _ (fun w hw => hv hw.2)
      | inr T' => exact oblS_use hE rest _ _ _ rfl (h v)

def wpRelS (P : Program) (ops : Array Oper) (n : Nat) (fr : Nat → Bool) (C : World → Prop) (Q : Act → World → Prop) (a0 : Act) (done : List Ent) (rest : List Oper) : Prop := wpRelT P ops n fr C Q a0 (done.map Ent.vt) rest
theorem wp_region_S {id : Nat} {Q : Exit → Act → World → Prop} {a : Act} {w : World} {l : List Oper} (n m : Nat) (fr : Nat → Bool) (hn : n ≤ w.heap.size) (hmx : P.follows .mixedOrders = true) (hm : decide (m ≤ l.length) = true) (hB : relBT l.toArray m = true)
    (h : wpRelS P l.toArray n fr (Below n w) (fun a' w' => wpList P l.toArray Q (l.drop m) a' w') a [] (l.take m)) : (Code.region id l.toArray true).wp P Q a w :=
  wp_region_tail n m fr hn hmx hm hB h
theorem relS_step {x : Value ⊕ VT} (hT : (Ent.vt (o, x)).2.Stable) (h : oblT P ops n (fr done.length) (Ent.vt (o, x)).2 o (done.map Ent.vt) a0 C) (hr : wpRelS P ops n fr C Q a0 (done ++ [(o, x)]) later) : wpRelS P ops n fr C Q a0 done (o :: later) := by
  refine ⟨_, hT, by simpa using h, ?_⟩
  unfold wpRelS at hr
  rw [List.map_append] at hr
  exact hr

theorem TF_false {w : World} {v : Value} {w' : World} (h : T v w') : TF false T w v w' := ⟨h, fun h => by cases h⟩
theorem relUpon_mono {m : Nat} {w : World} {T T' : VT} (hT : ∀ v w', T v w' → T' v w') {r : Result Next} (h : relUpon P m w T r) : relUpon P m w T' r := by
  cases r with
  | ok x w' =>
    cases x with
    | value u => exact ⟨h.1, hT _ _ h.2⟩
    | skip => exact ⟨h.1, hT _ _ h.2⟩
    | enter f args => exact Calls.mono h fun _ _ ⟨v, h1, h2, h3⟩ => ⟨v, h1, h2, hT _ _ h3⟩
    | _ => exact h
  | halt x w' => exact h
/-- No guard. -/
theorem relS_free {f : Bool} (hg : o.guard = none) (a : Act) (H : World → Prop) (h : ∀ w, H w → relUpon P w.heap.size w (TF f T w) ((execOp a.eval o).run P w)) : ∀ w, H w → relAt P ops n false (TF f T w) o a w := fun w hw => by
  refine relAt_wanted ?_ (h w hw)
  unfold Region.wanted; rw [hg]
def guardIs (ops : Array Oper) (o : Oper) (t : Tmp) (want : Bool) : Bool := match o.guard with
  | some (g, b) => ((ops[g]?).bind (·.dst)) == some t && b == want
  | none => false
theorem wanted_of {t : Tmp} {want b : Bool} {a : Act} (hg : guardIs ops o t want = true) (hb : a.tmps[t]? = some (.bool b)) : Region.wanted o (yielded ops a.tmps) = (b == want) := by
  unfold guardIs at hg
  split at hg
  · rename_i g b' hgu
    simp only [Bool.and_eq_true, beq_iff_eq] at hg
    unfold Region.wanted yielded
    rw [hgu]
    simp only [hg.1, Option.bind_some, hb, hg.2]
    cases b <;> cases want <;> rfl
  · cases hg
theorem relS_wanted {f : Bool} (t : Tmp) (want : Bool) (hg : guardIs ops o t want = true) (a : Act) (H : World → Prop) (h : a.tmps[t]? = some (.bool want) ∧ ∀ w, H w → relUpon P w.heap.size w (TF f T w) ((execOp a.eval o).run P w)) : ∀ w, H w → relAt P ops n false (TF f T w) o a w := fun w hw => by
  refine relAt_wanted ?_ (h.2 w hw)
  rw [wanted_of hg h.1]; simp
theorem relS_unwanted {f : Bool} (t : Tmp) (want : Bool) (hg : guardIs ops o t want = true) (a : Act) (H : World → Prop) (h : a.tmps[t]? = some (.bool (!want)) ∧ ∀ w, H w → TF f T w undef w) : ∀ w, H w → relAt P ops n false (TF f T w) o a w := fun w hw => by
  refine relAt_not ?_ (h.2 w hw)
  rw [wanted_of hg h.1]; cases want <;> rfl

/-- Told by its value; no guard. -/
theorem relS_det (mask : List Bool) {x : Value} (hf : fr done.length = false) (hg : o.guard.isNone = true) (hm : (done.map fun x => !x.1.apart ops o) = mask) (h : oblS (fun a H => ∀ w, H w → relUpon P w.heap.size w (IsV x) ((execOp a.eval o).run P w)) done mask a0 C)
    (hr : wpRelS P ops n fr C Q a0 (done ++ [(o, .inl x)]) later) : wpRelS P ops n fr C Q a0 done (o :: later) :=
  relS_step (x := .inl x) (IsV.stable x) (by rw [hf]; exact oblS_use (fun a H h => relS_free (by simpa using hg) a H fun w hw => relUpon_mono (fun _ _ h => TF_false h) (h w hw)) done mask a0 C hm h) hr
/-- Told by a predicate; no guard. -/
theorem relS_any (mask : List Bool) (T : VT) (hT : T.Stable) (hf : fr done.length = false) (hg : o.guard.isNone = true) (hm : (done.map fun x => !x.1.apart ops o) = mask) (h : oblS (fun a H => ∀ w, H w → ∀ T' : VT, (∀ u w', T u w' → T' u w') → relUpon P w.heap.size w T' ((execOp a.eval o).run P w)) done mask a0 C)
    (hr : wpRelS P ops n fr C Q a0 (done ++ [(o, .inr T)]) later) : wpRelS P ops n fr C Q a0 done (o :: later) :=
  relS_step (x := .inr T) hT (by rw [hf]; exact oblS_use (fun a H h => relS_free (by simpa using hg) a H fun w hw => h w hw _ (fun _ _ h => TF_false h)) done mask a0 C hm h) hr
/-- A block that it makes, told apart from the others. -/
theorem relS_fresh (mask : List Bool) (T : VT) (hT : T.Stable) (hf : fr done.length = true) (hg : o.guard.isNone = true) (hm : (done.map fun x => !x.1.apart ops o) = mask) (h : oblS (fun a H => ∀ w, H w → relUpon P w.heap.size w (TF true T w) ((execOp a.eval o).run P w)) done mask a0 C)
    (hr : wpRelS P ops n fr C Q a0 (done ++ [(o, .inr T)]) later) : wpRelS P ops n fr C Q a0 done (o :: later) :=
  relS_step (x := .inr T) hT (by rw [hf]; exact oblS_use (fun a H h => relS_free (by simpa using hg) a H h) done mask a0 C hm h) hr
/-- Told by its value; a guard lets it. -/
theorem relS_detg (mask : List Bool) (t : Tmp) (want : Bool) {x : Value} (hf : fr done.length = false) (hg : guardIs ops o t want = true) (hm : (done.map fun x => !x.1.apart ops o) = mask) (h : oblS (fun a H => a.tmps[t]? = some (.bool want) ∧ ∀ w, H w → relUpon P w.heap.size w (IsV x) ((execOp a.eval o).run P w)) done mask a0 C)
    (hr : wpRelS P ops n fr C Q a0 (done ++ [(o, .inl x)]) later) : wpRelS P ops n fr C Q a0 done (o :: later) :=
  relS_step (x := .inl x) (IsV.stable x) (by rw [hf]; exact oblS_use (fun a H h => relS_wanted t want hg a H ⟨h.1, fun w hw => relUpon_mono (fun _ _ h => TF_false h) (h.2 w hw)⟩) done mask a0 C hm h) hr
theorem relS_anyg (mask : List Bool) (t : Tmp) (want : Bool) (T : VT) (hT : T.Stable) (hf : fr done.length = false) (hg : guardIs ops o t want = true) (hm : (done.map fun x => !x.1.apart ops o) = mask) (h : oblS (fun a H => a.tmps[t]? = some (.bool want) ∧ ∀ w, H w → ∀ T' : VT, (∀ u w', T u w' → T' u w') → relUpon P w.heap.size w T' ((execOp a.eval o).run P w)) done mask a0 C)
    (hr : wpRelS P ops n fr C Q a0 (done ++ [(o, .inr T)]) later) : wpRelS P ops n fr C Q a0 done (o :: later) :=
  relS_step (x := .inr T) hT (by rw [hf]; exact oblS_use (fun a H h => relS_wanted t want hg a H ⟨h.1, fun w hw => h.2 w hw _ (fun _ _ h => TF_false h)⟩) done mask a0 C hm h) hr
/-- A guard forbids it. -/
theorem relS_not (mask : List Bool) (t : Tmp) (want : Bool) (hf : fr done.length = false) (hg : guardIs ops o t want = true) (hm : (done.map fun x => !x.1.apart ops o) = mask) (h : oblS (fun a _ => a.tmps[t]? = some (.bool (!want))) done mask a0 C)
    (hr : wpRelS P ops n fr C Q a0 (done ++ [(o, .inl undef)]) later) : wpRelS P ops n fr C Q a0 done (o :: later) :=
  relS_step (x := .inl undef) (IsV.stable undef) (by rw [hf]; exact oblS_use (fun a H h => relS_unwanted t want hg a H ⟨h, fun w _ => TF_false rfl⟩) done mask a0 C hm h) hr

/-- The end: the frame with all values. -/
def finS (Q : Act → World → Prop) (fr : Nat → Bool) : Nat → List Value → List Ent → Act → (World → Prop) → Prop
  | k, seen, (o, .inl x) :: rest, a, H => finS Q fr (k + 1) seen rest (a.put o.dst x) H
  | k, seen, (o, .inr T) :: rest, a, H => match fr k with
    | true => ∀ v, finS Q fr (k + 1) (v :: seen) rest (a.put o.dst v) (fun w => H w ∧ T v w ∧ v ∉ seen)
    | false => ∀ v, finS Q fr (k + 1) seen rest (a.put o.dst v) (fun w => H w ∧ T v w)
  | _, _, [], a, H => ∀ w, H w → Q a w
theorem finS_use : ∀ (done : List Ent) (k : Nat) (seen : List Value) (a : Act) (H : World → Prop), (∀ j o x, done[j]? = some (o, .inl x) → fr (k + j) = false) → finS Q fr k seen done a H → finT Q fr k seen (done.map Ent.vt) a H
  | [], _, _, _, _, _, h => h
  | (o, .inl x) :: rest, k, seen, a, H, hf, h => by
    have h0 : fr k = false := hf 0 o x rfl
    refine finT_det h0 (finS_use rest (k + 1) seen _ _ (fun j o' x' hj => ?_) h)
    have := hf (j + 1) o' x' (by simpa using hj)
    rwa [show k + (j + 1) = k + 1 + j by omega] at this
  | (o, .inr T) :: rest, k, seen, a, H, hf, h => by
    have hf' : ∀ j o' x', rest[j]? = some (o', .inl x') → fr (k + 1 + j) = false := fun j o' x' hj => by
      have := hf (j + 1) o' x' (by simpa using hj)
      rwa [show k + (j + 1) = k + 1 + j by omega] at this
    unfold finS at h
    cases hk : fr k with
    | true =>
      rw [hk] at h
      exact finT_fresh hk fun v => finS_use rest (k + 1) _ _ _ hf' (h v)
    | false =>
      rw [hk] at h
      exact finT_var hk fun v => finS_use rest (k + 1) _ _ _ hf' (h v)
def detB (fr : Nat → Bool) : Nat → List Ent → Bool
  | k, (_, .inl _) :: rest => !fr k && detB fr (k + 1) rest
  | k, (_, .inr _) :: rest => detB fr (k + 1) rest
  | _, [] => true
theorem detB_spec : ∀ (done : List Ent) (k : Nat), detB fr k done = true → ∀ j o x, done[j]? = some (o, .inl x) → fr (k + j) = false
  | [], _, _, j, o, x, h => by simp at h
  | (o', .inl x') :: rest, k, hd, j, o, x, h => by
    simp only [detB, Bool.and_eq_true, Bool.not_eq_true'] at hd
    cases j with
    | zero => simpa using hd.1
    | succ j =>
      have := detB_spec rest (k + 1) hd.2 j o x (by simpa using h)
      rwa [show k + (j + 1) = k + 1 + j by omega]
  | (o', .inr x') :: rest, k, hd, j, o, x, h => by
    simp only [detB] at hd
    cases j with
    | zero => simp at h
    | succ j =>
      have := detB_spec rest (k + 1) hd j o x (by simpa using h)
      rwa [show k + (j + 1) = k + 1 + j by omega]
theorem relS_end (hd : detB fr 0 done = true) (h : finS Q fr 0 [] done a0 C) : wpRelS P ops n fr C Q a0 done [] :=
  finS_use done 0 [] a0 C (detB_spec done 0 hd) h
end
end Go.Proofs.Ytoalmffhiinbbaa
