/- Regions with weak and strong operations, in short: RelS over RelQ. Over any program. -/
import Derived.Test.YtbegdcjofnfkiaaGreatDoorRelQ
namespace Go.Proofs.YtbegdcjofnfkiaaGreatDoor
open Go.RowKit
section
variable {P : Program} {ops : Array Oper} {n : Nat} {weak frag strong : Nat → Bool} {C Cs : World → Prop} {Q : Act → World → Prop} {a0 : Act} {done : List Ent} {later : List Oper} {o : Oper} {T : VT}
theorem obl_H {wk : Bool} : ∀ (rest : List (Oper × VT)) (a : Act) (H H' : World → Prop), (∀ w, H' w → H w) → obl P ops n wk T o rest a H → obl P ops n wk T o rest a H'
  | [], _, _, _, hh, h => fun w hw => h w (hh w hw)
  | y :: rest, a, H, H', hh, h => by
    rw [obl] at h ⊢
    split
    · rename_i hap; rw [if_pos hap] at h; exact obl_H rest _ _ _ hh h
    · rename_i hap; rw [if_neg hap] at h; exact fun v => obl_H rest _ _ _ (fun w hw => ⟨hh w hw.1, hw.2⟩) (h v)
theorem obl_no {wk : Bool} : ∀ (rest : List (Oper × VT)) (a : Act) (H : World → Prop), (∀ w, ¬ H w) → obl P ops n wk T o rest a H
  | [], _, _, hh => fun w hw => absurd hw (hh w)
  | y :: rest, a, H, hh => by
    rw [obl]
    split
    · exact obl_no rest _ _ hh
    · exact fun v => obl_no rest _ _ (fun w hw => hh w hw.1)
theorem oblQ_use {wk : Bool} {E : Act → (World → Prop) → Prop} (hE : ∀ a H, E a H → ∀ w, H w → relAt P ops n wk T o a w) : ∀ (done : List Ent) (mask : List Bool) (a : Act) (H : World → Prop), (done.map fun x => !x.1.apart ops o) = mask → oblS E done mask a H → obl P ops n wk T o (done.map Ent.vt) a H
  | [], _, a, H, hm, h => by
    subst hm
    exact hE a H h
  | (oj, x) :: rest, _, a, H, hm, h => by
    subst hm
    simp only [List.map_cons]
    unfold obl
    cases hap : oj.apart ops o with
    | true =>
      simp only [Ent.vt, hap, if_true]
      refine oblQ_use hE rest _ a H rfl ?_
      simp only [List.map_cons, hap, Bool.not_true] at h
      cases x <;> exact h
    | false =>
      simp only [Ent.vt, hap, Bool.false_eq_true, if_false]
      intro v
      simp only [List.map_cons, hap, Bool.not_false] at h
      cases x with
      | inl x =>
        by_cases hv : v = x
        · subst hv
          exact obl_H _ _ _ _ (fun w hw => hw.1) (oblQ_use hE rest _ _ _ rfl h)
        · exact obl_no _ _ _ (fun w hw => hv hw.2)
      | inr T' => exact oblQ_use hE rest _ _ _ rfl (h v)
def wpRelQS (P : Program) (ops : Array Oper) (n : Nat) (weak frag strong : Nat → Bool) (Cs C : World → Prop) (Q : Act → World → Prop) (a0 : Act) (done : List Ent) (rest : List Oper) : Prop := wpRelQ P ops n weak frag strong Cs C Q a0 (done.map Ent.vt) rest
theorem wp_region_QS {id : Nat} {Q : Exit → Act → World → Prop} {a : Act} {w : World} {l : List Oper} (n : Nat) (weak frag strong : Nat → Bool) (hn : n ≤ w.heap.size) (hm : P.follows .mixedOrders = true) (hB : relB l.toArray = true) (hkB : killJ l.toArray weak frag = true) (hsB : strongB l.toArray weak strong = true)
    (h : wpRelQS P l.toArray n weak frag strong (Below w.heap.size w) (Below n w) (fun a' w' => Q .normal a' w') a [] l) : (Code.region id l.toArray true).wp P Q a w :=
  wp_region_relQ n weak frag strong hn hm hB hkB hsB h
theorem qs_step {x : Value ⊕ VT} (hT : (Ent.vt (o, x)).2.Stable) (hR : frag done.length = false → (Ent.vt (o, x)).2.Robust n) (h : obl P ops n (weak done.length) (Ent.vt (o, x)).2 o (done.map Ent.vt) a0 (if strong done.length = true then Cs else C))
    (hr : wpRelQS P ops n weak frag strong Cs C Q a0 (done ++ [(o, x)]) later) : wpRelQS P ops n weak frag strong Cs C Q a0 done (o :: later) := by
  refine ⟨_, fun _ => hT, by simpa using hR, by simpa using h, ?_⟩
  unfold wpRelQS at hr
  rw [List.map_append] at hr
  exact hr
theorem qs_wanted {m : World → Nat} (hm : (fun w => reach n (weak done.length) w) = m) (hg : o.guard.isNone = true) {a : Act} {w : World} (h : relUpon P (m w) w T ((execOp a.eval o).run P w)) : relAt P ops n (weak done.length) T o a w := by
  subst hm
  refine relAt_wanted ?_ h
  unfold Region.wanted
  rw [show o.guard = none by simpa using hg]
theorem qs_wantedg {m : World → Nat} {t : Tmp} {want : Bool} (hm : (fun w => reach n (weak done.length) w) = m) (hg : guardIs ops o t want = true) {a : Act} {w : World} (hb : a.tmps[t]? = some (.bool want)) (h : relUpon P (m w) w T ((execOp a.eval o).run P w)) : relAt P ops n (weak done.length) T o a w := by
  subst hm
  refine relAt_wanted ?_ h
  rw [wanted_of hg hb]; simp
/-- Told by its value; no guard. S: what is known of the world; m: how far it may turn it. -/
theorem qs_det (mask : List Bool) (S : World → Prop) (m : World → Nat) {x : Value} (hS : (if strong done.length = true then Cs else C) = S) (hm : (fun w => reach n (weak done.length) w) = m) (hg : o.guard.isNone = true) (hk : (done.map fun x => !x.1.apart ops o) = mask)
    (h : oblS (fun a H => ∀ w, H w → relUpon P (m w) w (IsV x) ((execOp a.eval o).run P w)) done mask a0 S) (hr : wpRelQS P ops n weak frag strong Cs C Q a0 (done ++ [(o, .inl x)]) later) : wpRelQS P ops n weak frag strong Cs C Q a0 done (o :: later) :=
  qs_step (x := .inl x) (IsV.stable x) (fun _ => IsV.robust n x) (by rw [hS]; exact oblQ_use (fun a H h w hw => qs_wanted hm hg (h w hw)) done mask a0 S hk h) hr
/-- Told by a predicate; no guard. -/
theorem qs_any (mask : List Bool) (S : World → Prop) (m : World → Nat) (T : VT) (hT : T.Stable) (hf : frag done.length = true) (hS : (if strong done.length = true then Cs else C) = S) (hm : (fun w => reach n (weak done.length) w) = m) (hg : o.guard.isNone = true) (hk : (done.map fun x => !x.1.apart ops o) = mask)
    (h : oblS (fun a H => ∀ w, H w → ∀ T' : VT, (∀ u w', T u w' → T' u w') → relUpon P (m w) w T' ((execOp a.eval o).run P w)) done mask a0 S) (hr : wpRelQS P ops n weak frag strong Cs C Q a0 (done ++ [(o, .inr T)]) later) : wpRelQS P ops n weak frag strong Cs C Q a0 done (o :: later) :=
  qs_step (x := .inr T) hT (fun h => by rw [hf] at h; cases h) (by rw [hS]; exact oblQ_use (fun a H h w hw => qs_wanted hm hg (h w hw _ fun _ _ h => h)) done mask a0 S hk h) hr
theorem qs_detg (mask : List Bool) (S : World → Prop) (m : World → Nat) (t : Tmp) (want : Bool) {x : Value} (hS : (if strong done.length = true then Cs else C) = S) (hm : (fun w => reach n (weak done.length) w) = m) (hg : guardIs ops o t want = true) (hk : (done.map fun x => !x.1.apart ops o) = mask)
    (h : oblS (fun a H => a.tmps[t]? = some (.bool want) ∧ ∀ w, H w → relUpon P (m w) w (IsV x) ((execOp a.eval o).run P w)) done mask a0 S) (hr : wpRelQS P ops n weak frag strong Cs C Q a0 (done ++ [(o, .inl x)]) later) : wpRelQS P ops n weak frag strong Cs C Q a0 done (o :: later) :=
  qs_step (x := .inl x) (IsV.stable x) (fun _ => IsV.robust n x) (by rw [hS]; exact oblQ_use (fun a H h w hw => qs_wantedg hm hg h.1 (h.2 w hw)) done mask a0 S hk h) hr
theorem qs_anyg (mask : List Bool) (S : World → Prop) (m : World → Nat) (t : Tmp) (want : Bool) (T : VT) (hT : T.Stable) (hf : frag done.length = true) (hS : (if strong done.length = true then Cs else C) = S) (hm : (fun w => reach n (weak done.length) w) = m) (hg : guardIs ops o t want = true) (hk : (done.map fun x => !x.1.apart ops o) = mask)
    (h : oblS (fun a H => a.tmps[t]? = some (.bool want) ∧ ∀ w, H w → ∀ T' : VT, (∀ u w', T u w' → T' u w') → relUpon P (m w) w T' ((execOp a.eval o).run P w)) done mask a0 S) (hr : wpRelQS P ops n weak frag strong Cs C Q a0 (done ++ [(o, .inr T)]) later) : wpRelQS P ops n weak frag strong Cs C Q a0 done (o :: later) :=
  qs_step (x := .inr T) hT (fun h => by rw [hf] at h; cases h) (by rw [hS]; exact oblQ_use (fun a H h w hw => qs_wantedg hm hg h.1 (h.2 w hw _ fun _ _ h => h)) done mask a0 S hk h) hr
/-- A guard forbids it. -/
theorem qs_not (mask : List Bool) (t : Tmp) (want : Bool) (hg : guardIs ops o t want = true) (hk : (done.map fun x => !x.1.apart ops o) = mask) (h : oblS (fun a _ => a.tmps[t]? = some (.bool (!want))) done mask a0 (if strong done.length = true then Cs else C))
    (hr : wpRelQS P ops n weak frag strong Cs C Q a0 (done ++ [(o, .inl undef)]) later) : wpRelQS P ops n weak frag strong Cs C Q a0 done (o :: later) :=
  qs_step (x := .inl undef) (IsV.stable undef) (fun _ => IsV.robust n undef) (oblQ_use (fun a H h w _ => relAt_not (by rw [wanted_of hg h]; cases want <;> rfl) rfl) done mask a0 _ hk h) hr
def deads (dead : Nat → Bool) : Nat → Nat → List Bool
  | _, 0 => []
  | k, n + 1 => dead k :: deads dead (k + 1) n
/-- The end: the frame with all values; what is told of fragile ones that a later weak operation may have spoilt is lost. -/
def finQ (Q : Act → World → Prop) : List Ent → List Bool → Act → (World → Prop) → Prop
  | (o, .inl x) :: rest, _ :: dm, a, H => finQ Q rest dm (a.put o.dst x) H
  | (o, .inr _) :: rest, true :: dm, a, H => ∀ v, finQ Q rest dm (a.put o.dst v) H
  | (o, .inr T) :: rest, false :: dm, a, H => ∀ v, finQ Q rest dm (a.put o.dst v) (fun w => H w ∧ T v w)
  | [], _, a, H => ∀ w, H w → Q a w
  | _ :: _, [], _, _ => False
theorem finQ_use {dead : Nat → Bool} : ∀ (done : List Ent) (k : Nat) (a : Act) (H : World → Prop), detB dead k done = true → finQ Q done (deads dead k done.length) a H → fin Q dead k (done.map Ent.vt) a H
  | [], _, _, _, _, h => h
  | (o, .inl x) :: rest, k, a, H, hf, h => by
    simp only [detB, Bool.and_eq_true, Bool.not_eq_true'] at hf
    exact fin_det hf.1 (finQ_use rest (k + 1) _ _ hf.2 h)
  | (o, .inr T) :: rest, k, a, H, hf, h => by
    simp only [detB] at hf
    simp only [List.length_cons, deads] at h
    cases hk : dead k with
    | true =>
      rw [hk] at h
      exact fin_dead fun v => finQ_use rest (k + 1) _ _ hf (h v)
    | false =>
      rw [hk] at h
      exact fin_var hk fun v => finQ_use rest (k + 1) _ _ hf (h v)
theorem qs_end (dm : List Bool) (hd : detB (lost weak frag ops.size) 0 done = true) (hk : deads (lost weak frag ops.size) 0 done.length = dm) (h : finQ Q done dm a0 C) : wpRelQS P ops n weak frag strong Cs C Q a0 done [] := by
  subst hk
  exact finQ_use done 0 a0 C hd h
end
end Go.Proofs.YtbegdcjofnfkiaaGreatDoor
