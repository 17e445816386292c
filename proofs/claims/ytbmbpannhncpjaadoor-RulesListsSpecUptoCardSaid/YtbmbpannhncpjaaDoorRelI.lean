/- As RelT's law, for an operation whose guard is not decided. Over any program. -/
import Derived.Test.YtbmbpannhncpjaaDoorRelT
namespace Go.Proofs.YtbmbpannhncpjaaDoor
open Go.RowKit
section
variable {P : Program} {ops : Array Oper} {n : Nat} {fr : Nat → Bool} {C : World → Prop} {Q : Act → World → Prop} {a0 : Act} {done : List Ent} {later : List Oper} {o : Oper} {T : VT}

/-- A guard that is not decided: g tells whether it lets the operation. -/
theorem wanted_iff {t : Tmp} {want g : Bool} {a : Act} {v : Value} (hg : guardIs ops o t want = true) (hv : a.tmps[t]? = some v) (h1 : g = true → v = .bool want) (h2 : g = false → v ≠ .bool want) : Region.wanted o (yielded ops a.tmps) = g := by
  unfold guardIs at hg
  split at hg
  · rename_i gi b' hgu
    simp only [Bool.and_eq_true, beq_iff_eq] at hg
    unfold Region.wanted yielded
    rw [hgu]
    simp only [hg.1, Option.bind_some, hv, hg.2]
    cases g with
    | true => rw [h1 rfl]; cases want <;> rfl
    | false =>
      have := h2 rfl
      cases v <;> try rfl
      rename_i b
      cases b <;> cases want <;> first | rfl | exact absurd rfl this
  · cases hg
theorem guard_free {X g want : Bool} (h : g = (X == want)) : (g = true → Value.bool X = .bool want) ∧ (g = false → Value.bool X ≠ .bool want) := by
  subst h
  cases X <;> cases want <;> simp
theorem guard_in {c X g want : Bool} (h : g = (c && (X == want))) : (g = true → (if c = true then Value.bool X else undef) = .bool want) ∧ (g = false → (if c = true then Value.bool X else undef) ≠ .bool want) := by
  subst h
  cases c <;> cases X <;> cases want <;> simp [undef]
theorem relS_if (mask : List Bool) (t : Tmp) (want g : Bool) {x : Value} (hf : fr done.length = false) (hg : guardIs ops o t want = true) (hm : (done.map fun x => !x.1.apart ops o) = mask)
    (h : oblS (fun a H => (∃ v, a.tmps[t]? = some v ∧ (g = true → v = .bool want) ∧ (g = false → v ≠ .bool want)) ∧ (g = true → ∀ w, H w → relUpon P w.heap.size w (IsV x) ((execOp a.eval o).run P w))) done mask a0 C)
    (hr : wpRelS P ops n fr C Q a0 (done ++ [(o, .inl (if g = true then x else undef))]) later) : wpRelS P ops n fr C Q a0 done (o :: later) :=
  relS_step (x := .inl (if g = true then x else undef)) (IsV.stable _) (by
    rw [hf]
    refine oblS_use (fun a H h => ?_) done mask a0 C hm h
    obtain ⟨⟨v, hv, h1, h2⟩, h3⟩ := h
    intro w hw
    have hwt := wanted_iff hg hv h1 h2
    cases g with
    | true =>
      refine relAt_wanted hwt ?_
      exact relUpon_mono (fun _ _ h => TF_false (by simpa [Ent.vt] using h)) (h3 rfl w hw)
    | false => exact relAt_not hwt (TF_false rfl)) hr
/-- The end, where of some values nothing is wanted any more. -/
def finK (Q : Act → World → Prop) (fr : Nat → Bool) : Nat → List Value → List Ent → List Bool → Act → (World → Prop) → Prop
  | k, seen, (o, _) :: rest, false :: keep, a, H => ∀ v, finK Q fr (k + 1) seen rest keep (a.put o.dst v) H
  | k, seen, (o, .inl x) :: rest, true :: keep, a, H => finK Q fr (k + 1) seen rest keep (a.put o.dst x) H
  | k, seen, (o, .inr T) :: rest, true :: keep, a, H => match fr k with
    | true => ∀ v, finK Q fr (k + 1) (v :: seen) rest keep (a.put o.dst v) (fun w => H w ∧ T v w ∧ v ∉ seen)
    | false => ∀ v, finK Q fr (k + 1) seen rest keep (a.put o.dst v) (fun w => H w ∧ T v w)
  | _, _, _, _, a, H => ∀ w, H w → Q a w
def keepB (fr : Nat → Bool) : Nat → List Ent → List Bool → Bool
  | k, _ :: rest, b :: keep => (b || !fr k) && keepB fr (k + 1) rest keep
  | _, [], [] => true
  | _, _, _ => false
theorem finS_H : ∀ (done : List Ent) (k : Nat) (seen : List Value) (a : Act) (H H' : World → Prop), (∀ w, H' w → H w) → finS Q fr k seen done a H → finS Q fr k seen done a H'
  | [], _, _, _, _, _, hh, h => fun w hw => h w (hh w hw)
  | (o, .inl x) :: rest, k, seen, a, H, H', hh, h => finS_H rest (k + 1) seen _ H H' hh h
  | (o, .inr T) :: rest, k, seen, a, H, H', hh, h => by
    unfold finS at h ⊢
    cases hk : fr k with
    | true => rw [hk] at h; exact fun v => finS_H rest (k + 1) _ _ _ _ (fun w hw => ⟨hh w hw.1, hw.2⟩) (h v)
    | false => rw [hk] at h; exact fun v => finS_H rest (k + 1) _ _ _ _ (fun w hw => ⟨hh w hw.1, hw.2⟩) (h v)
theorem finK_use : ∀ (done : List Ent) (keep : List Bool) (k : Nat) (seen : List Value) (a : Act) (H : World → Prop), keepB fr k done keep = true → finK Q fr k seen done keep a H → finS Q fr k seen done a H
  | [], [], _, _, _, _, _, h => h
  | [], _ :: _, _, _, _, _, hk, _ => by simp [keepB] at hk
  | (o, .inl x) :: rest, true :: keep, k, seen, a, H, hk, h => finK_use rest keep (k + 1) seen _ H (by simp [keepB] at hk; exact hk) h
  | (o, .inr T) :: rest, true :: keep, k, seen, a, H, hk, h => by
    have hk' : keepB fr (k + 1) rest keep = true := by simp [keepB] at hk; exact hk
    unfold finK at h
    unfold finS
    cases hf : fr k with
    | true => rw [hf] at h; exact fun v => finK_use rest keep (k + 1) _ _ _ hk' (h v)
    | false => rw [hf] at h; exact fun v => finK_use rest keep (k + 1) _ _ _ hk' (h v)
  | (o, .inl x) :: rest, false :: keep, k, seen, a, H, hk, h => finK_use rest keep (k + 1) seen _ H (by simp [keepB] at hk; exact hk.2) (h x)
  | (o, .inr T) :: rest, false :: keep, k, seen, a, H, hk, h => by
    simp only [keepB, Bool.and_eq_true, Bool.false_or, Bool.not_eq_true'] at hk
    unfold finK at h
    unfold finS
    rw [hk.1]
    exact fun v => finS_H rest (k + 1) seen _ H _ (fun w hw => hw.1) (finK_use rest keep (k + 1) seen _ H hk.2 (h v))
  | _ :: _, [], _, _, _, _, hk, _ => by simp [keepB] at hk
theorem relS_endK (keep : List Bool) (hd : detB fr 0 done = true) (hk : keepB fr 0 done keep = true) (h : finK Q fr 0 [] done keep a0 C) : wpRelS P ops n fr C Q a0 done [] :=
  relS_end hd (finK_use done keep 0 [] a0 C hk h)
end
end Go.Proofs.YtbmbpannhncpjaaDoor
