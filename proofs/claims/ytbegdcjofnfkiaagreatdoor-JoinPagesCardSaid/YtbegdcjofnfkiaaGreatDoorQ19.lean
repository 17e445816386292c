/- Several texts in one: RelZ RelY. -/
import Derived.Test.YtbegdcjofnfkiaaGreatDoorQ18
namespace Go.Proofs.YtbegdcjofnfkiaaGreatDoor
section
open Go.RowKit
section
variable {P : Program} {ops : Array Oper} {R : World → World → Prop} {wk : Bool} {weak frag : Nat → Bool}
def VT.RobustZ (R : World → World → Prop) (T : VT) : Prop := ∀ v w w', R w w' → T v w → T v w'
theorem IsV.robustZ (R : World → World → Prop) (x : Value) : (IsV x).RobustZ R := fun _ _ _ _ h => h
def reachZ (R : World → World → Prop) (weak : Bool) (w w' : World) : Prop := if weak = true then R w w' else Below w.heap.size w w'
def relUponZ (P : Program) (B : World → Prop) (T : VT) : Result Next → Prop
 | .ok (.value u) w' => B w' ∧ T u w'
 | .ok .skip w' => B w' ∧ T undef w'
 | .ok (.enter f args) w' => Calls P f args w' fun e w'' => ∃ v, e = .returned v ∧ B w'' ∧ T v w''
 | _ => False
def relAtZ (P : Program) (ops : Array Oper) (R : World → World → Prop) (weak : Bool) (T : VT) (o : Oper) (a : Act) (w : World) : Prop :=
 if Region.wanted o (yielded ops a.tmps) = true then relUponZ P (reachZ R weak w) T ((execOp a.eval o).run P w) else T undef w
theorem Agree.relZ {T : VT} {o : Oper} {a a' : Act} {w : World} (hs : ∀ cs b, o.op ≠ .select cs b) (h : Agree ops o a a') (hr : relAtZ P ops R wk T o a w) : relAtZ P ops R wk T o a' w := by
 unfold relAtZ at *
 rwa [← h.exec hs, ← h.wanted]
theorem relAtZ_wanted {T : VT} {o : Oper} {a : Act} {w : World} (hw : Region.wanted o (yielded ops a.tmps) = true) (h : relUponZ P (reachZ R wk w) T ((execOp a.eval o).run P w)) : relAtZ P ops R wk T o a w := by
 unfold relAtZ; rw [if_pos hw]; exact h
def oblZ (P : Program) (ops : Array Oper) (R : World → World → Prop) (wk : Bool) (T : VT) (o : Oper) : List (Oper × VT) → Act → (World → Prop) → Prop
 | [], a, H => ∀ w, H w → relAtZ P ops R wk T o a w
 | x :: rest, a, H => if x.1.apart ops o = true then oblZ P ops R wk T o rest a H else ∀ v, oblZ P ops R wk T o rest (a.put x.1.dst v) (fun w => H w ∧ x.2 v w)
theorem obl_useZ {T : VT} {o : Oper} (vs : Nat → Value) {w : World} : ∀ (done : List (Oper × VT)) (k : Nat) (a : Act) (H : World → Prop), oblZ P ops R wk T o done a H → H w →
    (∀ (j : Nat) (x : Oper × VT), done[j]? = some x → x.1.apart ops o = false → x.2 (vs (k + j)) w) → relAtZ P ops R wk T o (fillL (fun j => match done[j - k]? with | some x => !x.1.apart ops o | none => false) vs k (done.map (·.1)) a) w
  | [], _, _, _, h, hH, _ => h w hH
  | x :: rest, k, a, H, h, hH, hT => by
    unfold oblZ at h
    simp only [List.map_cons, fillL]
    have e : ∀ a', fillL (fun j => match (x :: rest)[j - k]? with | some x => !x.1.apart ops o | none => false) vs (k + 1) (rest.map (·.1)) a' = fillL (fun j => match rest[j - (k + 1)]? with | some x => !x.1.apart ops o | none => false) vs (k + 1) (rest.map (·.1)) a' := by
      intro a'
      refine fillL_ext _ _ _ fun j hj _ => ⟨?_, fun _ => rfl⟩
      rw [show j - k = (j - (k + 1)) + 1 by omega]
      simp
    rw [e]
    have hT' : ∀ (j : Nat) (y : Oper × VT), rest[j]? = some y → y.1.apart ops o = false → y.2 (vs (k + 1 + j)) w := fun j y hj hy => by
      have := hT (j + 1) y (by simpa using hj) hy
      rwa [show k + (j + 1) = k + 1 + j by omega] at this
    have hx := hT 0 x (by simp)
    simp only [Nat.sub_self, List.getElem?_cons_zero, Nat.add_zero] at hx ⊢
    cases hap : x.1.apart ops o with
    | true =>
      rw [hap] at h
      simp only [if_true] at h
      simp only [Bool.not_true, Bool.false_eq_true, if_false]
      exact obl_useZ vs rest (k + 1) a H h hH hT'
    | false =>
      rw [hap] at h
      simp only [Bool.false_eq_true, if_false] at h
      simp only [Bool.not_false, if_true]
      exact obl_useZ vs rest (k + 1) _ _ (h (vs k)) ⟨hH, hx hap⟩ hT'
def wpRelZ (P : Program) (ops : Array Oper) (R : World → World → Prop) (weak frag strong : Nat → Bool) (Cs C : World → Prop) (Q : Act → World → Prop) (a0 : Act) : List (Oper × VT) → List Oper → Prop
 | done, [] => fin Q (lost weak frag ops.size) 0 done a0 C
 | done, o :: rest => ∃ T : VT, (frag done.length = true → T.Stable) ∧ (frag done.length = false → T.RobustZ R) ∧ oblZ P ops R (weak done.length) T o done a0 (if strong done.length = true then Cs else C) ∧ wpRelZ P ops R weak frag strong Cs C Q a0 (done ++ [(o, T)]) rest
theorem wpRelZ_all {strong : Nat → Bool} {C Cs : World → Prop} {Q : Act → World → Prop} {a0 : Act} : ∀ (rest : List Oper) (done : List (Oper × VT)), wpRelZ P ops R weak frag strong Cs C Q a0 done rest →
    ∃ D : List (Oper × VT), D.map (·.1) = done.map (·.1) ++ rest ∧ D.take done.length = done ∧ (∀ (k : Nat) (o : Oper) (T : VT), done.length ≤ k → D[k]? = some (o, T) → (frag k = true → T.Stable) ∧ (frag k = false → T.RobustZ R) ∧ oblZ P ops R (weak k) T o (D.take k) a0 (if strong k = true then Cs else C)) ∧ fin Q (lost weak frag ops.size) 0 D a0 C
  | [], done, h => ⟨done, by simp, by simp, ⟨fun k o T hk hD => (by rw [List.getElem?_eq_none hk] at hD; cases hD), h⟩⟩
  | o :: rest, done, ⟨T, hT, hT', ho, h⟩ => by
    obtain ⟨D, h1, h2, h3, h4⟩ := wpRelZ_all rest _ h
    have hlen : (done ++ [(o, T)]).length = done.length + 1 := by simp
    rw [hlen] at h2 h3
    have hd : D.take done.length = done := by
      have := congrArg (List.take done.length) h2
      rw [List.take_take, Nat.min_eq_left (by omega)] at this
      rw [this]
      simp
    refine ⟨D, by rw [h1]; simp, hd, fun k o' T' hk hD => ?_, h4⟩
    rcases Nat.lt_or_ge done.length k with hlt | hge
    · exact h3 k o' T' (by omega) hD
    · obtain rfl : k = done.length := by omega
      have he : D[done.length]? = some (o, T) := by
        have := congrArg (fun l => l[done.length]?) h2
        simp only [List.getElem?_take] at this
        rw [if_pos (by omega)] at this
        rw [this]
        simp
      rw [he] at hD
      injection hD with hD
      injection hD with e1 e2
      subst e1 e2
      rw [hd]
      exact ⟨hT, hT', ho⟩
end
section
variable {P : Program} {ops : Array Oper} {R : World → World → Prop} {weak frag strong : Nat → Bool} {C Cs : World → Prop} {Q : Act → World → Prop} {a0 : Act} {done : List Ent} {later : List Oper} {o : Oper} {T : VT}
theorem oblZ_H {wk : Bool} : ∀ (rest : List (Oper × VT)) (a : Act) (H H' : World → Prop), (∀ w, H' w → H w) → oblZ P ops R wk T o rest a H → oblZ P ops R wk T o rest a H'
  | [], _, _, _, hh, h => fun w hw => h w (hh w hw)
  | y :: rest, a, H, H', hh, h => by
    rw [oblZ] at h ⊢
    split
    · rename_i hap; rw [if_pos hap] at h; exact oblZ_H rest _ _ _ hh h
    · rename_i hap; rw [if_neg hap] at h; exact fun v => oblZ_H rest _ _ _ (fun w hw => ⟨hh w hw.1, hw.2⟩) (h v)
theorem oblZ_no {wk : Bool} : ∀ (rest : List (Oper × VT)) (a : Act) (H : World → Prop), (∀ w, ¬ H w) → oblZ P ops R wk T o rest a H
  | [], _, _, hh => fun w hw => absurd hw (hh w)
  | y :: rest, a, H, hh => by
    rw [oblZ]
    split
    · exact oblZ_no rest _ _ hh
    · exact fun v => oblZ_no rest _ _ (fun w hw => hh w hw.1)
theorem oblZS_use {wk : Bool} {E : Act → (World → Prop) → Prop} (hE : ∀ a H, E a H → ∀ w, H w → relAtZ P ops R wk T o a w) : ∀ (done : List Ent) (mask : List Bool) (a : Act) (H : World → Prop), (done.map fun x => !x.1.apart ops o) = mask → oblS E done mask a H → oblZ P ops R wk T o (done.map Ent.vt) a H
  | [], _, a, H, hm, h => by
    subst hm
    exact hE a H h
  | (oj, x) :: rest, _, a, H, hm, h => by
    subst hm
    simp only [List.map_cons]
    unfold oblZ
    cases hap : oj.apart ops o with
    | true =>
      simp only [Ent.vt, hap, if_true]
      refine oblZS_use hE rest _ a H rfl ?_
      simp only [List.map_cons, hap, Bool.not_true] at h
      cases x <;> exact h
    | false =>
      simp only [Ent.vt, hap, Bool.false_eq_true, if_false]
      intro v
      simp only [List.map_cons, hap, Bool.not_false] at h
      cases x with
      | inl x =>
        by_cases hv : v = x
        · subst hv
          exact oblZ_H _ _ _ _ (fun w hw => hw.1) (oblZS_use hE rest _ _ _ rfl h)
        · exact oblZ_no _ _ _ (fun w hw => hv hw.2)
      | inr T' => exact oblZS_use hE rest _ _ _ rfl (h v)
def wpRelZS (P : Program) (ops : Array Oper) (R : World → World → Prop) (weak frag strong : Nat → Bool) (Cs C : World → Prop) (Q : Act → World → Prop) (a0 : Act) (done : List Ent) (rest : List Oper) : Prop := wpRelZ P ops R weak frag strong Cs C Q a0 (done.map Ent.vt) rest
theorem zs_step {x : Value ⊕ VT} (hT : (Ent.vt (o, x)).2.Stable) (hR : frag done.length = false → (Ent.vt (o, x)).2.RobustZ R) (h : oblZ P ops R (weak done.length) (Ent.vt (o, x)).2 o (done.map Ent.vt) a0 (if strong done.length = true then Cs else C))
  (hr : wpRelZS P ops R weak frag strong Cs C Q a0 (done ++ [(o, x)]) later) : wpRelZS P ops R weak frag strong Cs C Q a0 done (o :: later) := by
 refine ⟨_, fun _ => hT, by simpa using hR, by simpa using h, ?_⟩
 unfold wpRelZS at hr
 rw [List.map_append] at hr
 exact hr
theorem zs_wanted {m : World → World → Prop} (hm : (fun w => reachZ R (weak done.length) w) = m) (hg : o.guard.isNone = true) {a : Act} {w : World} (h : relUponZ P (m w) T ((execOp a.eval o).run P w)) : relAtZ P ops R (weak done.length) T o a w := by
 subst hm
 refine relAtZ_wanted ?_ h
 unfold Region.wanted
 rw [show o.guard = none by simpa using hg]
theorem zs_wantedg {m : World → World → Prop} {t : Tmp} {want : Bool} (hm : (fun w => reachZ R (weak done.length) w) = m) (hg : guardIs ops o t want = true) {a : Act} {w : World} (hb : a.tmps[t]? = some (.bool want)) (h : relUponZ P (m w) T ((execOp a.eval o).run P w)) : relAtZ P ops R (weak done.length) T o a w := by
 subst hm
 refine relAtZ_wanted ?_ h
 rw [wanted_of hg hb]; simp
theorem zs_det (mask : List Bool) (S : World → Prop) (m : World → World → Prop) {x : Value} (hS : (if strong done.length = true then Cs else C) = S) (hm : (fun w => reachZ R (weak done.length) w) = m) (hg : o.guard.isNone = true) (hk : (done.map fun x => !x.1.apart ops o) = mask)
  (h : oblS (fun a H => ∀ w, H w → relUponZ P (m w) (IsV x) ((execOp a.eval o).run P w)) done mask a0 S) (hr : wpRelZS P ops R weak frag strong Cs C Q a0 (done ++ [(o, .inl x)]) later) : wpRelZS P ops R weak frag strong Cs C Q a0 done (o :: later) :=
 zs_step (x := .inl x) (IsV.stable x) (fun _ => IsV.robustZ R x) (by rw [hS]; exact oblZS_use (fun a H h w hw => zs_wanted hm hg (h w hw)) done mask a0 S hk h) hr
theorem zs_any (mask : List Bool) (S : World → Prop) (m : World → World → Prop) (T : VT) (hT : T.Stable) (hf : frag done.length = true) (hS : (if strong done.length = true then Cs else C) = S) (hm : (fun w => reachZ R (weak done.length) w) = m) (hg : o.guard.isNone = true) (hk : (done.map fun x => !x.1.apart ops o) = mask)
  (h : oblS (fun a H => ∀ w, H w → ∀ T' : VT, (∀ u w', T u w' → T' u w') → relUponZ P (m w) T' ((execOp a.eval o).run P w)) done mask a0 S) (hr : wpRelZS P ops R weak frag strong Cs C Q a0 (done ++ [(o, .inr T)]) later) : wpRelZS P ops R weak frag strong Cs C Q a0 done (o :: later) :=
 zs_step (x := .inr T) hT (fun h => by rw [hf] at h; cases h) (by rw [hS]; exact oblZS_use (fun a H h w hw => zs_wanted hm hg (h w hw _ fun _ _ h => h)) done mask a0 S hk h) hr
theorem zs_detg (mask : List Bool) (S : World → Prop) (m : World → World → Prop) (t : Tmp) (want : Bool) {x : Value} (hS : (if strong done.length = true then Cs else C) = S) (hm : (fun w => reachZ R (weak done.length) w) = m) (hg : guardIs ops o t want = true) (hk : (done.map fun x => !x.1.apart ops o) = mask)
  (h : oblS (fun a H => a.tmps[t]? = some (.bool want) ∧ ∀ w, H w → relUponZ P (m w) (IsV x) ((execOp a.eval o).run P w)) done mask a0 S) (hr : wpRelZS P ops R weak frag strong Cs C Q a0 (done ++ [(o, .inl x)]) later) : wpRelZS P ops R weak frag strong Cs C Q a0 done (o :: later) :=
 zs_step (x := .inl x) (IsV.stable x) (fun _ => IsV.robustZ R x) (by rw [hS]; exact oblZS_use (fun a H h w hw => zs_wantedg hm hg h.1 (h.2 w hw)) done mask a0 S hk h) hr
theorem zs_anyg (mask : List Bool) (S : World → Prop) (m : World → World → Prop) (t : Tmp) (want : Bool) (T : VT) (hT : T.Stable) (hf : frag done.length = true) (hS : (if strong done.length = true then Cs else C) = S) (hm : (fun w => reachZ R (weak done.length) w) = m) (hg : guardIs ops o t want = true) (hk : (done.map fun x => !x.1.apart ops o) = mask)
  (h : oblS (fun a H => a.tmps[t]? = some (.bool want) ∧ ∀ w, H w → ∀ T' : VT, (∀ u w', T u w' → T' u w') → relUponZ P (m w) T' ((execOp a.eval o).run P w)) done mask a0 S) (hr : wpRelZS P ops R weak frag strong Cs C Q a0 (done ++ [(o, .inr T)]) later) : wpRelZS P ops R weak frag strong Cs C Q a0 done (o :: later) :=
 zs_step (x := .inr T) hT (fun h => by rw [hf] at h; cases h) (by rw [hS]; exact oblZS_use (fun a H h w hw => zs_wantedg hm hg h.1 (h.2 w hw _ fun _ _ h => h)) done mask a0 S hk h) hr
theorem zs_end (dm : List Bool) (hd : detB (lost weak frag ops.size) 0 done = true) (hk : deads (lost weak frag ops.size) 0 done.length = dm) (h : finQ Q done dm a0 C) : wpRelZS P ops R weak frag strong Cs C Q a0 done [] := by
 subst hk
 exact finQ_use done 0 a0 C hd h
end
end
section
open Go.RowKit
section
variable {P : Program} {ops : Array Oper} {R : World → World → Prop} {wk : Bool} {weak frag : Nat → Bool}
theorem wpAny_of_relY {m : Nat} {strong : Nat → Bool} {C Cs : World → Prop} {Q : Exit → Act → World → Prop} {a0 : Act} {D : List (Oper × VT)} (hl : D.map (·.1) = ops.toList.take m) (hmm : m ≤ ops.size) (hBT : relBT ops m = true) (hB : relB ops = true) (hkB : killJ ops weak frag = true) (hsB : strongB ops weak strong = true) (hCs : ∀ w w', Cs w → Below w.heap.size w w' → Cs w') (hC : ∀ w w', C w → R w w' → C w') (hRB : ∀ w w', C w → Below w.heap.size w w' → R w w')
    (ho : ∀ (k : Nat) (o : Oper) (T : VT), D[k]? = some (o, T) → (frag k = true → T.Stable) ∧ (frag k = false → T.RobustZ R) ∧ oblZ P ops R (weak k) T o (D.take k) a0 (if strong k = true then Cs else C)) (hf : fin (fun a w => wpList P ops Q (ops.toList.drop m) a w) (lost weak frag ops.size) 0 D a0 C) :
    ∀ (fuel : Nat) (listed : Array Bool) (vs : Nat → Value) (w : World), listed.size = ops.size → unl ops.size listed ≤ fuel → (∀ j, m ≤ j → listed.getD j false = false) →
      (∀ (j : Nat) (oj : Oper), ops[j]? = some oj → listed.getD j false = true → ∀ e ∈ oj.after, Region.binds .any e = true → listed.getD e.on false = true) →
      (∀ (j : Nat) (o : Oper) (T : VT), D[j]? = some (o, T) → listed.getD j false = true → ¬ killed weak frag ops.size listed j → T (vs j) w) → C w → ((∀ i, weak i = true → listed.getD i false = false) → Cs w) →
      wpAny P .any ops Q fuel listed (fillL (fun j => listed.getD j false) vs 0 (ops.toList.take m) a0) w := by
  obtain ⟨hsel0, hB⟩ := relB_spec hB
  have hsel := Region.noSelect_spec hsel0
  obtain ⟨_, _, _, htl⟩ := relBT_spec hBT
  have hDl : D.length = m := by
    have := congrArg List.length hl
    simp at this
    omega
  have hDo : ∀ {j : Nat} {x : Oper × VT}, D[j]? = some x → j < m ∧ ops[j]? = some x.1 := by
    intro j x hj
    have hjm : j < m := by rw [← hDl]; exact (List.getElem?_eq_some_iff.1 hj).1
    have h1 := congrArg (fun l => l[j]?) hl
    simp only [List.getElem?_map, hj, Option.map_some, List.getElem?_take, if_pos hjm] at h1
    exact ⟨hjm, by simpa using h1.symm⟩
  have hD : ∀ (k : Nat) (o : Oper), k < m → ops[k]? = some o → ∃ T : VT, D[k]? = some (o, T) := by
    intro k o hkm hk
    have hkD : k < D.length := by omega
    have h1 := hDo (List.getElem?_eq_getElem hkD)
    rw [hk] at h1
    exact ⟨D[k].2, by rw [List.getElem?_eq_getElem hkD, Option.some.inj h1.2]⟩
  have hfirst : ∀ (listed : Array Bool) (vs : Nat → Value) (w : World) (fuel : Nat), listed.size = ops.size → unl ops.size listed ≤ fuel → (∀ j, j < m → listed.getD j false = true) → (∀ j, m ≤ j → listed.getD j false = false) →
      (∀ (j : Nat) (o : Oper) (T : VT), D[j]? = some (o, T) → listed.getD j false = true → ¬ killed weak frag ops.size listed j → T (vs j) w) → C w →
      wpAny P .any ops Q fuel listed (fillL (fun j => listed.getD j false) vs 0 (ops.toList.take m) a0) w := by
    intro listed vs w fuel hsz hfu hon hoff hT hCw
    refine wpAny_tail hBT fuel m listed _ w hsz hfu (Nat.le_refl _) hmm hon hoff ?_
    rw [← hl]
    refine fin_use vs D 0 a0 C hf hCw fun j x hj => ?_
    obtain ⟨hjm, _⟩ := hDo hj
    rw [Nat.zero_add]
    refine ⟨hon j hjm, fun hd => hT j x.1 x.2 hj (hon j hjm) ?_⟩
    rintro ⟨hfr, i, hi, hw, hji, _⟩
    have : lost weak frag ops.size j = true := by
      simp only [lost, hfr, Bool.true_and, List.any_eq_true, List.mem_range]
      exact ⟨i, hi, by simp [hw, hji]⟩
    rw [this] at hd
    cases hd
  intro fuel
  induction fuel with
  | zero =>
    intro listed vs w hsz hfu hoff _ hT hCw _
    refine hfirst listed vs w 0 hsz hfu (fun j hj => ?_) hoff hT hCw
    rcases hb : listed.getD j false with _ | _
    · exfalso
      have hjl : j < listed.size := by omega
      have := unl_set (i := j) hsz (by omega) (by simpa [hjl] using hb)
      omega
    · rfl
  | succ fuel ih =>
    intro listed vs w hsz hfu hoff hcl hT hCw hSw
    by_cases hall : ∀ j, j < m → listed.getD j false = true
    · exact hfirst listed vs w (fuel + 1) hsz hfu hall hoff hT hCw
    refine ⟨fun hr => ?_, fun i hi => ?_⟩
    · exfalso
      apply hall
      intro j
      induction j using Nat.strongRecOn with
      | ind j ihj =>
        intro hj
        cases hb : listed.getD j false with
        | true => rfl
        | false =>
          exfalso
          have hjo : j < ops.size := by omega
          have hm' : j ∈ Region.ready .any ops listed := by
            rw [mem_ready]
            have hjl : j < listed.size := by omega
            refine ⟨by simpa [hjl] using hb, ops[j], Array.getElem?_eq_getElem hjo, fun e he hbd => ?_⟩
            have hlt := (hB j ops[j] (Array.getElem?_eq_getElem hjo)).1 e he hbd
            exact ihj e.on hlt (by omega)
          rw [hr] at hm'
          cases hm'
    obtain ⟨h0, oi, hoi, hdeps⟩ := mem_ready.1 hi
    have hilt := (Array.getElem?_eq_some_iff.1 hoi).1
    have hioff : listed.getD i false = false := by
      have : i < listed.size := by omega
      simpa [this] using h0
    have him : i < m := by
      rcases Nat.lt_or_ge i m with h1 | h1
      · exact h1
      · exfalso
        apply hall
        intro j hj
        exact behind_listed (listed := fun j => listed.getD j false) hcl 13 j i oi hoi hdeps (htl i oi hoi h1 j (by omega))
    obtain ⟨T, hDi⟩ := hD i oi him hoi
    obtain ⟨_, _, hob⟩ := ho i oi T hDi
    -- an operation that is listed and later is apart
    have hlater : ∀ j oj, ops[j]? = some oj → i < j → listed.getD j false = true → oi.apart ops oj = true := fun j oj hj hij hon => by
      rcases (hB j oj hj).2 i oi hij hoi with ⟨e, he, hb, hon'⟩ | h
      · have := hcl j oj hj hon e he hb
        rw [hon', hioff] at this
        cases this
      · exact h
    have hearlier : ∀ j oj, ops[j]? = some oj → j < i → oj.apart ops oi = false → listed.getD j false = true := fun j oj hj hij hna => by
      rcases (hB i oi hoi).2 j oj hij hj with ⟨e, he, hb, hon'⟩ | h
      · have := hdeps e he hb
        rwa [hon'] at this
      · rw [h] at hna; cases hna
    have hCi : (if strong i = true then Cs else C) w := by
      split
      · rename_i hsi
        refine hSw fun p hp => ?_
        rcases hb : listed.getD p false with _ | _
        · rfl
        · exfalso
          rcases Nat.lt_or_ge p ops.size with hps | hps
          · rcases strongB_spec hsB hsi hp hilt hps with rfl | hbe
            · rw [hioff] at hb; cases hb
            · have := behind_listed (listed := fun j => listed.getD j false) hcl 13 i p _ (Array.getElem?_eq_getElem hps) (fun e he hbd => hcl p _ (Array.getElem?_eq_getElem hps) hb e he hbd) hbe
              rw [hioff] at this; cases this
          · have : listed.size ≤ p := by omega
            rw [show listed.getD p false = false by simp [Array.getElem?_eq_none this]] at hb; cases hb
      · exact hCw
    have hused := obl_useZ (w := w) vs (D.take i) 0 a0 _ hob hCi (fun j x hj hna => by
      rw [Nat.zero_add]
      rw [List.getElem?_take] at hj
      split at hj
      · rename_i hji
        have hoj : ops[j]? = some x.1 := (hDo hj).2
        refine hT j x.1 x.2 hj (hearlier j x.1 hoj hji hna) ?_
        rintro ⟨hfr, i', hi', hw, hji', hon'⟩
        rcases (killJ_spec hkB (Array.getElem?_eq_getElem hi') hoj hw hfr).1 hji' i oi hoi hji hna with e | e1
        · rw [← e, hioff] at hon'; cases hon'
        · have e2 := must_listed hB hcl 2 i' i e1 hon'
          rw [hioff] at e2; cases e2
      · cases hj)
    have hrel : relAtZ P ops R (weak i) T oi (fillL (fun j => listed.getD j false) vs 0 (ops.toList.take m) a0) w := by
      refine Agree.relZ (hsel i oi · · hoi) ?_ hused
      -- the frame with what is read, and the whole one
      have hsplit : ops.toList.take m = (D.take i).map (·.1) ++ (ops.toList.take m).drop i := by
        rw [← hl, List.map_take, List.take_append_drop]
      have hfa : ∀ (on : Nat → Bool) (l1 l2 : List Oper) (k : Nat) (a : Act), fillL on vs k (l1 ++ l2) a = fillL on vs (k + l1.length) l2 (fillL on vs k l1 a) := by
        intro on l1
        induction l1 with
        | nil => intro l2 k a; rfl
        | cons x l1 ih => intro l2 k a; simp only [List.cons_append, fillL, List.length_cons]; rw [ih]; congr 1; omega
      have hlen : ((D.take i).map (·.1)).length = i := by simp; omega
      have h1 : Agree ops oi (fillL (fun j => match (D.take i)[j - 0]? with | some x => !x.1.apart ops oi | none => false) vs 0 ((D.take i).map (·.1)) a0) (fillL (fun j => listed.getD j false) vs 0 ((D.take i).map (·.1)) a0) := by
        refine fillL_agree _ _ _ _ (Agree.refl _ _) fun j oj hj hne x hx => ?_
        rw [List.getElem?_map] at hj
        cases hd : (D.take i)[j]? with
        | none => rw [hd] at hj; simp at hj
        | some y =>
          rw [hd] at hj
          simp at hj
          subst hj
          have hji : j < i := by
            have := (List.getElem?_eq_some_iff.1 hd).1
            simp at this
            omega
          rw [List.getElem?_take, if_pos hji] at hd
          have hoj : ops[j]? = some y.1 := (hDo hd).2
          have hyy : (D.take i)[j]? = some y := by rw [List.getElem?_take, if_pos hji]; exact hd
          simp only [Nat.zero_add, Nat.sub_zero, hyy] at hne
          cases hap : y.1.apart ops oi with
          | true => exact (Oper.apart_spec hap).1 x hx
          | false =>
            rw [hap, hearlier j y.1 hoj hji hap] at hne
            exact absurd rfl hne
      rw [hsplit, hfa, hlen]
      have h2 : ∀ (l : List Oper) (k : Nat) (a : Act), (∀ j oj, l[j]? = some oj → listed.getD (k + j) false = true → ∀ x, oj.dst = some x → x ∉ oi.looksAt ops) → Agree ops oi a (fillL (fun j => listed.getD j false) vs k l a) := by
        intro l k a hh
        have := fillL_agree (ops := ops) (o := oi) (on := fun _ => false) (on' := fun j => listed.getD j false) (vs := vs) l k a a (Agree.refl _ _) (fun j oj hj hne x hx => hh j oj hj (by
          cases hb : listed.getD (k + j) false with
          | true => rfl
          | false => exact absurd hb.symm hne) x hx)
        have hz : ∀ (l : List Oper) (k : Nat) (a : Act), fillL (fun _ => false) vs k l a = a := by
          intro l
          induction l with
          | nil => intro k a; rfl
          | cons o l ih => intro k a; simp only [fillL, Bool.false_eq_true, if_false]; exact ih _ _
        rwa [hz] at this
      refine fun t ht => (h1 t ht).trans (h2 ((ops.toList.take m).drop i) (0 + i) _ (fun j oj hj hon x hx => ?_) t ht)
      rw [List.getElem?_drop, List.getElem?_take] at hj
      have hoj : ops[i + j]? = some oj := by
        split at hj
        · simpa using hj
        · cases hj
      rw [Nat.zero_add] at hon
      rcases Nat.eq_zero_or_pos j with rfl | hpos
      · rw [Nat.add_zero, hioff] at hon; cases hon
      · exact (Oper.apart_spec (hlater (i + j) oj hoj (by omega) hon)).2.2 x hx
    -- the step
    have next : ∀ v w', reachZ R (weak i) w w' → T v w' → wpAny P .any ops Q fuel (listed.setIfInBounds i true) ((fillL (fun j => listed.getD j false) vs 0 (ops.toList.take m) a0).put oi.dst v) w' := by
      intro v w' hb hv
      have hbn : R w w' := by
        unfold reachZ at hb
        split at hb
        · exact hb
        · exact hRB w w' hCw hb
      have htk : ∀ (j : Nat) (oj : Oper), (ops.toList.take m)[j]? = some oj → ops[j]? = some oj := by
        intro j oj hj
        rw [List.getElem?_take] at hj
        split at hj
        · simpa using hj
        · cases hj
      rw [fillL_set (i := i) (oi := oi) (ops.toList.take m) 0 a0 (Nat.zero_le _) (by rw [Nat.sub_zero, List.getElem?_take, if_pos him]; simpa using hoi) hioff (fun j oj hj hij hon x hx => by
        rw [Nat.zero_add] at hij hon
        exact (Oper.apart_spec (hlater j oj (htk j oj hj) hij hon)).2.1 x hx)]
      have hset : ∀ j, j < ops.size → (j == i || listed.getD j false) = (listed.setIfInBounds i true).getD j false := by
        intro j hj
        by_cases hji : j = i
        · subst hji
          have : j < listed.size := by omega
          simp [this]
        · rw [getD_set_ne false (Ne.symm hji)]
          simp [hji]
      rw [fillL_ext (on' := fun j => (listed.setIfInBounds i true).getD j false) (vs' := fun j => if j = i then v else vs j) (ops.toList.take m) 0 a0 (fun j _ hj => ⟨hset j (by simp at hj; omega), fun _ => rfl⟩)]
      refine ih _ _ w' (by simpa using hsz) (by have := unl_set hsz hilt h0; omega) (fun j hj => by rw [getD_set_ne false (by omega)]; exact hoff j hj) (fun j oj hj hon e he hbd => ?_) (fun j o T' hj hon hnk => ?_) (hC w w' hCw hbn) (fun hno => ?_)
      · by_cases hji : j = i
        · subst hji
          rw [hoi] at hj
          injection hj with hj
          subst hj
          exact getD_set_true (hdeps e he hbd)
        · rw [getD_set_ne false (Ne.symm hji)] at hon
          exact getD_set_true (hcl j oj hj hon e he hbd)
      · by_cases hji : j = i
        · subst hji
          rw [hDi] at hj
          injection hj with hj
          injection hj with e1 e2
          subst e1 e2
          simpa using hv
        · rw [getD_set_ne false (Ne.symm hji)] at hon
          simp only [if_neg hji]
          have hjlt : j < ops.size := by have := (hDo hj).1; omega
          have hTj := hT j o T' hj hon (fun ⟨hfr, i', hi', hw, hji', hon'⟩ => hnk ⟨hfr, i', hi', hw, hji', getD_set_true hon'⟩)
          cases hfr : frag j with
          | false => exact (ho j o T' hj).2.1 hfr _ _ _ hbn hTj
          | true =>
            cases hwi : weak i with
            | false =>
              rw [hwi] at hb
              simp only [reachZ, Bool.false_eq_true, if_false] at hb
              exact (ho j o T' hj).1 hfr _ _ _ hb hTj
            | true =>
              exfalso
              have hil : i < listed.size := by omega
              rcases Nat.lt_or_ge j i with hlt | hge
              · exact hnk ⟨hfr, i, hilt, hwi, hlt, by simp [hil]⟩
              · have hij : i < j := by omega
                rcases (killJ_spec hkB hoi (Array.getElem?_eq_getElem hjlt) hwi hfr).2 hij with e2 | ⟨e, he, hb', hon'⟩
                · rw [hlater j _ (Array.getElem?_eq_getElem hjlt) hij hon] at e2
                  cases e2
                · have := hcl j _ (Array.getElem?_eq_getElem hjlt) hon e he hb'
                  rw [hon', hioff] at this
                  cases this
      · have hwi : weak i = false := by
          rcases hwi : weak i with _ | _
          · rfl
          · exfalso
            have h8 := hno i hwi
            have h7 : i < listed.size := by omega
            have h6 : (listed.setIfInBounds i true).getD i false = true := by simp [h7]
            rw [h6] at h8
            cases h8
        rw [hwi] at hb
        simp only [reachZ, Bool.false_eq_true, if_false] at hb
        refine hCs w w' (hSw fun p hp => ?_) hb
        have h9 := hno p hp
        by_cases hpi : p = i
        · subst hpi; rw [hwi] at hp; cases hp
        · rwa [getD_set_ne false (Ne.symm hpi)] at h9
    unfold wpOp
    simp only [hoi]
    unfold relAtZ at hrel
    split
    · rename_i hw
      rw [if_pos hw] at hrel
      refine .inl ?_
      unfold Oper.wp
      generalize (execOp (fillL (fun j => listed.getD j false) vs 0 (ops.toList.take m) a0).eval oi).run P w = r at hrel
      cases r with
      | ok n w' =>
        cases n <;> simp only [relUponZ] at hrel <;> simp only [Oper.upon]
        case value u => exact next u w' hrel.1 hrel.2
        case skip => exact next undef w' hrel.1 hrel.2
        case enter f args =>
          exact hrel.mono fun e w'' ⟨v, he, h1, h2⟩ => by subst he; exact next v w'' h1 h2
      | halt x w' => simp only [relUponZ] at hrel
    · rename_i hw
      rw [if_neg hw] at hrel
      exact next undef w (by unfold reachZ; split; exact hRB w w hCw (Below.refl _ _); exact Below.refl _ _) hrel
theorem wp_region_YS {id : Nat} {Q : Exit → Act → World → Prop} {a : Act} {w : World} {l : List Oper} (R : World → World → Prop) (m : Nat) (weak frag strong : Nat → Bool) (htr : ∀ a b c, R a b → R b c → R a c) (hRB : ∀ w1 w2, (w1 = w ∨ R w w1) → Below w1.heap.size w1 w2 → R w1 w2) (hm : P.follows .mixedOrders = true) (hml : decide (m ≤ l.length) = true) (hBT : relBT l.toArray m = true) (hB : relB l.toArray = true) (hkB : killJ l.toArray weak frag = true) (hsB : strongB l.toArray weak strong = true)
  (h : wpRelZS P l.toArray R weak frag strong (Below w.heap.size w) (R w) (fun a' w' => wpList P l.toArray Q (l.drop m) a' w') a [] (l.take m)) : (Code.region id l.toArray true).wp P Q a w := by
 have hm' : m ≤ l.length := by simpa using hml
 obtain ⟨D, h1, _, h3, h4⟩ := wpRelZ_all _ [] h
 refine wp_region_any hm ?_
 have := wpAny_of_relY (m := m) (Q := Q) (ops := l.toArray) (D := D) (a0 := a) (C := R w) (Cs := Below w.heap.size w) (strong := strong) (by simpa using h1) (by simpa using hm') hBT hB hkB hsB (fun w1 w2 hb hb' => hb.trans (hb'.mono hb.size)) (fun w1 w2 hb hb' => htr _ _ _ hb hb') (fun w1 w2 hc hb => hRB w1 w2 (.inr hc) hb)
  (fun k o T hk => h3 k o T (Nat.zero_le _) hk) (by simpa using h4) l.toArray.size (Array.replicate l.toArray.size false) (fun _ => undef) { w with drawn := w.drawn + 1 } (by simp)
  (by unfold unl; exact Nat.le_trans (List.length_filter_le _ _) (by simp)) (fun j _ => getD_rep _ _) (fun j oj _ hon => by rw [getD_rep] at hon; cases hon) (fun j o T _ hon _ => by rw [getD_rep] at hon; cases hon) (hRB _ _ (.inl rfl) ⟨rfl, rfl, rfl, Nat.le_refl _, fun _ _ => rfl⟩) (fun _ => ⟨rfl, rfl, rfl, Nat.le_refl _, fun _ _ => rfl⟩)
 have hz : ∀ (l : List Oper) (on : Nat → Bool) (k : Nat) (a : Act), (∀ j, on j = false) → fillL on (fun _ => undef) k l a = a := by
  intro l on
  induction l with
  | nil => intro k a _; rfl
  | cons o l ih => intro k a hon; simp only [fillL, hon, Bool.false_eq_true, if_false]; exact ih _ _ hon
 rwa [hz _ _ _ _ (fun j => getD_rep _ _)] at this
end
section
variable {P : Program} {ops : Array Oper} {R : World → World → Prop} {weak frag strong : Nat → Bool} {C Cs : World → Prop} {Q : Act → World → Prop} {a0 : Act} {done : List Ent} {later : List Oper} {o : Oper} {T : VT}
theorem zs_rob (mask : List Bool) (S : World → Prop) (m : World → World → Prop) (T : VT) (hT : T.Stable) (hR : T.RobustZ R) (hS : (if strong done.length = true then Cs else C) = S) (hm : (fun w => reachZ R (weak done.length) w) = m) (hg : o.guard.isNone = true) (hk : (done.map fun x => !x.1.apart ops o) = mask)
  (h : oblS (fun a H => ∀ w, H w → ∀ T' : VT, (∀ u w', T u w' → T' u w') → relUponZ P (m w) T' ((execOp a.eval o).run P w)) done mask a0 S) (hr : wpRelZS P ops R weak frag strong Cs C Q a0 (done ++ [(o, .inr T)]) later) : wpRelZS P ops R weak frag strong Cs C Q a0 done (o :: later) :=
 zs_step (x := .inr T) hT (fun _ => hR) (by rw [hS]; exact oblZS_use (fun a H h w hw => zs_wanted hm hg (h w hw _ fun _ _ h => h)) done mask a0 S hk h) hr
end
end
end Go.Proofs.YtbegdcjofnfkiaaGreatDoor
