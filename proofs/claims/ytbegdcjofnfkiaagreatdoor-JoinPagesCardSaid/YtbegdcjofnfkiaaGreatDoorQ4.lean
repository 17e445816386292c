/- Several texts in one: RelT RelI. -/
import Derived.Test.YtbegdcjofnfkiaaGreatDoorQ3
namespace Go.Proofs.YtbegdcjofnfkiaaGreatDoor
end Go.Proofs.YtbegdcjofnfkiaaGreatDoor
section
namespace Go.Proofs.YtbegdcjofnfkiaaGreatDoor
open Go.RowKit
section
variable {P : Program} {ops : Array Oper} {n m : Nat} {fr : Nat → Bool}
def TF (f : Bool) (T : VT) (w : World) : VT := fun v w' => T v w' ∧ (f = true → ∃ b, v = .pointer (some ⟨b, 0, none⟩) ∧ w.heap.size ≤ b ∧ b < w'.heap.size)
def oblT (P : Program) (ops : Array Oper) (n : Nat) (f : Bool) (T : VT) (o : Oper) : List (Oper × VT) → Act → (World → Prop) → Prop
 | [], a, H => ∀ w, H w → relAt P ops n false (TF f T w) o a w
 | x :: rest, a, H => if x.1.apart ops o = true then oblT P ops n f T o rest a H else ∀ v, oblT P ops n f T o rest (a.put x.1.dst v) (fun w => H w ∧ x.2 v w)
def finT (Q : Act → World → Prop) (fr : Nat → Bool) : Nat → List Value → List (Oper × VT) → Act → (World → Prop) → Prop
 | _, _, [], a, H => ∀ w, H w → Q a w
 | k, seen, x :: rest, a, H => ∀ v, finT Q fr (k + 1) (if fr k = true then v :: seen else seen) rest (a.put x.1.dst v) (fun w => H w ∧ x.2 v w ∧ (fr k = true → v ∉ seen))
def wpRelT (P : Program) (ops : Array Oper) (n : Nat) (fr : Nat → Bool) (C : World → Prop) (Q : Act → World → Prop) (a0 : Act) : List (Oper × VT) → List Oper → Prop
 | done, [] => finT Q fr 0 [] done a0 C
 | done, o :: rest => ∃ T : VT, T.Stable ∧ oblT P ops n (fr done.length) T o done a0 C ∧ wpRelT P ops n fr C Q a0 (done ++ [(o, T)]) rest
def direct (ops : Array Oper) (i j : Nat) : Bool := match ops[j]? with
 | some oj => oj.after.any fun e => Region.binds .any e && e.on == i
 | none => false
def behind (ops : Array Oper) : Nat → Nat → Nat → Bool
 | 0, _, _ => false
 | f + 1, i, j => direct ops i j || (List.range j).any fun k => direct ops k j && behind ops f i k
def relBT (ops : Array Oper) (m : Nat) : Bool :=
  Region.noSelect ops && (List.range ops.size).all fun j => match ops[j]? with
    | none => true
    | some oj => (oj.after.all fun e => !Region.binds .any e || decide (e.on < j)) && (List.range j).all fun i => match ops[i]? with
      | none => true
      | some oi => direct ops i j || (if j < m then oi.apart ops oj else behind ops 12 i j)
theorem direct_spec {i j : Nat} (h : direct ops i j = true) : ∃ oj, ops[j]? = some oj ∧ ∃ e ∈ oj.after, Region.binds .any e = true ∧ e.on = i := by
 unfold direct at h
 split at h
 ·rename_i oj ho
  obtain ⟨e, he, hb⟩ := Array.any_eq_true'.1 h
  simp only [Bool.and_eq_true, beq_iff_eq] at hb
  exact ⟨oj, ho, e, he, hb.1, hb.2⟩
 ·cases h
theorem behind_succ {f i j : Nat} (h : behind ops f i j = true) : behind ops (f + 1) i j = true := by
  induction f generalizing i j with
  | zero => simp [behind] at h
  | succ f ih =>
    unfold behind at h ⊢
    simp only [Bool.or_eq_true, List.any_eq_true, List.mem_range, Bool.and_eq_true] at h ⊢
    rcases h with h | ⟨k, h1, h2, h3⟩
    · exact .inl h
    · exact .inr ⟨k, h1, h2, ih h3⟩
theorem relBT_spec (h : relBT ops m = true) : Region.noSelect ops = true ∧ (∀ j oj, ops[j]? = some oj → ∀ e ∈ oj.after, Region.binds .any e = true → e.on < j) ∧
  (∀ j oj, ops[j]? = some oj → j < m → ∀ i oi, i < j → ops[i]? = some oi → (∃ e ∈ oj.after, Region.binds .any e = true ∧ e.on = i) ∨ oi.apart ops oj = true) ∧
  (∀ j oj, ops[j]? = some oj → m ≤ j → ∀ i, i < j → behind ops 13 i j = true) := by
 simp only [relBT, Bool.and_eq_true, List.all_eq_true, List.mem_range] at h
 have hj : ∀ j oj, ops[j]? = some oj → (∀ e ∈ oj.after, Region.binds .any e = true → e.on < j) ∧ ∀ i oi, i < j → ops[i]? = some oi → (direct ops i j = true ∨ (if j < m then oi.apart ops oj else behind ops 12 i j) = true) := by
  intro j oj hj
  have h1 := h.2 j (Array.getElem?_eq_some_iff.1 hj).1
  simp only [hj, Bool.and_eq_true, Array.all_eq_true_iff_forall_mem, List.all_eq_true, List.mem_range] at h1
  refine ⟨fun e he hb => by simpa [hb] using h1.1 e he, fun i oi hij hi => ?_⟩
  have h2 := h1.2 i hij
  simp only [hi, Bool.or_eq_true] at h2
  exact h2
 have hd : ∀ {i j oj}, ops[j]? = some oj → direct ops i j = true → ∃ e ∈ oj.after, Region.binds .any e = true ∧ e.on = i := by
  intro i j oj ho hd
  obtain ⟨oj', ho', h⟩ := direct_spec hd
  rw [ho] at ho'
  cases ho'
  exact h
 refine ⟨h.1, fun j oj ho => (hj j oj ho).1, fun j oj ho hjm i oi hij hi => ?_, fun j oj ho hjm i hij => ?_⟩
 ·rcases (hj j oj ho).2 i oi hij hi with h1 | h1
  ·exact .inl (hd ho h1)
  ·rw [if_pos hjm] at h1
   exact .inr h1
 ·have hjl := (Array.getElem?_eq_some_iff.1 ho).1
  have hil : i < ops.size := by omega
  rcases (hj j oj ho).2 i _ hij (Array.getElem?_eq_getElem hil) with h1 | h1
  ·unfold behind; rw [h1]; rfl
  ·rw [if_neg (by omega)] at h1
   exact behind_succ h1
theorem behind_listed {listed : Nat → Bool} (hcl : ∀ (j : Nat) (oj : Oper), ops[j]? = some oj → listed j = true → ∀ e ∈ oj.after, Region.binds .any e = true → listed e.on = true) :
    ∀ (f i j : Nat) (oj : Oper), ops[j]? = some oj → (∀ e ∈ oj.after, Region.binds .any e = true → listed e.on = true) → behind ops f i j = true → listed i = true
  | 0, _, _, _, _, _, h => by simp [behind] at h
  | f + 1, i, j, oj, ho, hd, h => by
    simp only [behind, Bool.or_eq_true, List.any_eq_true, List.mem_range, Bool.and_eq_true] at h
    rcases h with h | ⟨k, _, hk, h⟩
    · obtain ⟨oj', ho', e, he, hb, hon⟩ := direct_spec h
      rw [ho] at ho'; cases ho'
      rw [← hon]; exact hd e he hb
    · obtain ⟨oj', ho', e, he, hb, hon⟩ := direct_spec hk
      rw [ho] at ho'; cases ho'
      have hkl : listed k = true := by rw [← hon]; exact hd e he hb
      rcases Nat.lt_or_ge k ops.size with hks | hks
      · exact behind_listed hcl f i k _ (Array.getElem?_eq_getElem hks) (fun e he hb => hcl k _ (Array.getElem?_eq_getElem hks) hkl e he hb) h
      · exfalso
        cases f with
        | zero => simp [behind] at h
        | succ f =>
          simp only [behind, Bool.or_eq_true, List.any_eq_true, List.mem_range, Bool.and_eq_true] at h
          have hn : ∀ x, direct ops x k = false := fun x => by simp [direct, Array.getElem?_eq_none hks]
          rcases h with h | ⟨x, _, h, _⟩
          · rw [hn] at h; cases h
          · rw [hn] at h; cases h
theorem obl_useT {f : Bool} {T : VT} {o : Oper} (vs : Nat → Value) {w : World} : ∀ (done : List (Oper × VT)) (k : Nat) (a : Act) (H : World → Prop), oblT P ops n f T o done a H → H w →
    (∀ (j : Nat) (x : Oper × VT), done[j]? = some x → x.1.apart ops o = false → x.2 (vs (k + j)) w) → relAt P ops n false (TF f T w) o (fillL (fun j => match done[j - k]? with | some x => !x.1.apart ops o | none => false) vs k (done.map (·.1)) a) w
  | [], _, _, _, h, hH, _ => h w hH
  | x :: rest, k, a, H, h, hH, hT => by
    unfold oblT at h
    simp only [List.map_cons, fillL]
    have e : ∀ a', fillL (fun j => match (x :: rest)[j - k]? with | some x => !x.1.apart ops o | none => false) vs (k + 1) (rest.map (·.1)) a' = fillL (fun j => match rest[j - (k + 1)]? with | some x => !x.1.apart ops o | none => false) vs (k + 1) (rest.map (·.1)) a' := by
      intro a'
      refine fillL_ext _ _ _ fun j hj _ => ⟨?_, fun _ => rfl⟩
      rw [show j - k = (j - (k + 1)) + 1 by omega]
      simp
    rw [e]
    have hT' : ∀ (j : Nat) (y : Oper × VT), rest[j]? = some y → y.1.apart ops o = false → y.2 (vs (k + 1 + j)) w := fun j y hj hy => by
      have := hT (j + 1) y (by simpa using hj) hy
      rwa [show k + (j + 1) = k + 1 + j by omega] at this
    have hx := hT 0 x (by simp)
    simp only [Nat.sub_self, List.getElem?_cons_zero, Nat.add_zero] at hx ⊢
    cases hap : x.1.apart ops o with
    | true =>
      rw [hap] at h
      simp only [if_true] at h
      simp only [Bool.not_true, Bool.false_eq_true, if_false]
      exact obl_useT vs rest (k + 1) a H h hH hT'
    | false =>
      rw [hap] at h
      simp only [Bool.false_eq_true, if_false] at h
      simp only [Bool.not_false, if_true]
      exact obl_useT vs rest (k + 1) _ _ (h (vs k)) ⟨hH, hx hap⟩ hT'
theorem fin_useT {Q : Act → World → Prop} (vs : Nat → Value) {w : World} {on : Nat → Bool} : ∀ (done : List (Oper × VT)) (k : Nat) (seen : List Value) (a : Act) (H : World → Prop), finT Q fr k seen done a H → H w →
    (∀ (j : Nat) (x : Oper × VT), done[j]? = some x → on (k + j) = true ∧ x.2 (vs (k + j)) w ∧ (fr (k + j) = true → vs (k + j) ∉ seen ∧ ∀ i, i < j → fr (k + i) = true → vs (k + j) ≠ vs (k + i))) →
    Q (fillL on vs k (done.map (·.1)) a) w
  | [], _, _, _, _, h, hH, _ => h w hH
  | x :: rest, k, seen, a, H, h, hH, hT => by
    unfold finT at h
    have h0 := hT 0 x (by simp)
    simp only [Nat.add_zero] at h0
    simp only [List.map_cons, fillL, h0.1, if_true]
    refine fin_useT vs rest (k + 1) _ _ _ (h (vs k)) ⟨hH, h0.2.1, fun hf => (h0.2.2 hf).1⟩ fun j y hj => ?_
    have := hT (j + 1) y (by simpa using hj)
    rw [show k + (j + 1) = k + 1 + j by omega] at this
    refine ⟨this.1, this.2.1, fun hf => ⟨?_, fun i hi hfi => ?_⟩⟩
    · split
      · rename_i hk
        rw [List.mem_cons, not_or]
        exact ⟨(this.2.2 hf).2 0 (by omega) (by simpa using hk), (this.2.2 hf).1⟩
      · exact (this.2.2 hf).1
    · have := (this.2.2 hf).2 (i + 1) (by omega) (by rw [show k + (i + 1) = k + 1 + i by omega]; exact hfi)
      rwa [show k + (i + 1) = k + 1 + i by omega] at this
theorem wpRelT_all {C : World → Prop} {Q : Act → World → Prop} {a0 : Act} : ∀ (rest : List Oper) (done : List (Oper × VT)), wpRelT P ops n fr C Q a0 done rest →
    ∃ D : List (Oper × VT), D.map (·.1) = done.map (·.1) ++ rest ∧ D.take done.length = done ∧ (∀ (k : Nat) (o : Oper) (T : VT), done.length ≤ k → D[k]? = some (o, T) → T.Stable ∧ oblT P ops n (fr k) T o (D.take k) a0 C) ∧ finT Q fr 0 [] D a0 C
  | [], done, h => ⟨done, by simp, by simp, ⟨fun k o T hk hD => (by rw [List.getElem?_eq_none hk] at hD; cases hD), h⟩⟩
  | o :: rest, done, ⟨T, hT, ho, h⟩ => by
    obtain ⟨D, h1, h2, h3, h4⟩ := wpRelT_all rest _ h
    have hlen : (done ++ [(o, T)]).length = done.length + 1 := by simp
    rw [hlen] at h2 h3
    have hd : D.take done.length = done := by
      have := congrArg (List.take done.length) h2
      rw [List.take_take, Nat.min_eq_left (by omega)] at this
      rw [this]
      simp
    refine ⟨D, by rw [h1]; simp, hd, fun k o' T' hk hD => ?_, h4⟩
    rcases Nat.lt_or_ge done.length k with hlt | hge
    · exact h3 k o' T' (by omega) hD
    · obtain rfl : k = done.length := by omega
      have he : D[done.length]? = some (o, T) := by
        have := congrArg (fun l => l[done.length]?) h2
        simp only [List.getElem?_take] at this
        rw [if_pos (by omega)] at this
        rw [this]
        simp
      rw [he] at hD
      injection hD with hD
      injection hD with e1 e2
      subst e1 e2
      rw [hd]
      exact ⟨hT, ho⟩
theorem wpAny_tail {Q : Exit → Act → World → Prop} (hB : relBT ops m = true) : ∀ (fuel k : Nat) (listed : Array Bool) (a : Act) (w : World), listed.size = ops.size → unl ops.size listed ≤ fuel → m ≤ k → k ≤ ops.size →
    (∀ j, j < k → listed.getD j false = true) → (∀ j, k ≤ j → listed.getD j false = false) → wpList P ops Q (ops.toList.drop k) a w → wpAny P .any ops Q fuel listed a w := by
  obtain ⟨_, hlow, _, htl⟩ := relBT_spec hB
  have hnone : ∀ (k : Nat) (listed : Array Bool), listed.size = ops.size → k ≤ ops.size → (∀ j, j < k → listed.getD j false = true) → (∀ j, k ≤ j → listed.getD j false = false) → Region.ready .any ops listed = [] → k = ops.size := by
    intro k listed hsz hk hon hoff hr
    rcases Nat.lt_or_ge k ops.size with hlt | hge
    · exfalso
      have hm : k ∈ Region.ready .any ops listed := by
        rw [mem_ready]
        have hkl : k < listed.size := by omega
        refine ⟨by have := hoff k (Nat.le_refl _); simpa [hkl] using this, ops[k], Array.getElem?_eq_getElem hlt, fun e he hbd => hon _ (hlow k _ (Array.getElem?_eq_getElem hlt) e he hbd)⟩
      rw [hr] at hm
      cases hm
    · omega
  intro fuel
  induction fuel with
  | zero =>
    intro k listed a w hsz hfu hmk hk hon hoff h
    have hr : Region.ready .any ops listed = [] := by
      cases hr : Region.ready .any ops listed with
      | nil => rfl
      | cons i rs =>
        have hi : i ∈ Region.ready .any ops listed := by rw [hr]; simp
        obtain ⟨h0, o, ho', _⟩ := mem_ready.1 hi
        have := unl_set hsz (Array.getElem?_eq_some_iff.1 ho').1 h0
        omega
    have hkz := hnone k listed hsz hk hon hoff hr
    subst hkz
    refine ⟨hr, ?_⟩
    rw [List.drop_of_length_le (by simp)] at h
    exact h
  | succ fuel ih =>
    intro k listed a w hsz hfu hmk hk hon hoff h
    refine ⟨fun hr => ?_, fun i hi => ?_⟩
    · have hkz := hnone k listed hsz hk hon hoff hr
      subst hkz
      rw [List.drop_of_length_le (by simp)] at h
      exact h
    · obtain ⟨h0, oi, hoi, hdeps⟩ := mem_ready.1 hi
      have hilt := (Array.getElem?_eq_some_iff.1 hoi).1
      have hioff : listed.getD i false = false := by
        have : i < listed.size := by omega
        simpa [this] using h0
      have hki : k ≤ i := by
        rcases Nat.lt_or_ge i k with h1 | h1
        · rw [hon i h1] at hioff; cases hioff
        · exact h1
      have hik : i = k := by
        rcases Nat.lt_or_ge k i with h1 | h1
        · exfalso
          have hkoff := hoff k (Nat.le_refl _)
          have hcl2 : ∀ (j : Nat) (oj : Oper), ops[j]? = some oj → listed.getD j false = true → ∀ e ∈ oj.after, Region.binds .any e = true → listed.getD e.on false = true := fun j oj ho hj e he hb => by
            have hjk : j < k := by
              rcases Nat.lt_or_ge j k with h2 | h2
              · exact h2
              · rw [hoff j h2] at hj; cases hj
            exact hon _ (Nat.lt_trans (hlow j oj ho e he hb) hjk)
          have := behind_listed (listed := fun j => listed.getD j false) hcl2 13 k i oi hoi hdeps (htl i oi hoi (by omega) k h1)
          rw [hkoff] at this; cases this
        · omega
      subst hik
      have hd : ops.toList.drop i = oi :: ops.toList.drop (i + 1) := drop_cons (by simpa using hoi)
      rw [hd] at h
      have next : ∀ a' w', wpList P ops Q (ops.toList.drop (i + 1)) a' w' → wpAny P .any ops Q fuel (listed.setIfInBounds i true) a' w' := fun a' w' h' =>
        ih (i + 1) _ a' w' (by simpa using hsz) (by have := unl_set hsz hilt h0; omega) (by omega) (by omega)
          (fun j hj => by
            rcases Nat.lt_or_ge j i with h1 | h1
            · exact getD_set_true (hon j h1)
            · obtain rfl : j = i := by omega
              have : j < listed.size := by omega
              simp [this])
          (fun j hj => by rw [getD_set_ne false (by omega)]; exact hoff j (by omega)) h'
      unfold wpOp
      simp only [hoi]
      unfold wpList at h
      split
      · rename_i hw
        rw [if_pos hw] at h
        exact h.imp (fun h => Oper.wp_mono next h) id
      · rename_i hw
        rw [if_neg hw] at h
        exact next _ _ h
theorem wpAny_of_relT {C : World → Prop} {Q : Exit → Act → World → Prop} {a0 : Act} {D : List (Oper × VT)} (hl : D.map (·.1) = ops.toList.take m) (hm : m ≤ ops.size) (hB : relBT ops m = true) (hC : ∀ w w', C w → Below n w w' → C w') (hCn : ∀ w, C w → n ≤ w.heap.size)
    (ho : ∀ (k : Nat) (o : Oper) (T : VT), D[k]? = some (o, T) → T.Stable ∧ oblT P ops n (fr k) T o (D.take k) a0 C) (hf : finT (fun a w => wpList P ops Q (ops.toList.drop m) a w) fr 0 [] D a0 C) :
    ∀ (fuel : Nat) (listed : Array Bool) (vs : Nat → Value) (w : World), listed.size = ops.size → unl ops.size listed ≤ fuel → (∀ j, m ≤ j → listed.getD j false = false) →
      (∀ (j : Nat) (oj : Oper), ops[j]? = some oj → listed.getD j false = true → ∀ e ∈ oj.after, Region.binds .any e = true → listed.getD e.on false = true) →
      (∀ (j : Nat) (o : Oper) (T : VT), D[j]? = some (o, T) → listed.getD j false = true → T (vs j) w ∧ (fr j = true → ∃ b, vs j = .pointer (some ⟨b, 0, none⟩) ∧ b < w.heap.size)) →
      (∀ i j, i < m → j < m → i ≠ j → fr i = true → fr j = true → listed.getD i false = true → listed.getD j false = true → vs i ≠ vs j) → C w →
      wpAny P .any ops Q fuel listed (fillL (fun j => listed.getD j false) vs 0 (ops.toList.take m) a0) w := by
  obtain ⟨hsel0, hlow, hB1, htl⟩ := relBT_spec hB
  have hsel := Region.noSelect_spec hsel0
  have hDl : D.length = m := by
    have := congrArg List.length hl
    simp at this
    omega
  have hDo : ∀ {j : Nat} {x : Oper × VT}, D[j]? = some x → j < m ∧ ops[j]? = some x.1 := by
    intro j x hj
    have hjm : j < m := by rw [← hDl]; exact (List.getElem?_eq_some_iff.1 hj).1
    have h1 := congrArg (fun l => l[j]?) hl
    simp only [List.getElem?_map, hj, Option.map_some, List.getElem?_take, if_pos hjm] at h1
    exact ⟨hjm, by simpa using h1.symm⟩
  have hD : ∀ (k : Nat) (o : Oper), k < m → ops[k]? = some o → ∃ T : VT, D[k]? = some (o, T) := by
    intro k o hkm hk
    have hkD : k < D.length := by omega
    have h1 := hDo (List.getElem?_eq_getElem hkD)
    rw [hk] at h1
    exact ⟨D[k].2, by rw [List.getElem?_eq_getElem hkD, Option.some.inj h1.2]⟩
  -- all the first are listed
  have hfirst : ∀ (listed : Array Bool) (vs : Nat → Value) (w : World) (fuel : Nat), listed.size = ops.size → unl ops.size listed ≤ fuel → (∀ j, j < m → listed.getD j false = true) → (∀ j, m ≤ j → listed.getD j false = false) →
      (∀ (j : Nat) (o : Oper) (T : VT), D[j]? = some (o, T) → listed.getD j false = true → T (vs j) w ∧ (fr j = true → ∃ b, vs j = .pointer (some ⟨b, 0, none⟩) ∧ b < w.heap.size)) →
      (∀ i j, i < m → j < m → i ≠ j → fr i = true → fr j = true → listed.getD i false = true → listed.getD j false = true → vs i ≠ vs j) → C w →
      wpAny P .any ops Q fuel listed (fillL (fun j => listed.getD j false) vs 0 (ops.toList.take m) a0) w := by
    intro listed vs w fuel hsz hfu hon hoff hT hne hCw
    refine wpAny_tail hB fuel m listed _ w hsz hfu (Nat.le_refl _) hm hon hoff ?_
    rw [← hl]
    refine fin_useT vs D 0 [] a0 C hf hCw fun j x hj => ?_
    rw [Nat.zero_add]
    obtain ⟨hjm, _⟩ := hDo hj
    refine ⟨hon j hjm, (hT j x.1 x.2 hj (hon j hjm)).1, fun hfj => ⟨by simp, fun i hi hfi => ?_⟩⟩
    rw [Nat.zero_add] at hfi ⊢
    exact hne j i hjm (by omega) (by omega) hfj hfi (hon j hjm) (hon i (by omega))
  intro fuel
  induction fuel with
  | zero =>
    intro listed vs w hsz hfu hoff _ hT hne hCw
    refine hfirst listed vs w 0 hsz hfu (fun j hj => ?_) hoff hT hne hCw
    rcases hb : listed.getD j false with _ | _
    · exfalso
      have hjl : j < listed.size := by omega
      have := unl_set (i := j) hsz (by omega) (by simpa [hjl] using hb)
      omega
    · rfl
  | succ fuel ih =>
    intro listed vs w hsz hfu hoff hcl hT hne hCw
    by_cases hall : ∀ j, j < m → listed.getD j false = true
    · exact hfirst listed vs w (fuel + 1) hsz hfu hall hoff hT hne hCw
    refine ⟨fun hr => ?_, fun i hi => ?_⟩
    · exfalso
      apply hall
      intro j
      induction j using Nat.strongRecOn with
      | ind j ihj =>
        intro hj
        cases hb : listed.getD j false with
        | true => rfl
        | false =>
          exfalso
          have hjo : j < ops.size := by omega
          have hm' : j ∈ Region.ready .any ops listed := by
            rw [mem_ready]
            have hjl : j < listed.size := by omega
            refine ⟨by simpa [hjl] using hb, ops[j], Array.getElem?_eq_getElem hjo, fun e he hbd => ?_⟩
            have hlt := hlow j ops[j] (Array.getElem?_eq_getElem hjo) e he hbd
            exact ihj e.on hlt (by omega)
          rw [hr] at hm'
          cases hm'
    obtain ⟨h0, oi, hoi, hdeps⟩ := mem_ready.1 hi
    have hilt := (Array.getElem?_eq_some_iff.1 hoi).1
    have hioff : listed.getD i false = false := by
      have : i < listed.size := by omega
      simpa [this] using h0
    have him : i < m := by
      rcases Nat.lt_or_ge i m with h1 | h1
      · exact h1
      · exfalso
        apply hall
        intro j hj
        exact behind_listed (listed := fun j => listed.getD j false) hcl 13 j i oi hoi hdeps (htl i oi hoi h1 j (by omega))
    obtain ⟨T, hDi⟩ := hD i oi him hoi
    obtain ⟨_, hob⟩ := ho i oi T hDi
    have hlater : ∀ j oj, ops[j]? = some oj → i < j → listed.getD j false = true → oi.apart ops oj = true := fun j oj hj hij hon => by
      have hjm : j < m := by
        rcases Nat.lt_or_ge j m with h1 | h1
        · exact h1
        · rw [hoff j h1] at hon; cases hon
      rcases hB1 j oj hj hjm i oi hij hoi with ⟨e, he, hb, hon'⟩ | h
      · have := hcl j oj hj hon e he hb
        rw [hon', hioff] at this
        cases this
      · exact h
    have hearlier : ∀ j oj, ops[j]? = some oj → j < i → oj.apart ops oi = false → listed.getD j false = true := fun j oj hj hij hna => by
      rcases hB1 i oi hoi him j oj hij hj with ⟨e, he, hb, hon'⟩ | h
      · have := hdeps e he hb
        rwa [hon'] at this
      · rw [h] at hna; cases hna
    have hused := obl_useT (w := w) vs (D.take i) 0 a0 C hob hCw (fun j x hj hna => by
      rw [Nat.zero_add]
      rw [List.getElem?_take] at hj
      split at hj
      · rename_i hji
        exact (hT j x.1 x.2 hj (hearlier j x.1 (hDo hj).2 hji hna)).1
      · cases hj)
    have hrel : relAt P ops n false (TF (fr i) T w) oi (fillL (fun j => listed.getD j false) vs 0 (ops.toList.take m) a0) w := by
      refine Agree.rel (hsel i oi · · hoi) ?_ hused
      have hsplit : ops.toList.take m = (D.take i).map (·.1) ++ (ops.toList.take m).drop i := by
        rw [← hl, List.map_take, List.take_append_drop]
      have hfa : ∀ (on : Nat → Bool) (l1 l2 : List Oper) (k : Nat) (a : Act), fillL on vs k (l1 ++ l2) a = fillL on vs (k + l1.length) l2 (fillL on vs k l1 a) := by
        intro on l1
        induction l1 with
        | nil => intro l2 k a; rfl
        | cons x l1 ih => intro l2 k a; simp only [List.cons_append, fillL, List.length_cons]; rw [ih]; congr 1; omega
      have hlen : ((D.take i).map (·.1)).length = i := by simp; omega
      have h1 : Agree ops oi (fillL (fun j => match (D.take i)[j - 0]? with | some x => !x.1.apart ops oi | none => false) vs 0 ((D.take i).map (·.1)) a0) (fillL (fun j => listed.getD j false) vs 0 ((D.take i).map (·.1)) a0) := by
        refine fillL_agree _ _ _ _ (Agree.refl _ _) fun j oj hj hne x hx => ?_
        rw [List.getElem?_map] at hj
        cases hd : (D.take i)[j]? with
        | none => rw [hd] at hj; simp at hj
        | some y =>
          rw [hd] at hj
          simp at hj
          subst hj
          have hji : j < i := by
            have := (List.getElem?_eq_some_iff.1 hd).1
            simp at this
            omega
          rw [List.getElem?_take, if_pos hji] at hd
          have hoj := (hDo hd).2
          have hyy : (D.take i)[j]? = some y := by rw [List.getElem?_take, if_pos hji]; exact hd
          simp only [Nat.zero_add, Nat.sub_zero, hyy] at hne
          cases hap : y.1.apart ops oi with
          | true => exact (Oper.apart_spec hap).1 x hx
          | false =>
            rw [hap, hearlier j y.1 hoj hji hap] at hne
            exact absurd rfl hne
      rw [hsplit, hfa, hlen]
      have h2 : ∀ (l : List Oper) (k : Nat) (a : Act), (∀ j oj, l[j]? = some oj → listed.getD (k + j) false = true → ∀ x, oj.dst = some x → x ∉ oi.looksAt ops) → Agree ops oi a (fillL (fun j => listed.getD j false) vs k l a) := by
        intro l k a hh
        have := fillL_agree (ops := ops) (o := oi) (on := fun _ => false) (on' := fun j => listed.getD j false) (vs := vs) l k a a (Agree.refl _ _) (fun j oj hj hne x hx => hh j oj hj (by
          cases hb : listed.getD (k + j) false with
          | true => rfl
          | false => exact absurd hb.symm hne) x hx)
        have hz : ∀ (l : List Oper) (k : Nat) (a : Act), fillL (fun _ => false) vs k l a = a := by
          intro l
          induction l with
          | nil => intro k a; rfl
          | cons o l ih => intro k a; simp only [fillL, Bool.false_eq_true, if_false]; exact ih _ _
        rwa [hz] at this
      refine fun t ht => (h1 t ht).trans (h2 ((ops.toList.take m).drop i) (0 + i) _ (fun j oj hj hon x hx => ?_) t ht)
      rw [List.getElem?_drop, List.getElem?_take] at hj
      split at hj
      · have hoj : ops[i + j]? = some oj := by simpa using hj
        rw [Nat.zero_add] at hon
        rcases Nat.eq_zero_or_pos j with rfl | hpos
        · rw [Nat.add_zero, hioff] at hon; cases hon
        · exact (Oper.apart_spec (hlater (i + j) oj hoj (by omega) hon)).2.2 x hx
      · cases hj
    have next : ∀ v w', Below w.heap.size w w' → TF (fr i) T w v w' → wpAny P .any ops Q fuel (listed.setIfInBounds i true) ((fillL (fun j => listed.getD j false) vs 0 (ops.toList.take m) a0).put oi.dst v) w' := by
      rintro v w' hb ⟨hv, hvf⟩
      have hbn : Below n w w' := hb.mono (hCn w hCw)
      have hoiT : (ops.toList.take m)[i]? = some oi := by rw [List.getElem?_take, if_pos him]; simpa using hoi
      rw [fillL_set (i := i) (oi := oi) (ops.toList.take m) 0 a0 (Nat.zero_le _) (by simpa using hoiT) hioff (fun j oj hj hij hon x hx => by
        rw [Nat.zero_add] at hij hon
        rw [List.getElem?_take] at hj
        split at hj
        · exact (Oper.apart_spec (hlater j oj (by simpa using hj) hij hon)).2.1 x hx
        · cases hj)]
      have hset : ∀ j, j < ops.size → (j == i || listed.getD j false) = (listed.setIfInBounds i true).getD j false := by
        intro j hj
        by_cases hji : j = i
        · subst hji
          have : j < listed.size := by omega
          simp [this]
        · rw [getD_set_ne false (Ne.symm hji)]
          simp [hji]
      rw [fillL_ext (on' := fun j => (listed.setIfInBounds i true).getD j false) (vs' := fun j => if j = i then v else vs j) (ops.toList.take m) 0 a0 (fun j _ hj => ⟨hset j (by simp at hj; omega), fun _ => rfl⟩)]
      have hold : ∀ j, (listed.setIfInBounds i true).getD j false = true → j ≠ i → listed.getD j false = true := fun j hon hji => by
        rwa [getD_set_ne false (Ne.symm hji)] at hon
      refine ih _ _ w' (by simpa using hsz) (by have := unl_set hsz hilt h0; omega) (fun j hj => by rw [getD_set_ne false (by omega)]; exact hoff j hj) (fun j oj hj hon e he hbd => ?_) (fun j o T' hj hon => ?_) (fun j k hj hk hjk hfj hfk hoj hok => ?_) (hC w w' hCw hbn)
      · by_cases hji : j = i
        · subst hji
          rw [hoi] at hj
          injection hj with hj
          subst hj
          exact getD_set_true (hdeps e he hbd)
        · exact getD_set_true (hcl j oj hj (hold j hon hji) e he hbd)
      · by_cases hji : j = i
        · subst hji
          rw [hDi] at hj
          injection hj with hj
          injection hj with e1 e2
          subst e1 e2
          rw [if_pos rfl]
          refine ⟨hv, fun hf => ?_⟩
          obtain ⟨b, h1, _, h3⟩ := hvf hf
          exact ⟨b, h1, h3⟩
        · simp only [if_neg hji]
          have hTj := hT j o T' hj (hold j hon hji)
          refine ⟨(ho j o T' hj).1 _ _ _ hb hTj.1, fun hf => ?_⟩
          obtain ⟨b, h1, h2⟩ := hTj.2 hf
          exact ⟨b, h1, Nat.lt_of_lt_of_le h2 hb.size⟩
      · have hfresh : ∀ k, k < m → k ≠ i → fr k = true → fr i = true → (listed.setIfInBounds i true).getD k false = true → v ≠ vs k := fun k hk hki hfk hfi hok => by
          obtain ⟨b, h1, h2, _⟩ := hvf hfi
          obtain ⟨Tk, hDk⟩ := hD k ops[k] hk (Array.getElem?_eq_getElem (by omega))
          obtain ⟨b', h1', h2'⟩ := (hT k _ Tk hDk (hold k hok hki)).2 hfk
          rw [h1, h1']
          intro h
          injection h with h
          injection h with h
          injection h with h
          omega
        by_cases hji : j = i
        · subst hji
          rw [if_pos rfl, if_neg (Ne.symm hjk)]
          exact hfresh k hk (Ne.symm hjk) hfk hfj hok
        · by_cases hki : k = i
          · subst hki
            rw [if_pos rfl, if_neg hji]
            exact fun h => hfresh j hj hji hfj hfk hoj h.symm
          · rw [if_neg hji, if_neg hki]
            exact hne j k hj hk hjk hfj hfk (hold j hoj hji) (hold k hok hki)
    unfold wpOp
    simp only [hoi]
    unfold relAt at hrel
    rw [show reach n false w = w.heap.size from rfl] at hrel
    split
    · rename_i hw
      rw [if_pos hw] at hrel
      refine .inl ?_
      unfold Oper.wp
      generalize (execOp (fillL (fun j => listed.getD j false) vs 0 (ops.toList.take m) a0).eval oi).run P w = r at hrel
      cases r with
      | ok n w' =>
        cases n <;> simp only [relUpon] at hrel <;> simp only [Oper.upon]
        case value u => exact next u w' hrel.1 hrel.2
        case skip => exact next undef w' hrel.1 hrel.2
        case enter f args =>
          exact hrel.mono fun e w'' ⟨v, he, h1, h2⟩ => by subst he; exact next v w'' h1 h2
      | halt x w' => simp only [relUpon] at hrel
    · rename_i hw
      rw [if_neg hw] at hrel
      exact next undef w (Below.refl _ _) hrel
theorem wp_region_tail {id : Nat} {Q : Exit → Act → World → Prop} {a : Act} {w : World} {l : List Oper} (n m : Nat) (fr : Nat → Bool) (hn : n ≤ w.heap.size) (hmx : P.follows .mixedOrders = true) (hm : decide (m ≤ l.length) = true) (hB : relBT l.toArray m = true)
  (h : wpRelT P l.toArray n fr (Below n w) (fun a' w' => wpList P l.toArray Q (l.drop m) a' w') a [] (l.take m)) : (Code.region id l.toArray true).wp P Q a w := by
 have hm' : m ≤ l.length := by simpa using hm
 obtain ⟨D, h1, _, h3, h4⟩ := wpRelT_all _ [] h
 refine wp_region_any hmx ?_
 have := wpAny_of_relT (Q := Q) (ops := l.toArray) (D := D) (a0 := a) (m := m) (fr := fr) (C := Below n w) (by simpa using h1) (by simpa using hm') hB (fun w1 w2 hb hb' => hb.trans hb') (fun w1 hb => Nat.le_trans hn hb.size)
  (fun k o T hk => h3 k o T (Nat.zero_le _) hk) h4 l.toArray.size (Array.replicate l.toArray.size false) (fun _ => undef) { w with drawn := w.drawn + 1 } (by simp)
  (by unfold unl; exact Nat.le_trans (List.length_filter_le _ _) (by simp)) (fun j _ => getD_rep _ _) (fun j oj _ hon => by rw [getD_rep] at hon; cases hon) (fun j o T _ hon => by rw [getD_rep] at hon; cases hon) (fun i j _ _ _ _ _ hon _ => by rw [getD_rep] at hon; cases hon) ⟨rfl, rfl, rfl, Nat.le_refl _, fun _ _ => rfl⟩
 have hz : ∀ (l : List Oper) (on : Nat → Bool) (k : Nat) (a : Act), (∀ j, on j = false) → fillL on (fun _ => undef) k l a = a := by
  intro l on
  induction l with
  | nil => intro k a _; rfl
  | cons o l ih => intro k a hon; simp only [fillL, hon, Bool.false_eq_true, if_false]; exact ih _ _ hon
 rwa [hz _ _ _ _ (fun j => getD_rep _ _)] at this
variable {C : World → Prop} {Q : Act → World → Prop} {a0 a : Act} {done rest : List (Oper × VT)} {later : List Oper} {o oj : Oper} {T : VT} {H : World → Prop} {f : Bool}
theorem finT_mono : ∀ (rest : List (Oper × VT)) (k : Nat) (seen : List Value) (a : Act) (H H' : World → Prop), (∀ w, H' w → H w) → finT Q fr k seen rest a H → finT Q fr k seen rest a H'
 | [], _, _, _, _, _, hh, h => fun w hw => h w (hh w hw)
 | _ :: rest, k, _, _, _, _, hh, h => fun v => finT_mono rest (k + 1) _ _ _ _ (fun w hw => ⟨hh w hw.1, hw.2⟩) (h v)
theorem finT_false : ∀ (rest : List (Oper × VT)) (k : Nat) (seen : List Value) (a : Act) (H : World → Prop), (∀ w, ¬ H w) → finT Q fr k seen rest a H
 | [], _, _, _, _, hh => fun w hw => absurd hw (hh w)
 | _ :: rest, k, _, _, _, hh => fun _ => finT_false rest (k + 1) _ _ _ (fun w hw => hh w hw.1)
theorem finT_det {k : Nat} {seen : List Value} {x : Value} (hf : fr k = false) (h : finT Q fr (k + 1) seen rest (a.put o.dst x) H) : finT Q fr k seen ((o, IsV x) :: rest) a H := by
 intro v
 simp only [hf, Bool.false_eq_true, if_false]
 by_cases hv : v = x
 ·subst hv; exact finT_mono _ _ _ _ _ _ (fun w hw => hw.1) h
 ·exact finT_false _ _ _ _ _ (fun w hw => hv hw.2.1)
theorem finT_var {k : Nat} {seen : List Value} {T : VT} (hf : fr k = false) (h : ∀ v, finT Q fr (k + 1) seen rest (a.put o.dst v) (fun w => H w ∧ T v w)) : finT Q fr k seen ((o, T) :: rest) a H := by
 intro v
 simp only [hf, Bool.false_eq_true, if_false]
 exact finT_mono _ _ _ _ _ _ (fun _ hw => ⟨hw.1, hw.2.1⟩) (h v)
theorem finT_fresh {k : Nat} {seen : List Value} {T : VT} (hf : fr k = true) (h : ∀ v, finT Q fr (k + 1) (v :: seen) rest (a.put o.dst v) (fun w => H w ∧ T v w ∧ v ∉ seen)) : finT Q fr k seen ((o, T) :: rest) a H := by
 intro v
 simp only [hf, if_true]
 exact finT_mono _ _ _ _ _ _ (fun _ hw => ⟨hw.1, hw.2.1, hw.2.2 trivial⟩) (h v)
end
end Go.Proofs.YtbegdcjofnfkiaaGreatDoor
namespace Go.Proofs.YtbegdcjofnfkiaaGreatDoor
open Go.RowKit
abbrev Ent := Oper × (Value ⊕ VT)
def Ent.vt (x : Ent) : Oper × VT := (x.1, match x.2 with | .inl v => IsV v | .inr T => T)
section
variable {P : Program} {ops : Array Oper} {n : Nat} {fr : Nat → Bool} {C : World → Prop} {Q : Act → World → Prop} {a0 : Act} {done : List Ent} {later : List Oper} {o : Oper} {T : VT}
def oblS (E : Act → (World → Prop) → Prop) : List Ent → List Bool → Act → (World → Prop) → Prop
 | (oj, .inl x) :: rest, true :: mask, a, H => oblS E rest mask (a.put oj.dst x) H
 | (oj, .inr T) :: rest, true :: mask, a, H => ∀ v, oblS E rest mask (a.put oj.dst v) (fun w => H w ∧ T v w)
 | _ :: rest, false :: mask, a, H => oblS E rest mask a H
 | _, _, a, H => E a H
theorem oblT_H {f : Bool} : ∀ (rest : List (Oper × VT)) (a : Act) (H H' : World → Prop), (∀ w, H' w → H w) → oblT P ops n f T o rest a H → oblT P ops n f T o rest a H'
  | [], _, _, _, hh, h => fun w hw => h w (hh w hw)
  | y :: rest, a, H, H', hh, h => by
    rw [oblT] at h ⊢
    split
    · rename_i hap; rw [if_pos hap] at h; exact oblT_H rest _ _ _ hh h
    · rename_i hap; rw [if_neg hap] at h; exact fun v => oblT_H rest _ _ _ (fun w hw => ⟨hh w hw.1, hw.2⟩) (h v)
theorem oblT_no {f : Bool} : ∀ (rest : List (Oper × VT)) (a : Act) (H : World → Prop), (∀ w, ¬ H w) → oblT P ops n f T o rest a H
  | [], _, _, hh => fun w hw => absurd hw (hh w)
  | y :: rest, a, H, hh => by
    rw [oblT]
    split
    · exact oblT_no rest _ _ hh
    · exact fun v => oblT_no rest _ _ (fun w hw => hh w hw.1)
theorem oblS_use {f : Bool} {E : Act → (World → Prop) → Prop} (hE : ∀ a H, E a H → ∀ w, H w → relAt P ops n false (TF f T w) o a w) : ∀ (done : List Ent) (mask : List Bool) (a : Act) (H : World → Prop), (done.map fun x => !x.1.apart ops o) = mask → oblS E done mask a H → oblT P ops n f T o (done.map Ent.vt) a H
  | [], _, a, H, hm, h => by
    subst hm
    exact hE a H h
  | (oj, x) :: rest, _, a, H, hm, h => by
    subst hm
    simp only [List.map_cons]
    unfold oblT
    cases hap : oj.apart ops o with
    | true =>
      simp only [Ent.vt, hap, if_true]
      refine oblS_use hE rest _ a H rfl ?_
      simp only [List.map_cons, hap, Bool.not_true] at h
      cases x <;> exact h
    | false =>
      simp only [Ent.vt, hap, Bool.false_eq_true, if_false]
      intro v
      simp only [List.map_cons, hap, Bool.not_false] at h
      cases x with
      | inl x =>
        by_cases hv : v = x
        · subst hv
          exact oblT_H _ _ _ _ (fun w hw => hw.1) (oblS_use hE rest _ _ _ rfl h)
        · exact oblT_no _ _ _ (fun w hw => hv hw.2)
      | inr T' => exact oblS_use hE rest _ _ _ rfl (h v)
def wpRelS (P : Program) (ops : Array Oper) (n : Nat) (fr : Nat → Bool) (C : World → Prop) (Q : Act → World → Prop) (a0 : Act) (done : List Ent) (rest : List Oper) : Prop := wpRelT P ops n fr C Q a0 (done.map Ent.vt) rest
theorem wp_region_S {id : Nat} {Q : Exit → Act → World → Prop} {a : Act} {w : World} {l : List Oper} (n m : Nat) (fr : Nat → Bool) (hn : n ≤ w.heap.size) (hmx : P.follows .mixedOrders = true) (hm : decide (m ≤ l.length) = true) (hB : relBT l.toArray m = true)
  (h : wpRelS P l.toArray n fr (Below n w) (fun a' w' => wpList P l.toArray Q (l.drop m) a' w') a [] (l.take m)) : (Code.region id l.toArray true).wp P Q a w :=
 wp_region_tail n m fr hn hmx hm hB h
theorem wpList_of_any {m : Nat} {Q : Exit → Act → World → Prop} (hB : relBT ops m = true) : ∀ (fuel k : Nat) (listed : Array Bool) (a : Act) (w : World), listed.size = ops.size → k + fuel = ops.size →
    (∀ j, j < k → listed.getD j false = true) → (∀ j, k ≤ j → listed.getD j false = false) → wpAny P .any ops Q fuel listed a w → wpList P ops Q (ops.toList.drop k) a w := by
  obtain ⟨_, hlow, _, _⟩ := relBT_spec hB
  intro fuel
  induction fuel with
  | zero =>
    intro k listed a w hsz hk hon hoff h
    rw [List.drop_of_length_le (by simp; omega)]
    exact h.2
  | succ fuel ih =>
    intro k listed a w hsz hk hon hoff h
    have hlt : k < ops.size := by omega
    have ho : ops[k]? = some ops[k] := Array.getElem?_eq_getElem hlt
    have hm : k ∈ Region.ready .any ops listed := by
      rw [mem_ready]
      have hkl : k < listed.size := by omega
      exact ⟨by have := hoff k (Nat.le_refl _); simpa [hkl] using this, ops[k], ho, fun e he hbd => hon _ (hlow k _ ho e he hbd)⟩
    have h1 := h.2 k hm
    have ho' : ops.toList[k]? = some ops[k] := by rw [Array.getElem?_toList]; exact ho
    rw [drop_cons ho']
    unfold wpOp at h1
    simp only [ho] at h1
    have next : ∀ a' w', wpAny P .any ops Q fuel (listed.setIfInBounds k true) a' w' → wpList P ops Q (ops.toList.drop (k + 1)) a' w' := fun a' w' h' =>
      ih (k + 1) _ a' w' (by simpa using hsz) (by omega)
        (fun j hj => by
          rcases Nat.lt_or_ge j k with h2 | h2
          · exact getD_set_true (hon j h2)
          · obtain rfl : j = k := by omega
            have : j < listed.size := by omega
            simp [this])
        (fun j hj => by rw [getD_set_ne false (by omega)]; exact hoff j (by omega)) h'
    unfold wpList
    split
    · rename_i hw
      rw [if_pos hw] at h1
      exact h1.imp (fun h => Oper.wp_mono next h) id
    · rename_i hw
      rw [if_neg hw] at h1
      exact next _ _ h1
theorem wp_region_SF {id : Nat} {Q : Exit → Act → World → Prop} {a : Act} {w : World} {l : List Oper} (n m : Nat) (fr : Nat → Bool) (hn : n ≤ w.heap.size) (_hmx : P.follows .mixedOrders = true) (hm : decide (m ≤ l.length) = true) (hB : relBT l.toArray m = true)
  (h : wpRelS P l.toArray n fr (Below n w) (fun a' w' => wpList P l.toArray Q (l.drop m) a' w') a [] (l.take m)) : (Code.region id l.toArray false).wp P Q a w := by
 have hm' : m ≤ l.length := by simpa using hm
 obtain ⟨D, h1, _, h3, h4⟩ := wpRelT_all _ [] (show wpRelT P l.toArray n fr (Below n w) (fun a' w' => wpList P l.toArray Q (l.drop m) a' w') a [] (l.take m) from h)
 have := wpAny_of_relT (Q := Q) (ops := l.toArray) (D := D) (a0 := a) (m := m) (fr := fr) (C := Below n w) (by simpa using h1) (by simpa using hm') hB (fun w1 w2 hb hb' => hb.trans hb') (fun w1 hb => Nat.le_trans hn hb.size)
  (fun k o T hk => h3 k o T (Nat.zero_le _) hk) h4 l.toArray.size (Array.replicate l.toArray.size false) (fun _ => undef) w (by simp)
  (by unfold unl; exact Nat.le_trans (List.length_filter_le _ _) (by simp)) (fun j _ => getD_rep _ _) (fun j oj _ hon => by rw [getD_rep] at hon; cases hon) (fun j o T _ hon => by rw [getD_rep] at hon; cases hon) (fun i j _ _ _ _ _ hon _ => by rw [getD_rep] at hon; cases hon) (Below.refl _ _)
 have hz : ∀ (l : List Oper) (on : Nat → Bool) (k : Nat) (a : Act), (∀ j, on j = false) → fillL on (fun _ => undef) k l a = a := by
  intro l on
  induction l with
  | nil => intro k a _; rfl
  | cons o l ih => intro k a hon; simp only [fillL, hon, Bool.false_eq_true, if_false]; exact ih _ _ hon
 rw [hz _ _ _ _ (fun j => getD_rep _ _)] at this
 exact wp_region_list (by simpa using wpList_of_any hB l.toArray.size 0 _ a w (by simp) (by simp) (fun j hj => by omega) (fun j _ => getD_rep _ _) this)
theorem relS_step {x : Value ⊕ VT} (hT : (Ent.vt (o, x)).2.Stable) (h : oblT P ops n (fr done.length) (Ent.vt (o, x)).2 o (done.map Ent.vt) a0 C) (hr : wpRelS P ops n fr C Q a0 (done ++ [(o, x)]) later) : wpRelS P ops n fr C Q a0 done (o :: later) := by
 refine ⟨_, hT, by simpa using h, ?_⟩
 unfold wpRelS at hr
 rw [List.map_append] at hr
 exact hr
theorem TF_false {w : World} {v : Value} {w' : World} (h : T v w') : TF false T w v w' := ⟨h, fun h => by cases h⟩
theorem relUpon_mono {m : Nat} {w : World} {T T' : VT} (hT : ∀ v w', T v w' → T' v w') {r : Result Next} (h : relUpon P m w T r) : relUpon P m w T' r := by
  cases r with
  | ok x w' =>
    cases x with
    | value u => exact ⟨h.1, hT _ _ h.2⟩
    | skip => exact ⟨h.1, hT _ _ h.2⟩
    | enter f args => exact Calls.mono h fun _ _ ⟨v, h1, h2, h3⟩ => ⟨v, h1, h2, hT _ _ h3⟩
    | _ => exact h
  | halt x w' => exact h
theorem relS_free {f : Bool} (hg : o.guard = none) (a : Act) (H : World → Prop) (h : ∀ w, H w → relUpon P w.heap.size w (TF f T w) ((execOp a.eval o).run P w)) : ∀ w, H w → relAt P ops n false (TF f T w) o a w := fun w hw => by
 refine relAt_wanted ?_ (h w hw)
 unfold Region.wanted; rw [hg]
def guardIs (ops : Array Oper) (o : Oper) (t : Tmp) (want : Bool) : Bool := match o.guard with
 | some (g, b) => ((ops[g]?).bind (·.dst)) == some t && b == want
 | none => false
theorem wanted_of {t : Tmp} {want b : Bool} {a : Act} (hg : guardIs ops o t want = true) (hb : a.tmps[t]? = some (.bool b)) : Region.wanted o (yielded ops a.tmps) = (b == want) := by
 unfold guardIs at hg
 split at hg
 ·rename_i g b' hgu
  simp only [Bool.and_eq_true, beq_iff_eq] at hg
  unfold Region.wanted yielded
  rw [hgu]
  simp only [hg.1, Option.bind_some, hb, hg.2]
  cases b <;> cases want <;> rfl
 ·cases hg
theorem relS_wanted {f : Bool} (t : Tmp) (want : Bool) (hg : guardIs ops o t want = true) (a : Act) (H : World → Prop) (h : a.tmps[t]? = some (.bool want) ∧ ∀ w, H w → relUpon P w.heap.size w (TF f T w) ((execOp a.eval o).run P w)) : ∀ w, H w → relAt P ops n false (TF f T w) o a w := fun w hw => by
 refine relAt_wanted ?_ (h.2 w hw)
 rw [wanted_of hg h.1]; simp
theorem relS_unwanted {f : Bool} (t : Tmp) (want : Bool) (hg : guardIs ops o t want = true) (a : Act) (H : World → Prop) (h : a.tmps[t]? = some (.bool (!want)) ∧ ∀ w, H w → TF f T w undef w) : ∀ w, H w → relAt P ops n false (TF f T w) o a w := fun w hw => by
 refine relAt_not ?_ (h.2 w hw)
 rw [wanted_of hg h.1]; cases want <;> rfl
theorem relS_det (mask : List Bool) {x : Value} (hf : fr done.length = false) (hg : o.guard.isNone = true) (hm : (done.map fun x => !x.1.apart ops o) = mask) (h : oblS (fun a H => ∀ w, H w → relUpon P w.heap.size w (IsV x) ((execOp a.eval o).run P w)) done mask a0 C)
  (hr : wpRelS P ops n fr C Q a0 (done ++ [(o, .inl x)]) later) : wpRelS P ops n fr C Q a0 done (o :: later) :=
 relS_step (x := .inl x) (IsV.stable x) (by rw [hf]; exact oblS_use (fun a H h => relS_free (by simpa using hg) a H fun w hw => relUpon_mono (fun _ _ h => TF_false h) (h w hw)) done mask a0 C hm h) hr
theorem relS_any (mask : List Bool) (T : VT) (hT : T.Stable) (hf : fr done.length = false) (hg : o.guard.isNone = true) (hm : (done.map fun x => !x.1.apart ops o) = mask) (h : oblS (fun a H => ∀ w, H w → ∀ T' : VT, (∀ u w', T u w' → T' u w') → relUpon P w.heap.size w T' ((execOp a.eval o).run P w)) done mask a0 C)
  (hr : wpRelS P ops n fr C Q a0 (done ++ [(o, .inr T)]) later) : wpRelS P ops n fr C Q a0 done (o :: later) :=
 relS_step (x := .inr T) hT (by rw [hf]; exact oblS_use (fun a H h => relS_free (by simpa using hg) a H fun w hw => h w hw _ (fun _ _ h => TF_false h)) done mask a0 C hm h) hr
theorem relS_detg (mask : List Bool) (t : Tmp) (want : Bool) {x : Value} (hf : fr done.length = false) (hg : guardIs ops o t want = true) (hm : (done.map fun x => !x.1.apart ops o) = mask) (h : oblS (fun a H => a.tmps[t]? = some (.bool want) ∧ ∀ w, H w → relUpon P w.heap.size w (IsV x) ((execOp a.eval o).run P w)) done mask a0 C)
  (hr : wpRelS P ops n fr C Q a0 (done ++ [(o, .inl x)]) later) : wpRelS P ops n fr C Q a0 done (o :: later) :=
 relS_step (x := .inl x) (IsV.stable x) (by rw [hf]; exact oblS_use (fun a H h => relS_wanted t want hg a H ⟨h.1, fun w hw => relUpon_mono (fun _ _ h => TF_false h) (h.2 w hw)⟩) done mask a0 C hm h) hr
theorem relS_not (mask : List Bool) (t : Tmp) (want : Bool) (hf : fr done.length = false) (hg : guardIs ops o t want = true) (hm : (done.map fun x => !x.1.apart ops o) = mask) (h : oblS (fun a _ => a.tmps[t]? = some (.bool (!want))) done mask a0 C)
  (hr : wpRelS P ops n fr C Q a0 (done ++ [(o, .inl undef)]) later) : wpRelS P ops n fr C Q a0 done (o :: later) :=
 relS_step (x := .inl undef) (IsV.stable undef) (by rw [hf]; exact oblS_use (fun a H h => relS_unwanted t want hg a H ⟨h, fun w _ => TF_false rfl⟩) done mask a0 C hm h) hr
def finS (Q : Act → World → Prop) (fr : Nat → Bool) : Nat → List Value → List Ent → Act → (World → Prop) → Prop
  | k, seen, (o, .inl x) :: rest, a, H => finS Q fr (k + 1) seen rest (a.put o.dst x) H
  | k, seen, (o, .inr T) :: rest, a, H => match fr k with
    | true => ∀ v, finS Q fr (k + 1) (v :: seen) rest (a.put o.dst v) (fun w => H w ∧ T v w ∧ v ∉ seen)
    | false => ∀ v, finS Q fr (k + 1) seen rest (a.put o.dst v) (fun w => H w ∧ T v w)
  | _, _, [], a, H => ∀ w, H w → Q a w
theorem finS_use : ∀ (done : List Ent) (k : Nat) (seen : List Value) (a : Act) (H : World → Prop), (∀ j o x, done[j]? = some (o, .inl x) → fr (k + j) = false) → finS Q fr k seen done a H → finT Q fr k seen (done.map Ent.vt) a H
  | [], _, _, _, _, _, h => h
  | (o, .inl x) :: rest, k, seen, a, H, hf, h => by
    have h0 : fr k = false := hf 0 o x rfl
    refine finT_det h0 (finS_use rest (k + 1) seen _ _ (fun j o' x' hj => ?_) h)
    have := hf (j + 1) o' x' (by simpa using hj)
    rwa [show k + (j + 1) = k + 1 + j by omega] at this
  | (o, .inr T) :: rest, k, seen, a, H, hf, h => by
    have hf' : ∀ j o' x', rest[j]? = some (o', .inl x') → fr (k + 1 + j) = false := fun j o' x' hj => by
      have := hf (j + 1) o' x' (by simpa using hj)
      rwa [show k + (j + 1) = k + 1 + j by omega] at this
    unfold finS at h
    cases hk : fr k with
    | true =>
      rw [hk] at h
      exact finT_fresh hk fun v => finS_use rest (k + 1) _ _ _ hf' (h v)
    | false =>
      rw [hk] at h
      exact finT_var hk fun v => finS_use rest (k + 1) _ _ _ hf' (h v)
def detB (fr : Nat → Bool) : Nat → List Ent → Bool
 | k, (_, .inl _) :: rest => !fr k && detB fr (k + 1) rest
 | k, (_, .inr _) :: rest => detB fr (k + 1) rest
 | _, [] => true
theorem detB_spec : ∀ (done : List Ent) (k : Nat), detB fr k done = true → ∀ j o x, done[j]? = some (o, .inl x) → fr (k + j) = false
  | [], _, _, j, o, x, h => by simp at h
  | (o', .inl x') :: rest, k, hd, j, o, x, h => by
    simp only [detB, Bool.and_eq_true, Bool.not_eq_true'] at hd
    cases j with
    | zero => simpa using hd.1
    | succ j =>
      have := detB_spec rest (k + 1) hd.2 j o x (by simpa using h)
      rwa [show k + (j + 1) = k + 1 + j by omega]
  | (o', .inr x') :: rest, k, hd, j, o, x, h => by
    simp only [detB] at hd
    cases j with
    | zero => simp at h
    | succ j =>
      have := detB_spec rest (k + 1) hd j o x (by simpa using h)
      rwa [show k + (j + 1) = k + 1 + j by omega]
theorem relS_end (hd : detB fr 0 done = true) (h : finS Q fr 0 [] done a0 C) : wpRelS P ops n fr C Q a0 done [] :=
 finS_use done 0 [] a0 C (detB_spec done 0 hd) h
end
end Go.Proofs.YtbegdcjofnfkiaaGreatDoor
end
namespace Go.Proofs.YtbegdcjofnfkiaaGreatDoor
section
open Go.RowKit
section
variable {P : Program} {ops : Array Oper} {n : Nat} {fr : Nat → Bool} {C : World → Prop} {Q : Act → World → Prop} {a0 : Act} {done : List Ent} {later : List Oper} {o : Oper} {T : VT}
theorem wanted_iff {t : Tmp} {want g : Bool} {a : Act} {v : Value} (hg : guardIs ops o t want = true) (hv : a.tmps[t]? = some v) (h1 : g = true → v = .bool want) (h2 : g = false → v ≠ .bool want) : Region.wanted o (yielded ops a.tmps) = g := by
  unfold guardIs at hg
  split at hg
  · rename_i gi b' hgu
    simp only [Bool.and_eq_true, beq_iff_eq] at hg
    unfold Region.wanted yielded
    rw [hgu]
    simp only [hg.1, Option.bind_some, hv, hg.2]
    cases g with
    | true => rw [h1 rfl]; cases want <;> rfl
    | false =>
      have := h2 rfl
      cases v <;> try rfl
      rename_i b
      cases b <;> cases want <;> first | rfl | exact absurd rfl this
  · cases hg
theorem guard_free {X g want : Bool} (h : g = (X == want)) : (g = true → Value.bool X = .bool want) ∧ (g = false → Value.bool X ≠ .bool want) := by
 subst h
 cases X <;> cases want <;> simp
theorem guard_in {c X g want : Bool} (h : g = (c && (X == want))) : (g = true → (if c = true then Value.bool X else undef) = .bool want) ∧ (g = false → (if c = true then Value.bool X else undef) ≠ .bool want) := by
 subst h
 cases c <;> cases X <;> cases want <;> simp [undef]
theorem relS_if (mask : List Bool) (t : Tmp) (want g : Bool) {x : Value} (hf : fr done.length = false) (hg : guardIs ops o t want = true) (hm : (done.map fun x => !x.1.apart ops o) = mask)
    (h : oblS (fun a H => (∃ v, a.tmps[t]? = some v ∧ (g = true → v = .bool want) ∧ (g = false → v ≠ .bool want)) ∧ (g = true → ∀ w, H w → relUpon P w.heap.size w (IsV x) ((execOp a.eval o).run P w))) done mask a0 C)
    (hr : wpRelS P ops n fr C Q a0 (done ++ [(o, .inl (if g = true then x else undef))]) later) : wpRelS P ops n fr C Q a0 done (o :: later) :=
  relS_step (x := .inl (if g = true then x else undef)) (IsV.stable _) (by
    rw [hf]
    refine oblS_use (fun a H h => ?_) done mask a0 C hm h
    obtain ⟨⟨v, hv, h1, h2⟩, h3⟩ := h
    intro w hw
    have hwt := wanted_iff hg hv h1 h2
    cases g with
    | true =>
      refine relAt_wanted hwt ?_
      exact relUpon_mono (fun _ _ h => TF_false (by simpa [Ent.vt] using h)) (h3 rfl w hw)
    | false => exact relAt_not hwt (TF_false rfl)) hr
def finK (Q : Act → World → Prop) (fr : Nat → Bool) : Nat → List Value → List Ent → List Bool → Act → (World → Prop) → Prop
  | k, seen, (o, _) :: rest, false :: keep, a, H => ∀ v, finK Q fr (k + 1) seen rest keep (a.put o.dst v) H
  | k, seen, (o, .inl x) :: rest, true :: keep, a, H => finK Q fr (k + 1) seen rest keep (a.put o.dst x) H
  | k, seen, (o, .inr T) :: rest, true :: keep, a, H => match fr k with
    | true => ∀ v, finK Q fr (k + 1) (v :: seen) rest keep (a.put o.dst v) (fun w => H w ∧ T v w ∧ v ∉ seen)
    | false => ∀ v, finK Q fr (k + 1) seen rest keep (a.put o.dst v) (fun w => H w ∧ T v w)
  | _, _, _, _, a, H => ∀ w, H w → Q a w
def keepB (fr : Nat → Bool) : Nat → List Ent → List Bool → Bool
 | k, _ :: rest, b :: keep => (b || !fr k) && keepB fr (k + 1) rest keep
 | _, [], [] => true
 | _, _, _ => false
theorem finS_H : ∀ (done : List Ent) (k : Nat) (seen : List Value) (a : Act) (H H' : World → Prop), (∀ w, H' w → H w) → finS Q fr k seen done a H → finS Q fr k seen done a H'
  | [], _, _, _, _, _, hh, h => fun w hw => h w (hh w hw)
  | (o, .inl x) :: rest, k, seen, a, H, H', hh, h => finS_H rest (k + 1) seen _ H H' hh h
  | (o, .inr T) :: rest, k, seen, a, H, H', hh, h => by
    unfold finS at h ⊢
    cases hk : fr k with
    | true => rw [hk] at h; exact fun v => finS_H rest (k + 1) _ _ _ _ (fun w hw => ⟨hh w hw.1, hw.2⟩) (h v)
    | false => rw [hk] at h; exact fun v => finS_H rest (k + 1) _ _ _ _ (fun w hw => ⟨hh w hw.1, hw.2⟩) (h v)
theorem finK_use : ∀ (done : List Ent) (keep : List Bool) (k : Nat) (seen : List Value) (a : Act) (H : World → Prop), keepB fr k done keep = true → finK Q fr k seen done keep a H → finS Q fr k seen done a H
  | [], [], _, _, _, _, _, h => h
  | [], _ :: _, _, _, _, _, hk, _ => by simp [keepB] at hk
  | (o, .inl x) :: rest, true :: keep, k, seen, a, H, hk, h => finK_use rest keep (k + 1) seen _ H (by simp [keepB] at hk; exact hk) h
  | (o, .inr T) :: rest, true :: keep, k, seen, a, H, hk, h => by
    have hk' : keepB fr (k + 1) rest keep = true := by simp [keepB] at hk; exact hk
    unfold finK at h
    unfold finS
    cases hf : fr k with
    | true => rw [hf] at h; exact fun v => finK_use rest keep (k + 1) _ _ _ hk' (h v)
    | false => rw [hf] at h; exact fun v => finK_use rest keep (k + 1) _ _ _ hk' (h v)
  | (o, .inl x) :: rest, false :: keep, k, seen, a, H, hk, h => finK_use rest keep (k + 1) seen _ H (by simp [keepB] at hk; exact hk.2) (h x)
  | (o, .inr T) :: rest, false :: keep, k, seen, a, H, hk, h => by
    simp only [keepB, Bool.and_eq_true, Bool.false_or, Bool.not_eq_true'] at hk
    unfold finK at h
    unfold finS
    rw [hk.1]
    exact fun v => finS_H rest (k + 1) seen _ H _ (fun w hw => hw.1) (finK_use rest keep (k + 1) seen _ H hk.2 (h v))
  | _ :: _, [], _, _, _, _, hk, _ => by simp [keepB] at hk
theorem relS_endK (keep : List Bool) (hd : detB fr 0 done = true) (hk : keepB fr 0 done keep = true) (h : finK Q fr 0 [] done keep a0 C) : wpRelS P ops n fr C Q a0 done [] :=
 relS_end hd (finK_use done keep 0 [] a0 C hk h)
end
end
end Go.Proofs.YtbegdcjofnfkiaaGreatDoor
