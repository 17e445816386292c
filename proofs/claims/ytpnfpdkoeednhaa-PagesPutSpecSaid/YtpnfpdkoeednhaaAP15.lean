/- The walk, plainly: its lists stay in order; one step of its loop. -/
import Derived.Test.YtpnfpdkoeednhaaAP14
namespace Go.Proofs.Ytpnfpdkoeednhaa
open Go.RowKit

/-- In order, and out of the pages. -/
def InvM (ps : List Pv) (m : List Fc) : Prop := StrP m ∧ ∀ x ∈ m, x ∈ ps.flatMap (·.facts)
theorem InvM.nil (ps : List Pv) : InvM ps [] := ⟨List.Pairwise.nil, fun _ h => by cases h⟩
theorem InvM.len {ps : List Pv} {m : List Fc} (h : InvM ps m) : m.length ≤ (ps.flatMap (·.facts)).length := nodup_sub_len (str_nodup h.1) h.2
theorem chain_str {l t : List Fc} (hl : StrP l) (ht : StrP t) (hc : ∀ a, l.getLast? = some a → ∀ f ∈ t, ltP a f = true) : StrP (l ++ t) := by
  refine List.pairwise_append.2 ⟨hl, ht, fun a ha b hb => ?_⟩
  cases hz : l.getLast? with
  | none => rw [List.getLast?_eq_none_iff] at hz; subst hz; cases ha
  | some z =>
    have hzb := hc z hz b hb
    obtain ⟨i, hi, e⟩ := List.mem_iff_getElem.1 ha
    have hlen := List.length_pos_of_mem ha
    have hzl : z = l[l.length - 1] := by
      rw [List.getLast?_eq_getElem?, List.getElem?_eq_getElem (by omega)] at hz
      exact (Option.some.inj hz).symm
    rcases Nat.lt_or_ge i (l.length - 1) with h | h
    · refine ltP_tr a z b ?_ hzb
      rw [← e, hzl]
      exact List.pairwise_iff_getElem.1 hl i (l.length - 1) hi (by omega) h
    · have : a = z := by rw [← e, hzl]; congr 1; omega
      rw [this]; exact hzb
theorem walkP_inv {ps : List Pv} {p d : Nat} {root : Bool} {l m : List Fc} (h : InvM ps l) (hw : walkP ps p root l = some (m, d)) : InvM ps m := by
  obtain ⟨_, rfl, hc⟩ := walkP_iff.1 hw
  obtain ⟨_, h2, h3⟩ := ChainP.str.1 hc
  refine ⟨chain_str h.1 h2 h3, fun x hx => ?_⟩
  rcases List.mem_append.1 hx with hx | hx
  · exact h.2 x hx
  · exact allG_mem ps _ _ x hx
theorem subW_inv {ps : List Pv} {q j lv lv' : Nat} {g : Pv} {m m' : List Fc} (h : InvM ps m) (hs : subW (kidW ps q) g j (m, lv) = some (m', lv')) : InvM ps m' := by
  unfold subW at hs
  split at hs
  · cases hs; exact h
  · cases hk : kidW ps q (g.kids.getD j 0) m with
    | none => rw [hk] at hs; cases hs
    | some r =>
      obtain ⟨r1, r2⟩ := r
      rw [hk] at hs
      have hs2 : (if j = 0 ∨ r2 = lv then some (r1, r2) else none) = some (m', lv') := hs
      split at hs2
      · cases hs2
        unfold kidW at hk
        split at hk
        · exact walkP_inv h hk
        · cases hk
      · cases hs2
theorem nextOk_lt {m : List Fc} {f : Fc} (h : nextOk m.getLast? f = true) : ∀ a, m.getLast? = some a → ∀ x ∈ [f], ltP a x = true := by
  intro a ha x hx
  simp at hx; subst hx
  unfold nextOk at h
  rw [ha] at h
  simp only [Bool.and_eq_true, lastLt] at h
  exact h.2
theorem factW_inv {ps : List Pv} {j lv lv' : Nat} {g : Pv} {m m' : List Fc} (hg : g ∈ ps) (h : InvM ps m) (hf : factW g j (m, lv) = some (m', lv')) : InvM ps m' := by
  unfold factW at hf
  split at hf
  · cases hf; exact h
  · rename_i f hfj
    split at hf
    · rename_i hn
      cases hf
      refine ⟨chain_str h.1 (List.pairwise_singleton _ _) (nextOk_lt hn), fun x hx => ?_⟩
      rcases List.mem_append.1 hx with hx | hx
      · exact h.2 x hx
      · simp at hx; subst hx
        exact List.mem_flatMap.2 ⟨g, hg, List.mem_of_getElem? hfj⟩
    · cases hf
theorem loop_step {sub : Int → List Fc → Option (List Fc × Nat)} {g : Pv} {l m m' : List Fc} {j lv lv' : Nat} (h : loopW sub g l j = some (m, lv)) (hs : subW sub g j (m, lv) = some (m', lv')) : loopW sub g l (j + 1) = factW g j (m', lv') := by
  rw [loopW_succ, h]
  show (subW sub g j (m, lv)).bind (factW g j) = _
  rw [hs]; rfl
theorem loop_no {sub : Int → List Fc → Option (List Fc × Nat)} {g : Pv} {l m : List Fc} {j lv : Nat} (h : loopW sub g l j = some (m, lv)) (hs : subW sub g j (m, lv) = none) : loopW sub g l (j + 1) = none := by
  rw [loopW_succ, h]
  show (subW sub g j (m, lv)).bind (factW g j) = _
  rw [hs]; rfl
theorem loopW_inv {ps : List Pv} {q : Nat} {g : Pv} {l : List Fc} (hg : g ∈ ps) (hl : InvM ps l) : ∀ (j : Nat) (m : List Fc) (lv : Nat), loopW (kidW ps q) g l j = some (m, lv) → InvM ps m
  | 0, m, lv, h => by rw [loopW_zero] at h; cases h; exact hl
  | j + 1, m, lv, h => by
    cases hj : loopW (kidW ps q) g l j with
    | none => rw [loopW_succ, hj] at h; cases h
    | some r =>
      obtain ⟨r1, r2⟩ := r
      have ih := loopW_inv hg hl j r1 r2 hj
      cases hs : subW (kidW ps q) g j (r1, r2) with
      | none => rw [loop_no hj hs] at h; cases h
      | some t =>
        obtain ⟨t1, t2⟩ := t
        rw [loop_step hj hs] at h
        exact factW_inv hg (subW_inv ih hs) h
theorem subW_leaf {sub : Int → List Fc → Option (List Fc × Nat)} {g : Pv} {j : Nat} {s : List Fc × Nat} (h : g.kids.length = 0) : subW sub g j s = some s := by
  unfold subW; rw [if_pos h]
theorem subW_kid {sub : Int → List Fc → Option (List Fc × Nat)} {g : Pv} {j : Nat} {kid : Int} {m : List Fc} {lv : Nat} (h : g.kids[j]? = some kid) : subW sub g j (m, lv) = (sub kid m).bind fun r => if j = 0 ∨ r.2 = lv then some r else none := by
  have h0 : ¬ g.kids.length = 0 := fun e => by rw [List.length_eq_zero_iff.1 e] at h; cases h
  unfold subW
  rw [if_neg h0, List.getD_eq_getElem?_getD, h]
  rfl
theorem factW_end {g : Pv} {j : Nat} {s : List Fc × Nat} (h : g.facts[j]? = none) : factW g j s = some s := by
  unfold factW; rw [h]
theorem factW_one {g : Pv} {j lv : Nat} {m : List Fc} {f : Fc} (h : g.facts[j]? = some f) : factW g j (m, lv) = if nextOk m.getLast? f = true then some (m ++ [f], lv) else none := by
  unfold factW; rw [h]
end Go.Proofs.Ytpnfpdkoeednhaa

