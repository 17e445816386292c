/- Several texts in one: IterK RelW. -/
import Derived.Test.YtbegdcjofnfkiaaGreatDoorQ20
import Derived.TacticsIn
import Derived.Test.YtbegdcjofnfkiaaGreatDoorQ4
import Derived.OrdersIn
import Derived.RangeFuncCalls
namespace Go.Proofs.YtbegdcjofnfkiaaGreatDoor
section
open Go.RowKit
section
variable {F : Fence} {n : Nat} {P : Program} {Q : Exit → Act → World → Prop} {a : Act} {w : World}
theorem wpK_quiet {c : Code} (h : c.wpIn F n P (fun e a w => (∀ ch, e ≠ .panic ch) ∧ Q e a w) a w) : WpK F n P c Q a w := by
 intro b k cs h1 h2 h3
 obtain ⟨e, a', w', ⟨hn, q⟩, r⟩ := h b k cs h1 h2 h3
 exact ⟨e, a', w', q, r, fun chain he => absurd he (hn chain)⟩
theorem wpK_cond {c : Operand} {x y : Code} {t : Bool} (hc : a.eval c = .bool t) (h : WpK F n P (if t then x else y) Q a w) : WpK F n P (Code.cond c x y) Q a w := by
 intro b k cs hro hb hr
 obtain ⟨e, a', w', q, r, hp⟩ := h b k cs hro hb hr
 have hs : StepsIn (Machine.fenced P F) P (lone (b.atR a (.code (.cond c x y) :: k)) cs w) (lone (b.atR a (.code (if t then x else y) :: k)) cs w) := .one (fenced_calm hb hr rfl) (stepR_cond hc)
 refine ⟨e, a', w', q, .of_steps hs r, fun chain he => ?_⟩
 obtain ⟨todo, ht, h2⟩ := hp chain he
 exact ⟨todo, ht, StepsIn.trans hs h2⟩
theorem wpK_block {id : Nat} {c : Code} (h : WpK F n P c (Exit.inBlock id Q) a w) : WpK F n P (Code.block id c) Q a w := by
  intro b k cs hro hb hr
  have h0 : (lone (b.atR a (.code (.block id c) :: k)) cs w).fenced P F := fenced_calm hb hr rfl
  obtain ⟨e, a₁, w₁, hq, harr, hp⟩ := h b (.inBlock id :: k) cs hro hb hr
  cases e with
  | normal => exact ⟨.normal, a₁, w₁, hq, .head h0 stepR_block (StepsIn.trans harr (.one (fenced_calm hb hr rfl) stepR_inBlock)), fun _ he => by cases he⟩
  | exit id' =>
    by_cases hid : id' = id
    · simp only [Exit.inBlock, hid, if_true] at hq
      exact ⟨.normal, a₁, w₁, hq, .head h0 stepR_block (harr.1 k (by simp [exitTo, hid])), fun _ he => by cases he⟩
    · simp only [Exit.inBlock, hid, if_false] at hq
      have this : (id == id') = false := by simp; exact fun h => hid h.symm
      have hx : exitTo id' (.inBlock id :: k) = exitTo id' k := by simp [exitTo, this]
      exact ⟨.exit id', a₁, w₁, hq, ⟨fun k' hk => .head h0 stepR_block (harr.1 k' (by rw [hx]; exact hk)), fun hr' hk => let ⟨k₁, h1, h2⟩ := harr.2 hr' (by rw [hx]; exact hk); ⟨k₁, h1, .head h0 stepR_block h2⟩⟩, fun _ he => by cases he⟩
  | goto l => exact ⟨.goto l, a₁, w₁, hq, ⟨fun k' hk => .head h0 stepR_block (harr.1 k' (by simpa [gotoIn] using hk)), fun hr' hk => let ⟨k₁, h1, h2⟩ := harr.2 hr' (by simpa [gotoIn] using hk); ⟨k₁, h1, .head h0 stepR_block h2⟩⟩, fun _ he => by cases he⟩
  | ret => exact ⟨.ret, a₁, w₁, hq, ⟨fun h => let ⟨todo, hs⟩ := harr.1 h; ⟨todo, .head h0 stepR_block hs⟩, fun h => let ⟨k₁, hs⟩ := harr.2 h; ⟨k₁, .head h0 stepR_block hs⟩⟩, fun _ he => by cases he⟩
  | outgrown => exact ⟨.outgrown, a₁, w₁, hq, harr.imp (fun h => h) (Outgrown.of_steps (.one stepR_block)), fun _ he => by cases he⟩
  | panic ch =>
    obtain ⟨todo, ht, hs⟩ := hp ch rfl
    exact ⟨.panic ch, a₁, w₁, hq, ⟨todo, .head h0 stepR_block hs⟩, fun chain he => by cases he; exact ⟨todo, ht, .head h0 stepR_block hs⟩⟩
theorem wpK_region_lit {id : Nat} {l : List Oper} (h : wpListIn F n P l.toArray Q l a w) : WpK F n P (Code.region id l.toArray false) Q a w :=
 wpK_region (by rw [List.range_eq_range', show l.toArray.size = l.length by simp, wpOpsIn_eq_wpListIn l 0 (by simp)]; exact h)
end
end
section
open Go.RowKit
section
variable {P : Program} {ops : Array Oper} {n m : Nat} {fr : Nat → Bool}
theorem wpAnyW_tail {mm : Nat} {Q : Exit → Act → World → Prop} (hB : relBT ops m = true) : ∀ (fuel k : Nat) (listed : Array Bool) (a : Act) (w : World), listed.size = ops.size → unl ops.size listed ≤ fuel → m ≤ k → k ≤ ops.size →
    (∀ j, j < k → listed.getD j false = true) → (∀ j, k ≤ j → listed.getD j false = false) → wpListIn Fence.wide mm P ops Q (ops.toList.drop k) a w → wpAnyIn Fence.wide mm P .any ops Q fuel listed a w := by
  obtain ⟨_, hlow, _, htl⟩ := relBT_spec hB
  have hnone : ∀ (k : Nat) (listed : Array Bool), listed.size = ops.size → k ≤ ops.size → (∀ j, j < k → listed.getD j false = true) → (∀ j, k ≤ j → listed.getD j false = false) → Region.ready .any ops listed = [] → k = ops.size := by
    intro k listed hsz hk hon hoff hr
    rcases Nat.lt_or_ge k ops.size with hlt | hge
    · exfalso
      have hm : k ∈ Region.ready .any ops listed := by
        rw [mem_ready]
        have hkl : k < listed.size := by omega
        refine ⟨by have := hoff k (Nat.le_refl _); simpa [hkl] using this, ops[k], Array.getElem?_eq_getElem hlt, fun e he hbd => hon _ (hlow k _ (Array.getElem?_eq_getElem hlt) e he hbd)⟩
      rw [hr] at hm
      cases hm
    · omega
  intro fuel
  induction fuel with
  | zero =>
    intro k listed a w hsz hfu hmk hk hon hoff h
    have hr : Region.ready .any ops listed = [] := by
      cases hr : Region.ready .any ops listed with
      | nil => rfl
      | cons i rs =>
        have hi : i ∈ Region.ready .any ops listed := by rw [hr]; simp
        obtain ⟨h0, o, ho', _⟩ := mem_ready.1 hi
        have := unl_set hsz (Array.getElem?_eq_some_iff.1 ho').1 h0
        omega
    have hkz := hnone k listed hsz hk hon hoff hr
    subst hkz
    refine ⟨hr, ?_⟩
    rw [List.drop_of_length_le (by simp)] at h
    exact h
  | succ fuel ih =>
    intro k listed a w hsz hfu hmk hk hon hoff h
    refine ⟨fun hr => ?_, fun i hi => ?_⟩
    · have hkz := hnone k listed hsz hk hon hoff hr
      subst hkz
      rw [List.drop_of_length_le (by simp)] at h
      exact h
    · obtain ⟨h0, oi, hoi, hdeps⟩ := mem_ready.1 hi
      have hilt := (Array.getElem?_eq_some_iff.1 hoi).1
      have hioff : listed.getD i false = false := by
        have : i < listed.size := by omega
        simpa [this] using h0
      have hki : k ≤ i := by
        rcases Nat.lt_or_ge i k with h1 | h1
        · rw [hon i h1] at hioff; cases hioff
        · exact h1
      have hik : i = k := by
        rcases Nat.lt_or_ge k i with h1 | h1
        · exfalso
          have hkoff := hoff k (Nat.le_refl _)
          have hcl2 : ∀ (j : Nat) (oj : Oper), ops[j]? = some oj → listed.getD j false = true → ∀ e ∈ oj.after, Region.binds .any e = true → listed.getD e.on false = true := fun j oj ho hj e he hb => by
            have hjk : j < k := by
              rcases Nat.lt_or_ge j k with h2 | h2
              · exact h2
              · rw [hoff j h2] at hj; cases hj
            exact hon _ (Nat.lt_trans (hlow j oj ho e he hb) hjk)
          have := behind_listed (listed := fun j => listed.getD j false) hcl2 13 k i oi hoi hdeps (htl i oi hoi (by omega) k h1)
          rw [hkoff] at this; cases this
        · omega
      subst hik
      have hd : ops.toList.drop i = oi :: ops.toList.drop (i + 1) := drop_cons (by simpa using hoi)
      rw [hd] at h
      have next : ∀ a' w', wpListIn Fence.wide mm P ops Q (ops.toList.drop (i + 1)) a' w' → wpAnyIn Fence.wide mm P .any ops Q fuel (listed.setIfInBounds i true) a' w' := fun a' w' h' =>
        ih (i + 1) _ a' w' (by simpa using hsz) (by have := unl_set hsz hilt h0; omega) (by omega) (by omega)
          (fun j hj => by
            rcases Nat.lt_or_ge j i with h1 | h1
            · exact getD_set_true (hon j h1)
            · obtain rfl : j = i := by omega
              have : j < listed.size := by omega
              simp [this])
          (fun j hj => by rw [getD_set_ne false (by omega)]; exact hoff j (by omega)) h'
      unfold wpOpIn
      simp only [hoi]
      unfold wpListIn at h
      split
      · rename_i hw
        rw [if_pos hw] at h
        exact Oper.wpIn_mono next h
      · rename_i hw
        rw [if_neg hw] at h
        exact ⟨fun _ _ => trivial, next _ _ h.2⟩
theorem wpAnyW_of_relT {mm : Nat} {C : World → Prop} {Q : Exit → Act → World → Prop} {a0 : Act} {D : List (Oper × VT)} (hl : D.map (·.1) = ops.toList.take m) (hm : m ≤ ops.size) (hB : relBT ops m = true) (hC : ∀ w w', C w → Below n w w' → C w') (hCn : ∀ w, C w → n ≤ w.heap.size)
    (ho : ∀ (k : Nat) (o : Oper) (T : VT), D[k]? = some (o, T) → T.Stable ∧ oblT P ops n (fr k) T o (D.take k) a0 C) (hf : finT (fun a w => wpListIn Fence.wide mm P ops Q (ops.toList.drop m) a w) fr 0 [] D a0 C) :
    ∀ (fuel : Nat) (listed : Array Bool) (vs : Nat → Value) (w : World), listed.size = ops.size → unl ops.size listed ≤ fuel → (∀ j, m ≤ j → listed.getD j false = false) →
      (∀ (j : Nat) (oj : Oper), ops[j]? = some oj → listed.getD j false = true → ∀ e ∈ oj.after, Region.binds .any e = true → listed.getD e.on false = true) →
      (∀ (j : Nat) (o : Oper) (T : VT), D[j]? = some (o, T) → listed.getD j false = true → T (vs j) w ∧ (fr j = true → ∃ b, vs j = .pointer (some ⟨b, 0, none⟩) ∧ b < w.heap.size)) →
      (∀ i j, i < m → j < m → i ≠ j → fr i = true → fr j = true → listed.getD i false = true → listed.getD j false = true → vs i ≠ vs j) → C w →
      wpAnyIn Fence.wide mm P .any ops Q fuel listed (fillL (fun j => listed.getD j false) vs 0 (ops.toList.take m) a0) w := by
  obtain ⟨hsel0, hlow, hB1, htl⟩ := relBT_spec hB
  have hsel := Region.noSelect_spec hsel0
  have hDl : D.length = m := by
    have := congrArg List.length hl
    simp at this
    omega
  have hDo : ∀ {j : Nat} {x : Oper × VT}, D[j]? = some x → j < m ∧ ops[j]? = some x.1 := by
    intro j x hj
    have hjm : j < m := by rw [← hDl]; exact (List.getElem?_eq_some_iff.1 hj).1
    have h1 := congrArg (fun l => l[j]?) hl
    simp only [List.getElem?_map, hj, Option.map_some, List.getElem?_take, if_pos hjm] at h1
    exact ⟨hjm, by simpa using h1.symm⟩
  have hD : ∀ (k : Nat) (o : Oper), k < m → ops[k]? = some o → ∃ T : VT, D[k]? = some (o, T) := by
    intro k o hkm hk
    have hkD : k < D.length := by omega
    have h1 := hDo (List.getElem?_eq_getElem hkD)
    rw [hk] at h1
    exact ⟨D[k].2, by rw [List.getElem?_eq_getElem hkD, Option.some.inj h1.2]⟩
  -- all the first are listed
  have hfirst : ∀ (listed : Array Bool) (vs : Nat → Value) (w : World) (fuel : Nat), listed.size = ops.size → unl ops.size listed ≤ fuel → (∀ j, j < m → listed.getD j false = true) → (∀ j, m ≤ j → listed.getD j false = false) →
      (∀ (j : Nat) (o : Oper) (T : VT), D[j]? = some (o, T) → listed.getD j false = true → T (vs j) w ∧ (fr j = true → ∃ b, vs j = .pointer (some ⟨b, 0, none⟩) ∧ b < w.heap.size)) →
      (∀ i j, i < m → j < m → i ≠ j → fr i = true → fr j = true → listed.getD i false = true → listed.getD j false = true → vs i ≠ vs j) → C w →
      wpAnyIn Fence.wide mm P .any ops Q fuel listed (fillL (fun j => listed.getD j false) vs 0 (ops.toList.take m) a0) w := by
    intro listed vs w fuel hsz hfu hon hoff hT hne hCw
    refine wpAnyW_tail hB fuel m listed _ w hsz hfu (Nat.le_refl _) hm hon hoff ?_
    rw [← hl]
    refine fin_useT vs D 0 [] a0 C hf hCw fun j x hj => ?_
    rw [Nat.zero_add]
    obtain ⟨hjm, _⟩ := hDo hj
    refine ⟨hon j hjm, (hT j x.1 x.2 hj (hon j hjm)).1, fun hfj => ⟨by simp, fun i hi hfi => ?_⟩⟩
    rw [Nat.zero_add] at hfi ⊢
    exact hne j i hjm (by omega) (by omega) hfj hfi (hon j hjm) (hon i (by omega))
  intro fuel
  induction fuel with
  | zero =>
    intro listed vs w hsz hfu hoff _ hT hne hCw
    refine hfirst listed vs w 0 hsz hfu (fun j hj => ?_) hoff hT hne hCw
    rcases hb : listed.getD j false with _ | _
    · exfalso
      have hjl : j < listed.size := by omega
      have := unl_set (i := j) hsz (by omega) (by simpa [hjl] using hb)
      omega
    · rfl
  | succ fuel ih =>
    intro listed vs w hsz hfu hoff hcl hT hne hCw
    by_cases hall : ∀ j, j < m → listed.getD j false = true
    · exact hfirst listed vs w (fuel + 1) hsz hfu hall hoff hT hne hCw
    refine ⟨fun hr => ?_, fun i hi => ?_⟩
    · exfalso
      apply hall
      intro j
      induction j using Nat.strongRecOn with
      | ind j ihj =>
        intro hj
        cases hb : listed.getD j false with
        | true => rfl
        | false =>
          exfalso
          have hjo : j < ops.size := by omega
          have hm' : j ∈ Region.ready .any ops listed := by
            rw [mem_ready]
            have hjl : j < listed.size := by omega
            refine ⟨by simpa [hjl] using hb, ops[j], Array.getElem?_eq_getElem hjo, fun e he hbd => ?_⟩
            have hlt := hlow j ops[j] (Array.getElem?_eq_getElem hjo) e he hbd
            exact ihj e.on hlt (by omega)
          rw [hr] at hm'
          cases hm'
    obtain ⟨h0, oi, hoi, hdeps⟩ := mem_ready.1 hi
    have hilt := (Array.getElem?_eq_some_iff.1 hoi).1
    have hioff : listed.getD i false = false := by
      have : i < listed.size := by omega
      simpa [this] using h0
    have him : i < m := by
      rcases Nat.lt_or_ge i m with h1 | h1
      · exact h1
      · exfalso
        apply hall
        intro j hj
        exact behind_listed (listed := fun j => listed.getD j false) hcl 13 j i oi hoi hdeps (htl i oi hoi h1 j (by omega))
    obtain ⟨T, hDi⟩ := hD i oi him hoi
    obtain ⟨_, hob⟩ := ho i oi T hDi
    have hlater : ∀ j oj, ops[j]? = some oj → i < j → listed.getD j false = true → oi.apart ops oj = true := fun j oj hj hij hon => by
      have hjm : j < m := by
        rcases Nat.lt_or_ge j m with h1 | h1
        · exact h1
        · rw [hoff j h1] at hon; cases hon
      rcases hB1 j oj hj hjm i oi hij hoi with ⟨e, he, hb, hon'⟩ | h
      · have := hcl j oj hj hon e he hb
        rw [hon', hioff] at this
        cases this
      · exact h
    have hearlier : ∀ j oj, ops[j]? = some oj → j < i → oj.apart ops oi = false → listed.getD j false = true := fun j oj hj hij hna => by
      rcases hB1 i oi hoi him j oj hij hj with ⟨e, he, hb, hon'⟩ | h
      · have := hdeps e he hb
        rwa [hon'] at this
      · rw [h] at hna; cases hna
    have hused := obl_useT (w := w) vs (D.take i) 0 a0 C hob hCw (fun j x hj hna => by
      rw [Nat.zero_add]
      rw [List.getElem?_take] at hj
      split at hj
      · rename_i hji
        exact (hT j x.1 x.2 hj (hearlier j x.1 (hDo hj).2 hji hna)).1
      · cases hj)
    have hrel : relAt P ops n false (TF (fr i) T w) oi (fillL (fun j => listed.getD j false) vs 0 (ops.toList.take m) a0) w := by
      refine Agree.rel (hsel i oi · · hoi) ?_ hused
      have hsplit : ops.toList.take m = (D.take i).map (·.1) ++ (ops.toList.take m).drop i := by
        rw [← hl, List.map_take, List.take_append_drop]
      have hfa : ∀ (on : Nat → Bool) (l1 l2 : List Oper) (k : Nat) (a : Act), fillL on vs k (l1 ++ l2) a = fillL on vs (k + l1.length) l2 (fillL on vs k l1 a) := by
        intro on l1
        induction l1 with
        | nil => intro l2 k a; rfl
        | cons x l1 ih => intro l2 k a; simp only [List.cons_append, fillL, List.length_cons]; rw [ih]; congr 1; omega
      have hlen : ((D.take i).map (·.1)).length = i := by simp; omega
      have h1 : Agree ops oi (fillL (fun j => match (D.take i)[j - 0]? with | some x => !x.1.apart ops oi | none => false) vs 0 ((D.take i).map (·.1)) a0) (fillL (fun j => listed.getD j false) vs 0 ((D.take i).map (·.1)) a0) := by
        refine fillL_agree _ _ _ _ (Agree.refl _ _) fun j oj hj hne x hx => ?_
        rw [List.getElem?_map] at hj
        cases hd : (D.take i)[j]? with
        | none => rw [hd] at hj; simp at hj
        | some y =>
          rw [hd] at hj
          simp at hj
          subst hj
          have hji : j < i := by
            have := (List.getElem?_eq_some_iff.1 hd).1
            simp at this
            omega
          rw [List.getElem?_take, if_pos hji] at hd
          have hoj := (hDo hd).2
          have hyy : (D.take i)[j]? = some y := by rw [List.getElem?_take, if_pos hji]; exact hd
          simp only [Nat.zero_add, Nat.sub_zero, hyy] at hne
          cases hap : y.1.apart ops oi with
          | true => exact (Oper.apart_spec hap).1 x hx
          | false =>
            rw [hap, hearlier j y.1 hoj hji hap] at hne
            exact absurd rfl hne
      rw [hsplit, hfa, hlen]
      have h2 : ∀ (l : List Oper) (k : Nat) (a : Act), (∀ j oj, l[j]? = some oj → listed.getD (k + j) false = true → ∀ x, oj.dst = some x → x ∉ oi.looksAt ops) → Agree ops oi a (fillL (fun j => listed.getD j false) vs k l a) := by
        intro l k a hh
        have := fillL_agree (ops := ops) (o := oi) (on := fun _ => false) (on' := fun j => listed.getD j false) (vs := vs) l k a a (Agree.refl _ _) (fun j oj hj hne x hx => hh j oj hj (by
          cases hb : listed.getD (k + j) false with
          | true => rfl
          | false => exact absurd hb.symm hne) x hx)
        have hz : ∀ (l : List Oper) (k : Nat) (a : Act), fillL (fun _ => false) vs k l a = a := by
          intro l
          induction l with
          | nil => intro k a; rfl
          | cons o l ih => intro k a; simp only [fillL, Bool.false_eq_true, if_false]; exact ih _ _
        rwa [hz] at this
      refine fun t ht => (h1 t ht).trans (h2 ((ops.toList.take m).drop i) (0 + i) _ (fun j oj hj hon x hx => ?_) t ht)
      rw [List.getElem?_drop, List.getElem?_take] at hj
      split at hj
      · have hoj : ops[i + j]? = some oj := by simpa using hj
        rw [Nat.zero_add] at hon
        rcases Nat.eq_zero_or_pos j with rfl | hpos
        · rw [Nat.add_zero, hioff] at hon; cases hon
        · exact (Oper.apart_spec (hlater (i + j) oj hoj (by omega) hon)).2.2 x hx
      · cases hj
    have next : ∀ v w', Below w.heap.size w w' → TF (fr i) T w v w' → wpAnyIn Fence.wide mm P .any ops Q fuel (listed.setIfInBounds i true) ((fillL (fun j => listed.getD j false) vs 0 (ops.toList.take m) a0).put oi.dst v) w' := by
      rintro v w' hb ⟨hv, hvf⟩
      have hbn : Below n w w' := hb.mono (hCn w hCw)
      have hoiT : (ops.toList.take m)[i]? = some oi := by rw [List.getElem?_take, if_pos him]; simpa using hoi
      rw [fillL_set (i := i) (oi := oi) (ops.toList.take m) 0 a0 (Nat.zero_le _) (by simpa using hoiT) hioff (fun j oj hj hij hon x hx => by
        rw [Nat.zero_add] at hij hon
        rw [List.getElem?_take] at hj
        split at hj
        · exact (Oper.apart_spec (hlater j oj (by simpa using hj) hij hon)).2.1 x hx
        · cases hj)]
      have hset : ∀ j, j < ops.size → (j == i || listed.getD j false) = (listed.setIfInBounds i true).getD j false := by
        intro j hj
        by_cases hji : j = i
        · subst hji
          have : j < listed.size := by omega
          simp [this]
        · rw [getD_set_ne false (Ne.symm hji)]
          simp [hji]
      rw [fillL_ext (on' := fun j => (listed.setIfInBounds i true).getD j false) (vs' := fun j => if j = i then v else vs j) (ops.toList.take m) 0 a0 (fun j _ hj => ⟨hset j (by simp at hj; omega), fun _ => rfl⟩)]
      have hold : ∀ j, (listed.setIfInBounds i true).getD j false = true → j ≠ i → listed.getD j false = true := fun j hon hji => by
        rwa [getD_set_ne false (Ne.symm hji)] at hon
      refine ih _ _ w' (by simpa using hsz) (by have := unl_set hsz hilt h0; omega) (fun j hj => by rw [getD_set_ne false (by omega)]; exact hoff j hj) (fun j oj hj hon e he hbd => ?_) (fun j o T' hj hon => ?_) (fun j k hj hk hjk hfj hfk hoj hok => ?_) (hC w w' hCw hbn)
      · by_cases hji : j = i
        · subst hji
          rw [hoi] at hj
          injection hj with hj
          subst hj
          exact getD_set_true (hdeps e he hbd)
        · exact getD_set_true (hcl j oj hj (hold j hon hji) e he hbd)
      · by_cases hji : j = i
        · subst hji
          rw [hDi] at hj
          injection hj with hj
          injection hj with e1 e2
          subst e1 e2
          rw [if_pos rfl]
          refine ⟨hv, fun hf => ?_⟩
          obtain ⟨b, h1, _, h3⟩ := hvf hf
          exact ⟨b, h1, h3⟩
        · simp only [if_neg hji]
          have hTj := hT j o T' hj (hold j hon hji)
          refine ⟨(ho j o T' hj).1 _ _ _ hb hTj.1, fun hf => ?_⟩
          obtain ⟨b, h1, h2⟩ := hTj.2 hf
          exact ⟨b, h1, Nat.lt_of_lt_of_le h2 hb.size⟩
      · have hfresh : ∀ k, k < m → k ≠ i → fr k = true → fr i = true → (listed.setIfInBounds i true).getD k false = true → v ≠ vs k := fun k hk hki hfk hfi hok => by
          obtain ⟨b, h1, h2, _⟩ := hvf hfi
          obtain ⟨Tk, hDk⟩ := hD k ops[k] hk (Array.getElem?_eq_getElem (by omega))
          obtain ⟨b', h1', h2'⟩ := (hT k _ Tk hDk (hold k hok hki)).2 hfk
          rw [h1, h1']
          intro h
          injection h with h
          injection h with h
          injection h with h
          omega
        by_cases hji : j = i
        · subst hji
          rw [if_pos rfl, if_neg (Ne.symm hjk)]
          exact hfresh k hk (Ne.symm hjk) hfk hfj hok
        · by_cases hki : k = i
          · subst hki
            rw [if_pos rfl, if_neg hji]
            exact fun h => hfresh j hj hji hfj hfk hoj h.symm
          · rw [if_neg hji, if_neg hki]
            exact hne j k hj hk hjk hfj hfk (hold j hoj hji) (hold k hok hki)
    unfold wpOpIn
    simp only [hoi]
    unfold relAt at hrel
    rw [show reach n false w = w.heap.size from rfl] at hrel
    split
    · rename_i hw
      rw [if_pos hw] at hrel
      refine ⟨fun _ _ => trivial, ?_⟩
      have hnd : ∀ c, oi.op ≠ .defer c := by
        intro c ho
        generalize fillL (fun j => listed.getD j false) vs 0 (ops.toList.take m) a0 = A at hrel
        unfold execOp at hrel
        simp only [ho, Sem.run_bind] at hrel
        cases hr : (resolve A.eval c oi.type).run P w with
        | ok d w' => simp [hr, Result.andThen, relUpon] at hrel
        | halt x w' => simp [hr, Result.andThen, relUpon] at hrel
      rw [Oper.semAt_eq _ _ oi hnd]
      generalize (execOp (fillL (fun j => listed.getD j false) vs 0 (ops.toList.take m) a0).eval oi).run P w = r at hrel
      cases r with
      | ok n w' =>
        cases n <;> simp only [relUpon] at hrel <;> simp only [Oper.uponIn]
        case value u => exact next u w' hrel.1 hrel.2
        case skip => exact next undef w' hrel.1 hrel.2
        case enter f args =>
          exact ⟨fun h => by simp [Fence.wide] at h, (callsIn_wide.2 (hrel.mono fun e w'' ⟨v, he, h1, h2⟩ => by subst he; exact next v w'' h1 h2))⟩
      | halt x w' => simp only [relUpon] at hrel
    · rename_i hw
      rw [if_neg hw] at hrel
      exact ⟨fun _ _ => trivial, next undef w (Below.refl _ _) hrel⟩
theorem wpIn_region_tailW {mm : Nat} {id : Nat} {Q : Exit → Act → World → Prop} {a : Act} {w : World} {l : List Oper} (n m : Nat) (fr : Nat → Bool) (hn : n ≤ w.heap.size) (hmx : P.follows .mixedOrders = true) (hm : decide (m ≤ l.length) = true) (hB : relBT l.toArray m = true)
  (h : wpRelT P l.toArray n fr (Below n w) (fun a' w' => wpListIn Fence.wide mm P l.toArray Q (l.drop m) a' w') a [] (l.take m)) : (Code.region id l.toArray true).wpIn Fence.wide mm P Q a w := by
 have hm' : m ≤ l.length := by simpa using hm
 obtain ⟨D, h1, _, h3, h4⟩ := wpRelT_all _ [] h
 refine wpIn_region_any hmx ?_
 have := wpAnyW_of_relT (Q := Q) (ops := l.toArray) (D := D) (a0 := a) (m := m) (fr := fr) (C := Below n w) (by simpa using h1) (by simpa using hm') hB (fun w1 w2 hb hb' => hb.trans hb') (fun w1 hb => Nat.le_trans hn hb.size)
  (fun k o T hk => h3 k o T (Nat.zero_le _) hk) h4 l.toArray.size (Array.replicate l.toArray.size false) (fun _ => undef) { w with drawn := w.drawn + 1 } (by simp)
  (by unfold unl; exact Nat.le_trans (List.length_filter_le _ _) (by simp)) (fun j _ => getD_rep _ _) (fun j oj _ hon => by rw [getD_rep] at hon; cases hon) (fun j o T _ hon => by rw [getD_rep] at hon; cases hon) (fun i j _ _ _ _ _ hon _ => by rw [getD_rep] at hon; cases hon) ⟨rfl, rfl, rfl, Nat.le_refl _, fun _ _ => rfl⟩
 have hz : ∀ (l : List Oper) (on : Nat → Bool) (k : Nat) (a : Act), (∀ j, on j = false) → fillL on (fun _ => undef) k l a = a := by
  intro l on
  induction l with
  | nil => intro k a _; rfl
  | cons o l ih => intro k a hon; simp only [fillL, hon, Bool.false_eq_true, if_false]; exact ih _ _ hon
 rwa [hz _ _ _ _ (fun j => getD_rep _ _)] at this
theorem wpIn_region_SW {id mm : Nat} {Q : Exit → Act → World → Prop} {a : Act} {w : World} {l : List Oper} (n m : Nat) (fr : Nat → Bool) (hn : n ≤ w.heap.size) (hmx : P.follows .mixedOrders = true) (hm : decide (m ≤ l.length) = true) (hB : relBT l.toArray m = true)
  (h : wpRelS P l.toArray n fr (Below n w) (fun a' w' => wpListIn Fence.wide mm P l.toArray Q (l.drop m) a' w') a [] (l.take m)) : (Code.region id l.toArray true).wpIn Fence.wide mm P Q a w :=
 wpIn_region_tailW n m fr hn hmx hm hB h
theorem relS_endG {Q : Act → World → Prop} {C : World → Prop} {a0 : Act} {done : List Ent} (hd : detB fr 0 done = true) (h : ∀ CC : Act → World → Prop, (∀ a w, Q a w → CC a w) → finS CC fr 0 [] done a0 C) : wpRelS P ops n fr C Q a0 done [] :=
 relS_end hd (h Q fun _ _ h => h)
end
end
end Go.Proofs.YtbegdcjofnfkiaaGreatDoor
