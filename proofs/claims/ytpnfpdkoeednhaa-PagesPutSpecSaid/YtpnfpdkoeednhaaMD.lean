/- Several texts in one: IterK RelW A8 A25. -/
import Derived.Test.YtpnfpdkoeednhaaM1
import Derived.TacticsIn
import Derived.Test.YtpnfpdkoeednhaaM3
import Derived.OrdersIn
import Derived.RangeFuncCalls
import Derived.Test.YtpnfpdkoeednhaaMC
import Derived.OwnWalkIn
import Derived.TacticsInMore
import Derived.LoopNIn
import Derived.LoopIn
import Derived.Test.YtpnfpdkoeednhaaMA
import Derived.RangeFuncLeaves
section
/- More rules for walks in which a panic is told with what the frame had left to do (see IterP). Over any program. -/
namespace Go.Proofs.Ytpnfpdkoeednhaa
open Go.RowKit
section
variable {F : Fence} {n : Nat} {P : Program} {Q : Exit → Act → World → Prop} {a : Act} {w : World}
theorem wpK_quiet {c : Code} (h : c.wpIn F n P (fun e a w => (∀ ch, e ≠ .panic ch) ∧ Q e a w) a w) : WpK F n P c Q a w := by
  intro b k cs h1 h2 h3
  obtain ⟨e, a', w', ⟨hn, q⟩, r⟩ := h b k cs h1 h2 h3
  exact ⟨e, a', w', q, r, fun chain he => absurd he (hn chain)⟩
theorem wpK_cond {c : Operand} {x y : Code} {t : Bool} (hc : a.eval c = .bool t) (h : WpK F n P (if t then x else y) Q a w) : WpK F n P (Code.cond c x y) Q a w := by
  intro b k cs hro hb hr
  obtain ⟨e, a', w', q, r, hp⟩ := h b k cs hro hb hr
  have hs : StepsIn (Machine.fenced P F) P (lone (b.atR a (.code (.cond c x y) :: k)) cs w) (lone (b.atR a (.code (if t then x else y) :: k)) cs w) := .one (fenced_calm hb hr rfl) (stepR_cond hc)
  refine ⟨e, a', w', q, .of_steps hs r, fun chain he => ?_⟩
  obtain ⟨todo, ht, h2⟩ := hp chain he
  exact ⟨todo, ht, StepsIn.trans hs h2⟩
theorem wpK_block {id : Nat} {c : Code} (h : WpK F n P c (Exit.inBlock id Q) a w) : WpK F n P (Code.block id c) Q a w := by
  intro b k cs hro hb hr
  have h0 : (lone (b.atR a (.code (.block id c) :: k)) cs w).fenced P F := fenced_calm hb hr rfl
  obtain ⟨e, a₁, w₁, hq, harr, hp⟩ := h b (.inBlock id :: k) cs hro hb hr
  cases e with
  | normal => exact ⟨.normal, a₁, w₁, hq, .head h0 stepR_block (StepsIn.trans harr (.one (fenced_calm hb hr rfl) stepR_inBlock)), fun _ he => by cases he⟩
  | exit id' =>
    by_cases hid : id' = id
    · simp only [Exit.inBlock, hid, if_true] at hq
      exact ⟨.normal, a₁, w₁, hq, .head h0 stepR_block (harr.1 k (by simp [exitTo, hid])), fun _ he => by cases he⟩
    · simp only [Exit.inBlock, hid, if_false] at hq
      have this : (id == id') = false := by simp; exact fun h => hid h.symm
      have hx : exitTo id' (.inBlock id :: k) = exitTo id' k := by simp [exitTo, this]
      exact ⟨.exit id', a₁, w₁, hq, ⟨fun k' hk => .head h0 stepR_block (harr.1 k' (by rw [hx]; exact hk)), fun hr' hk => let ⟨k₁, h1, h2⟩ := harr.2 hr' (by rw [hx]; exact hk); ⟨k₁, h1, .head h0 stepR_block h2⟩⟩, fun _ he => by cases he⟩
  | goto l => exact ⟨.goto l, a₁, w₁, hq, ⟨fun k' hk => .head h0 stepR_block (harr.1 k' (by simpa [gotoIn] using hk)), fun hr' hk => let ⟨k₁, h1, h2⟩ := harr.2 hr' (by simpa [gotoIn] using hk); ⟨k₁, h1, .head h0 stepR_block h2⟩⟩, fun _ he => by cases he⟩
  | ret => exact ⟨.ret, a₁, w₁, hq, ⟨fun h => let ⟨todo, hs⟩ := harr.1 h; ⟨todo, .head h0 stepR_block hs⟩, fun h => let ⟨k₁, hs⟩ := harr.2 h; ⟨k₁, .head h0 stepR_block hs⟩⟩, fun _ he => by cases he⟩
  | outgrown => exact ⟨.outgrown, a₁, w₁, hq, harr.imp (fun h => h) (Outgrown.of_steps (.one stepR_block)), fun _ he => by cases he⟩
  | panic ch =>
    obtain ⟨todo, ht, hs⟩ := hp ch rfl
    exact ⟨.panic ch, a₁, w₁, hq, ⟨todo, .head h0 stepR_block hs⟩, fun chain he => by cases he; exact ⟨todo, ht, .head h0 stepR_block hs⟩⟩
theorem wpK_region_lit {id : Nat} {l : List Oper} (h : wpListIn F n P l.toArray Q l a w) : WpK F n P (Code.region id l.toArray false) Q a w :=
  wpK_region (by rw [List.range_eq_range', show l.toArray.size = l.length by simp, wpOpsIn_eq_wpListIn l 0 (by simp)]; exact h)
end
end Go.Proofs.Ytpnfpdkoeednhaa

end
section
/- As RelT's law, for a region in gi mode (XRelR, turned by sed). Over any program. -/
namespace Go.Proofs.Ytpnfpdkoeednhaa
open Go.RowKit
section
variable {P : Program} {ops : Array Oper} {n m : Nat} {fr : Nat → Bool}
/-- The last operations, each behind all before it. -/
theorem wpAnyW_tail {mm : Nat} {Q : Exit → Act → World → Prop} (hB : relBT ops m = true) : ∀ (fuel k : Nat) (listed : Array Bool) (a : Act) (w : World), listed.size = ops.size → unl ops.size listed ≤ fuel → m ≤ k → k ≤ ops.size →
    (∀ j, j < k → listed.getD j false = true) → (∀ j, k ≤ j → listed.getD j false = false) → wpListIn Fence.wide mm P ops Q (ops.toList.drop k) a w → wpAnyIn Fence.wide mm P .any ops Q fuel listed a w := by
  obtain ⟨_, hlow, _, htl⟩ := relBT_spec hB
  have hnone : ∀ (k : Nat) (listed : Array Bool), listed.size = ops.size → k ≤ ops.size → (∀ j, j < k → listed.getD j false = true) → (∀ j, k ≤ j → listed.getD j false = false) → Region.ready .any ops listed = [] → k = ops.size := by
    intro k listed hsz hk hon hoff hr
    rcases Nat.lt_or_ge k ops.size with hlt | hge
    · exfalso
      have hm : k ∈ Region.ready .any ops listed := by
        rw [mem_ready]
        have hkl : k < listed.size := by omega
        refine ⟨by have := hoff k (Nat.le_refl _); simpa [hkl] using this, ops[k], Array.getElem?_eq_getElem hlt, fun e he hbd => hon _ (hlow k _ (Array.getElem?_eq_getElem hlt) e he hbd)⟩
      rw [hr] at hm
      cases hm
    · omega
  intro fuel
  induction fuel with
  | zero =>
    intro k listed a w hsz hfu hmk hk hon hoff h
    have hr : Region.ready .any ops listed = [] := by
      cases hr : Region.ready .any ops listed with
      | nil => rfl
      | cons i rs =>
        have hi : i ∈ Region.ready .any ops listed := by rw [hr]; simp
        obtain ⟨h0, o, ho', _⟩ := mem_ready.1 hi
        have := unl_set hsz (Array.getElem?_eq_some_iff.1 ho').1 h0
        omega
    have hkz := hnone k listed hsz hk hon hoff hr
    subst hkz
    refine ⟨hr, ?_⟩
    rw [List.drop_of_length_le (by simp)] at h
    exact h
  | succ fuel ih =>
    intro k listed a w hsz hfu hmk hk hon hoff h
    refine ⟨fun hr => ?_, fun i hi => ?_⟩
    · have hkz := hnone k listed hsz hk hon hoff hr
      subst hkz
      rw [List.drop_of_length_le (by simp)] at h
      exact h
    · obtain ⟨h0, oi, hoi, hdeps⟩ := mem_ready.1 hi
      have hilt := (Array.getElem?_eq_some_iff.1 hoi).1
      have hioff : listed.getD i false = false := by
        have : i < listed.size := by omega
        simpa [this] using h0
      have hki : k ≤ i := by
        rcases Nat.lt_or_ge i k with h1 | h1
        · rw [hon i h1] at hioff; cases hioff
        · exact h1
      have hik : i = k := by
        rcases Nat.lt_or_ge k i with h1 | h1
        · exfalso
          have hkoff := hoff k (Nat.le_refl _)
          have hcl2 : ∀ (j : Nat) (oj : Oper), ops[j]? = some oj → listed.getD j false = true → ∀ e ∈ oj.after, Region.binds .any e = true → listed.getD e.on false = true := fun j oj ho hj e he hb => by
            have hjk : j < k := by
              rcases Nat.lt_or_ge j k with h2 | h2
              · exact h2
              · rw [hoff j h2] at hj; cases hj
            exact hon _ (Nat.lt_trans (hlow j oj ho e he hb) hjk)
          have := behind_listed (listed := fun j => listed.getD j false) hcl2 13 k i oi hoi hdeps (htl i oi hoi (by omega) k h1)
          rw [hkoff] at this; cases this
        · omega
      subst hik
      have hd : ops.toList.drop i = oi :: ops.toList.drop (i + 1) := drop_cons (by simpa using hoi)
      rw [hd] at h
      have next : ∀ a' w', wpListIn Fence.wide mm P ops Q (ops.toList.drop (i + 1)) a' w' → wpAnyIn Fence.wide mm P .any ops Q fuel (listed.setIfInBounds i true) a' w' := fun a' w' h' =>
        ih (i + 1) _ a' w' (by simpa using hsz) (by have := unl_set hsz hilt h0; omega) (by omega) (by omega)
          (fun j hj => by
            rcases Nat.lt_or_ge j i with h1 | h1
            · exact getD_set_true (hon j h1)
            · obtain rfl : j = i := by omega
              have : j < listed.size := by omega
              simp [this])
          (fun j hj => by rw [getD_set_ne false (by omega)]; exact hoff j (by omega)) h'
      unfold wpOpIn
      simp only [hoi]
      unfold wpListIn at h
      split
      · rename_i hw
        rw [if_pos hw] at h
        exact Oper.wpIn_mono next h
      · rename_i hw
        rw [if_neg hw] at h
        exact ⟨fun _ _ => trivial, next _ _ h.2⟩

theorem wpAnyW_of_relT {mm : Nat} {C : World → Prop} {Q : Exit → Act → World → Prop} {a0 : Act} {D : List (Oper × VT)} (hl : D.map (·.1) = ops.toList.take m) (hm : m ≤ ops.size) (hB : relBT ops m = true) (hC : ∀ w w', C w → Below n w w' → C w') (hCn : ∀ w, C w → n ≤ w.heap.size)
    (ho : ∀ (k : Nat) (o : Oper) (T : VT), D[k]? = some (o, T) → T.Stable ∧ oblT P ops n (fr k) T o (D.take k) a0 C) (hf : finT (fun a w => wpListIn Fence.wide mm P ops Q (ops.toList.drop m) a w) fr 0 [] D a0 C) :
    ∀ (fuel : Nat) (listed : Array Bool) (vs : Nat → Value) (w : World), listed.size = ops.size → unl ops.size listed ≤ fuel → (∀ j, m ≤ j → listed.getD j false = false) →
      (∀ (j : Nat) (oj : Oper), ops[j]? = some oj → listed.getD j false = true → ∀ e ∈ oj.after, Region.binds .any e = true → listed.getD e.on false = true) →
      (∀ (j : Nat) (o : Oper) (T : VT), D[j]? = some (o, T) → listed.getD j false = true → T (vs j) w ∧ (fr j = true → ∃ b, vs j = .pointer (some ⟨b, 0, none⟩) ∧ b < w.heap.size)) →
      (∀ i j, i < m → j < m → i ≠ j → fr i = true → fr j = true → listed.getD i false = true → listed.getD j false = true → vs i ≠ vs j) → C w →
      wpAnyIn Fence.wide mm P .any ops Q fuel listed (fillL (fun j => listed.getD j false) vs 0 (ops.toList.take m) a0) w := by
  obtain ⟨hsel0, hlow, hB1, htl⟩ := relBT_spec hB
  have hsel := Region.noSelect_spec hsel0
  have hDl : D.length = m := by
    have := congrArg List.length hl
    simp at this
    omega
  have hDo : ∀ {j : Nat} {x : Oper × VT}, D[j]? = some x → j < m ∧ ops[j]? = some x.1 := by
    intro j x hj
    have hjm : j < m := by rw [← hDl]; exact (List.getElem?_eq_some_iff.1 hj).1
    have h1 := congrArg (fun l => l[j]?) hl
    simp only [List.getElem?_map, hj, Option.map_some, List.getElem?_take, if_pos hjm] at h1
    exact ⟨hjm, by simpa using h1.symm⟩
  have hD : ∀ (k : Nat) (o : Oper), k < m → ops[k]? = some o → ∃ T : VT, D[k]? = some (o, T) := by
    intro k o hkm hk
    have hkD : k < D.length := by omega
    have h1 := hDo (List.getElem?_eq_getElem hkD)
    rw [hk] at h1
    exact ⟨D[k].2, by rw [List.getElem?_eq_getElem hkD, Option.some.inj h1.2]⟩
  -- all the first are listed
  have hfirst : ∀ (listed : Array Bool) (vs : Nat → Value) (w : World) (fuel : Nat), listed.size = ops.size → unl ops.size listed ≤ fuel → (∀ j, j < m → listed.getD j false = true) → (∀ j, m ≤ j → listed.getD j false = false) →
      (∀ (j : Nat) (o : Oper) (T : VT), D[j]? = some (o, T) → listed.getD j false = true → T (vs j) w ∧ (fr j = true → ∃ b, vs j = .pointer (some ⟨b, 0, none⟩) ∧ b < w.heap.size)) →
      (∀ i j, i < m → j < m → i ≠ j → fr i = true → fr j = true → listed.getD i false = true → listed.getD j false = true → vs i ≠ vs j) → C w →
      wpAnyIn Fence.wide mm P .any ops Q fuel listed (fillL (fun j => listed.getD j false) vs 0 (ops.toList.take m) a0) w := by
    intro listed vs w fuel hsz hfu hon hoff hT hne hCw
    refine wpAnyW_tail hB fuel m listed _ w hsz hfu (Nat.le_refl _) hm hon hoff ?_
    rw [← hl]
    refine fin_useT vs D 0 [] a0 C hf hCw fun j x hj => ?_
    rw [Nat.zero_add]
    obtain ⟨hjm, _⟩ := hDo hj
    refine ⟨hon j hjm, (hT j x.1 x.2 hj (hon j hjm)).1, fun hfj => ⟨by simp, fun i hi hfi => ?_⟩⟩
    rw [Nat.zero_add] at hfi ⊢
    exact hne j i hjm (by omega) (by omega) hfj hfi (hon j hjm) (hon i (by omega))
  intro fuel
  induction fuel with
  | zero =>
    intro listed vs w hsz hfu hoff _ hT hne hCw
    refine hfirst listed vs w 0 hsz hfu (fun j hj => ?_) hoff hT hne hCw
    rcases hb : listed.getD j false with _ | _
    · exfalso
      have hjl : j < listed.size := by omega
      have := unl_set (i := j) hsz (by omega) (by simpa [hjl] using hb)
      omega
    · rfl
  | succ fuel ih =>
    intro listed vs w hsz hfu hoff hcl hT hne hCw
    by_cases hall : ∀ j, j < m → listed.getD j false = true
    · exact hfirst listed vs w (fuel + 1) hsz hfu hall hoff hT hne hCw
    refine ⟨fun hr => ?_, fun i hi => ?_⟩
    · exfalso
      apply hall
      intro j
      induction j using Nat.strongRecOn with
      | ind j ihj =>
        intro hj
        cases hb : listed.getD j false with
        | true => rfl
        | false =>
          exfalso
          have hjo : j < ops.size := by omega
          have hm' : j ∈ Region.ready .any ops listed := by
            rw [mem_ready]
            have hjl : j < listed.size := by omega
            refine ⟨by simpa [hjl] using hb, ops[j], Array.getElem?_eq_getElem hjo, fun e he hbd => ?_⟩
            have hlt := hlow j ops[j] (Array.getElem?_eq_getElem hjo) e he hbd
            exact ihj e.on hlt (by omega)
          rw [hr] at hm'
          cases hm'
    obtain ⟨h0, oi, hoi, hdeps⟩ := mem_ready.1 hi
    have hilt := (Array.getElem?_eq_some_iff.1 hoi).1
    have hioff : listed.getD i false = false := by
      have : i < listed.size := by omega
      simpa [this] using h0
    have him : i < m := by
      rcases Nat.lt_or_ge i m with h1 | h1
      · exact h1
      · exfalso
        apply hall
        intro j hj
        exact behind_listed (listed := fun j => listed.getD j false) hcl 13 j i oi hoi hdeps (htl i oi hoi h1 j (by omega))
    obtain ⟨T, hDi⟩ := hD i oi him hoi
    obtain ⟨_, hob⟩ := ho i oi T hDi
    have hlater : ∀ j oj, ops[j]? = some oj → i < j → listed.getD j false = true → oi.apart ops oj = true := fun j oj hj hij hon => by
      have hjm : j < m := by
        rcases Nat.lt_or_ge j m with h1 | h1
        · exact h1
        · rw [hoff j h1] at hon; cases hon
      rcases hB1 j oj hj hjm i oi hij hoi with ⟨e, he, hb, hon'⟩ | h
      · have := hcl j oj hj hon e he hb
        rw [hon', hioff] at this
        cases this
      · exact h
    have hearlier : ∀ j oj, ops[j]? = some oj → j < i → oj.apart ops oi = false → listed.getD j false = true := fun j oj hj hij hna => by
      rcases hB1 i oi hoi him j oj hij hj with ⟨e, he, hb, hon'⟩ | h
      · have := hdeps e he hb
        rwa [hon'] at this
      · rw [h] at hna; cases hna
    have hused := obl_useT (w := w) vs (D.take i) 0 a0 C hob hCw (fun j x hj hna => by
      rw [Nat.zero_add]
      rw [List.getElem?_take] at hj
      split at hj
      · rename_i hji
        exact (hT j x.1 x.2 hj (hearlier j x.1 (hDo hj).2 hji hna)).1
      · cases hj)
    have hrel : relAt P ops n false (TF (fr i) T w) oi (fillL (fun j => listed.getD j false) vs 0 (ops.toList.take m) a0) w := by
      refine Agree.rel (hsel i oi · · hoi) ?_ hused
      have hsplit : ops.toList.take m = (D.take i).map (·.1) ++ (ops.toList.take m).drop i := by
        rw [← hl, List.map_take, List.take_append_drop]
      have hfa : ∀ (on : Nat → Bool) (l1 l2 : List Oper) (k : Nat) (a : Act), fillL on vs k (l1 ++ l2) a = fillL on vs (k + l1.length) l2 (fillL on vs k l1 a) := by
        intro on l1
        induction l1 with
        | nil => intro l2 k a; rfl
        | cons x l1 ih => intro l2 k a; simp only [List.cons_append, fillL, List.length_cons]; rw [ih]; congr 1; omega
      have hlen : ((D.take i).map (·.1)).length = i := by simp; omega
      have h1 : Agree ops oi (fillL (fun j => match (D.take i)[j - 0]? with | some x => !x.1.apart ops oi | none => false) vs 0 ((D.take i).map (·.1)) a0) (fillL (fun j => listed.getD j false) vs 0 ((D.take i).map (·.1)) a0) := by
        refine fillL_agree _ _ _ _ (Agree.refl _ _) fun j oj hj hne x hx => ?_
        rw [List.getElem?_map] at hj
        cases hd : (D.take i)[j]? with
        | none => rw [hd] at hj; simp at hj
        | some y =>
          rw [hd] at hj
          simp at hj
          subst hj
          have hji : j < i := by
            have := (List.getElem?_eq_some_iff.1 hd).1
            simp at this
            omega
          rw [List.getElem?_take, if_pos hji] at hd
          have hoj := (hDo hd).2
          have hyy : (D.take i)[j]? = some y := by rw [List.getElem?_take, if_pos hji]; exact hd
          simp only [Nat.zero_add, Nat.sub_zero, hyy] at hne
          cases hap : y.1.apart ops oi with
          | true => exact (Oper.apart_spec hap).1 x hx
          | false =>
            rw [hap, hearlier j y.1 hoj hji hap] at hne
            exact absurd rfl hne
      rw [hsplit, hfa, hlen]
      have h2 : ∀ (l : List Oper) (k : Nat) (a : Act), (∀ j oj, l[j]? = some oj → listed.getD (k + j) false = true → ∀ x, oj.dst = some x → x ∉ oi.looksAt ops) → Agree ops oi a (fillL (fun j => listed.getD j false) vs k l a) := by
        intro l k a hh
        have := fillL_agree (ops := ops) (o := oi) (on := fun _ => false) (on' := fun j => listed.getD j false) (vs := vs) l k a a (Agree.refl _ _) (fun j oj hj hne x hx => hh j oj hj (by
          cases hb : listed.getD (k + j) false with
          | true => rfl
          | false => exact absurd hb.symm hne) x hx)
        have hz : ∀ (l : List Oper) (k : Nat) (a : Act), fillL (fun _ => false) vs k l a = a := by
          intro l
          induction l with
          | nil => intro k a; rfl
          | cons o l ih => intro k a; simp only [fillL, Bool.false_eq_true, if_false]; exact ih _ _
        rwa [hz] at this
      refine fun t ht => (h1 t ht).trans (h2 ((ops.toList.take m).drop i) (0 + i) _ (fun j oj hj hon x hx => ?_) t ht)
      rw [List.getElem?_drop, List.getElem?_take] at hj
      split at hj
      · have hoj : ops[i + j]? = some oj := by simpa using hj
        rw [Nat.zero_add] at hon
        rcases Nat.eq_zero_or_pos j with rfl | hpos
        · rw [Nat.add_zero, hioff] at hon; cases hon
        · exact (Oper.apart_spec (hlater (i + j) oj hoj (by omega) hon)).2.2 x hx
      · cases hj
    have next : ∀ v w', Below w.heap.size w w' → TF (fr i) T w v w' → wpAnyIn Fence.wide mm P .any ops Q fuel (listed.setIfInBounds i true) ((fillL (fun j => listed.getD j false) vs 0 (ops.toList.take m) a0).put oi.dst v) w' := by
      rintro v w' hb ⟨hv, hvf⟩
      have hbn : Below n w w' := hb.mono (hCn w hCw)
      have hoiT : (ops.toList.take m)[i]? = some oi := by rw [List.getElem?_take, if_pos him]; simpa using hoi
      rw [fillL_set (i := i) (oi := oi) (ops.toList.take m) 0 a0 (Nat.zero_le _) (by simpa using hoiT) hioff (fun j oj hj hij hon x hx => by
        rw [Nat.zero_add] at hij hon
        rw [List.getElem?_take] at hj
        split at hj
        · exact (Oper.apart_spec (hlater j oj (by simpa using hj) hij hon)).2.1 x hx
        · cases hj)]
      have hset : ∀ j, j < ops.size → (j == i || listed.getD j false) = (listed.setIfInBounds i true).getD j false := by
        intro j hj
        by_cases hji : j = i
        · subst hji
          have : j < listed.size := by omega
          simp [this]
        · rw [getD_set_ne false (Ne.symm hji)]
          simp [hji]
      rw [fillL_ext (on' := fun j => (listed.setIfInBounds i true).getD j false) (vs' := fun j => if j = i then v else vs j) (ops.toList.take m) 0 a0 (fun j _ hj => ⟨hset j (by simp at hj; omega), fun _ => rfl⟩)]
      have hold : ∀ j, (listed.setIfInBounds i true).getD j false = true → j ≠ i → listed.getD j false = true := fun j hon hji => by
        rwa [getD_set_ne false (Ne.symm hji)] at hon
      refine ih _ _ w' (by simpa using hsz) (by have := unl_set hsz hilt h0; omega) (fun j hj => by rw [getD_set_ne false (by omega)]; exact hoff j hj) (fun j oj hj hon e he hbd => ?_) (fun j o T' hj hon => ?_) (fun j k hj hk hjk hfj hfk hoj hok => ?_) (hC w w' hCw hbn)
      · by_cases hji : j = i
        · subst hji
          rw [hoi] at hj
          injection hj with hj
          subst hj
          exact getD_set_true (hdeps e he hbd)
        · exact getD_set_true (hcl j oj hj (hold j hon hji) e he hbd)
      · by_cases hji : j = i
        · subst hji
          rw [hDi] at hj
          injection hj with hj
          injection hj with e1 e2
          subst e1 e2
          rw [if_pos rfl]
          refine ⟨hv, fun hf => ?_⟩
          obtain ⟨b, h1, _, h3⟩ := hvf hf
          exact ⟨b, h1, h3⟩
        · simp only [if_neg hji]
          have hTj := hT j o T' hj (hold j hon hji)
          refine ⟨(ho j o T' hj).1 _ _ _ hb hTj.1, fun hf => ?_⟩
          obtain ⟨b, h1, h2⟩ := hTj.2 hf
          exact ⟨b, h1, Nat.lt_of_lt_of_le h2 hb.size⟩
      · have hfresh : ∀ k, k < m → k ≠ i → fr k = true → fr i = true → (listed.setIfInBounds i true).getD k false = true → v ≠ vs k := fun k hk hki hfk hfi hok => by
          obtain ⟨b, h1, h2, _⟩ := hvf hfi
          obtain ⟨Tk, hDk⟩ := hD k ops[k] hk (Array.getElem?_eq_getElem (by omega))
          obtain ⟨b', h1', h2'⟩ := (hT k _ Tk hDk (hold k hok hki)).2 hfk
          rw [h1, h1']
          intro h
          injection h with h
          injection h with h
          injection h with h
          omega
        by_cases hji : j = i
        · subst hji
          rw [if_pos rfl, if_neg (Ne.symm hjk)]
          exact hfresh k hk (Ne.symm hjk) hfk hfj hok
        · by_cases hki : k = i
          · subst hki
            rw [if_pos rfl, if_neg hji]
            exact fun h => hfresh j hj hji hfj hfk hoj h.symm
          · rw [if_neg hji, if_neg hki]
            exact hne j k hj hk hjk hfj hfk (hold j hoj hji) (hold k hok hki)
    unfold wpOpIn
    simp only [hoi]
    unfold relAt at hrel
    rw [show reach n false w = w.heap.size from rfl] at hrel
    split
    · rename_i hw
      rw [if_pos hw] at hrel
      refine ⟨fun _ _ => trivial, ?_⟩
      have hnd : ∀ c, oi.op ≠ .defer c := by
        intro c ho
        generalize fillL (fun j => listed.getD j false) vs 0 (ops.toList.take m) a0 = A at hrel
        unfold execOp at hrel
        simp only [ho, Sem.run_bind] at hrel
        cases hr : (resolve A.eval c oi.type).run P w with
        | ok d w' => simp [hr, Result.andThen, relUpon] at hrel
        | halt x w' => simp [hr, Result.andThen, relUpon] at hrel
      rw [Oper.semAt_eq _ _ oi hnd]
      generalize (execOp (fillL (fun j => listed.getD j false) vs 0 (ops.toList.take m) a0).eval oi).run P w = r at hrel
      cases r with
      | ok n w' =>
        cases n <;> simp only [relUpon] at hrel <;> simp only [Oper.uponIn]
        case value u => exact next u w' hrel.1 hrel.2
        case skip => exact next undef w' hrel.1 hrel.2
        case enter f args =>
          exact ⟨fun h => by simp [Fence.wide] at h, (callsIn_wide.2 (hrel.mono fun e w'' ⟨v, he, h1, h2⟩ => by subst he; exact next v w'' h1 h2))⟩
      | halt x w' => simp only [relUpon] at hrel
    · rename_i hw
      rw [if_neg hw] at hrel
      exact ⟨fun _ _ => trivial, next undef w (Below.refl _ _) hrel⟩

/-- **A region that draws and ends in operations of a fixed order.** -/
theorem wpIn_region_tailW {mm : Nat} {id : Nat} {Q : Exit → Act → World → Prop} {a : Act} {w : World} {l : List Oper} (n m : Nat) (fr : Nat → Bool) (hn : n ≤ w.heap.size) (hmx : P.follows .mixedOrders = true) (hm : decide (m ≤ l.length) = true) (hB : relBT l.toArray m = true)
    (h : wpRelT P l.toArray n fr (Below n w) (fun a' w' => wpListIn Fence.wide mm P l.toArray Q (l.drop m) a' w') a [] (l.take m)) : (Code.region id l.toArray true).wpIn Fence.wide mm P Q a w := by
  have hm' : m ≤ l.length := by simpa using hm
  obtain ⟨D, h1, _, h3, h4⟩ := wpRelT_all _ [] h
  refine wpIn_region_any hmx ?_
  have := wpAnyW_of_relT (Q := Q) (ops := l.toArray) (D := D) (a0 := a) (m := m) (fr := fr) (C := Below n w) (by simpa using h1) (by simpa using hm') hB (fun w1 w2 hb hb' => hb.trans hb') (fun w1 hb => Nat.le_trans hn hb.size)
    (fun k o T hk => h3 k o T (Nat.zero_le _) hk) h4 l.toArray.size (Array.replicate l.toArray.size false) (fun _ => undef) { w with drawn := w.drawn + 1 } (by simp)
    (by unfold unl; exact Nat.le_trans (List.length_filter_le _ _) (by simp)) (fun j _ => getD_rep _ _) (fun j oj _ hon => by rw [getD_rep] at hon; cases hon) (fun j o T _ hon => by rw [getD_rep] at hon; cases hon) (fun i j _ _ _ _ _ hon _ => by rw [getD_rep] at hon; cases hon) ⟨rfl, rfl, rfl, Nat.le_refl _, fun _ _ => rfl⟩
  have hz : ∀ (l : List Oper) (on : Nat → Bool) (k : Nat) (a : Act), (∀ j, on j = false) → fillL on (fun _ => undef) k l a = a := by
    intro l on
    induction l with
    | nil => intro k a _; rfl
    | cons o l ih => intro k a hon; simp only [fillL, hon, Bool.false_eq_true, if_false]; exact ih _ _ hon
  rwa [hz _ _ _ _ (fun j => getD_rep _ _)] at this

theorem wpIn_region_SW {id mm : Nat} {Q : Exit → Act → World → Prop} {a : Act} {w : World} {l : List Oper} (n m : Nat) (fr : Nat → Bool) (hn : n ≤ w.heap.size) (hmx : P.follows .mixedOrders = true) (hm : decide (m ≤ l.length) = true) (hB : relBT l.toArray m = true)
    (h : wpRelS P l.toArray n fr (Below n w) (fun a' w' => wpListIn Fence.wide mm P l.toArray Q (l.drop m) a' w') a [] (l.take m)) : (Code.region id l.toArray true).wpIn Fence.wide mm P Q a w :=
  wpIn_region_tailW n m fr hn hmx hm hB h
/-- The end of a told region, what follows kept out of sight till it is wanted (a guarded operation at its head is dear to look at). -/
theorem relS_endG {Q : Act → World → Prop} {C : World → Prop} {a0 : Act} {done : List Ent} (hd : detB fr 0 done = true) (h : ∀ CC : Act → World → Prop, (∀ a w, Q a w → CC a w) → finS CC fr 0 [] done a0 C) : wpRelS P ops n fr C Q a0 done [] :=
  relS_end hd (h Q fun _ _ h => h)
end
end Go.Proofs.Ytpnfpdkoeednhaa

end
section
/- pages.all: its iterator walked (printed by tools/gen132.py). -/
namespace Go.Proofs.Ytpnfpdkoeednhaa
open Go.RowKit
attribute [local go_sem] Oper.semAt_some

theorem run_store_fnA {P : Program} {w : World} {a : Addr} {f : Fn} {fr cs : Array Value} {m : Mode} : (store a (.func f fr cs) m).run P w = stored P w a (.func f fr cs) m := run_store P w a _ m rfl
attribute [local go_sem] run_store_fnA
def fArgs (x : Fc) : Array Value := #[.agg #[.int .i64 x.key.kind, .int .i64 x.key.subj, .int .i64 x.key.obj, .int .i64 x.val, .int .i64 x.fr, .int .i64 x.to, .int .i64 x.known, .int .i64 x.no]]
theorem outT_pre (ps : List Pv) (p : Nat) (g : Pv) (j : Nat) : ∀ d, ∃ suf, outT ps p g (j + d) = outT ps p g j ++ suf
  | 0 => ⟨[], by simp⟩
  | d + 1 => by
    obtain ⟨suf, h⟩ := outT_pre ps p g j d
    rw [← Nat.add_assoc, outT_succ, h]
    exact ⟨_, List.append_assoc ..⟩
/-- What the iterator knows between two yields. -/
structure AllSt (n₀ P A : Nat) (g : Pq) (li : Nat) (J : (Nat → Prop) → World → Prop) (w W : World) (Ds : List Nat) (C1 : Nat → Prop) (wr : World) : Prop where
  j : J C1 wr
  st : SeqSt (fun b => b < n₀ ∨ b = P ∨ b = A) w W C1 wr
  y : wr.heap[W.heap.size]? = some (.cells #[.func (.yield li) #[] #[]] 96 (0, 0))
  g : wr.heap[W.heap.size + 1]? = some (.cells #[.slice g.fA g.fn g.fc, .slice g.kA g.kn g.kc] 66 (0, 0))
  ny : ¬ C1 W.heap.size ∧ ¬ C1 (W.heap.size + 1)
  marks : Marks (W.heap.size + 2) Ds wr
  nm : ∀ D ∈ Ds, ¬ C1 D
theorem AllSt.own {n₀ P A : Nat} {g : Pq} {li : Nat} {J : (Nat → Prop) → World → Prop} {w W : World} {Ds : List Nat} {C1 : Nat → Prop} {wr w2 : World} {M : Nat → Prop} (h : AllSt n₀ P A g li J w W Ds C1 wr) (hk : Kept M wr w2) (hM : ∀ b, M b → W.heap.size + 2 ≤ b ∧ ¬ C1 b ∧ b ∉ Ds)
    (hJ : ∀ C1 W1 W2, J C1 W1 → Kept (fun b => W.heap.size ≤ b ∧ ¬ C1 b) W1 W2 → J C1 W2) : AllSt n₀ P A g li J w W Ds C1 w2 :=
  ⟨hJ _ _ _ h.j (hk.mono fun b _ hb => ⟨by have := (hM b hb).1; omega, (hM b hb).2.1⟩), h.st.own hk fun b hb => by have := (hM b hb).1; omega,
    (hk.block _ (lt_of_heap h.y) fun hb => by have := (hM _ hb).1; omega).trans h.y, (hk.block _ (lt_of_heap h.g) fun hb => by have := (hM _ hb).1; omega).trans h.g, h.ny,
    h.marks.keep fun D hD => hk.block _ (h.marks.lt D hD) fun hb => (hM _ hb).2.2 hD, h.nm⟩
theorem AllSt.round {n₀ P A : Nat} {g : Pq} {li : Nat} {J J' : (Nat → Prop) → World → Prop} {w W : World} {Ds : List Nat} {C1 C2 : Nat → Prop} {wr w2 : World} (h : AllSt n₀ P A g li J w W Ds C1 wr) (hk : Kept C1 wr w2) (hC : ∀ b, C2 b → b < w2.heap.size ∧ (C1 b ∨ wr.heap.size ≤ b)) (hj : J' C2 w2) : AllSt n₀ P A g li J' w W Ds C2 w2 := by
  have n : ∀ b, b < wr.heap.size → ¬ C1 b → ¬ C2 b := fun b hb hn h2 => by
    rcases (hC b h2).2 with h3 | h3
    · exact hn h3
    · omega
  exact ⟨hj, h.st.round hk hC, (hk.block _ (lt_of_heap h.y) h.ny.1).trans h.y, (hk.block _ (lt_of_heap h.g) h.ny.2).trans h.g, ⟨n _ (lt_of_heap h.y) h.ny.1, n _ (lt_of_heap h.g) h.ny.2⟩,
    h.marks.keep fun D hD => hk.block _ (h.marks.lt D hD) (h.nm D hD), fun D hD => n D (h.marks.lt D hD) (h.nm D hD)⟩
theorem AllSt.mark {n₀ P A : Nat} {g : Pq} {li : Nat} {J : (Nat → Prop) → World → Prop} {w W : World} {Ds : List Nat} {D : Nat} {C1 : Nat → Prop} {wr : World} (h : AllSt n₀ P A g li J w W Ds C1 wr) (hD : W.heap.size + 2 ≤ D) (hm : wr.heap[D]? = some (.deferred (some []))) (hn : ¬ C1 D) (hd : D ∉ Ds) : AllSt n₀ P A g li J w W (D :: Ds) C1 wr :=
  ⟨h.j, h.st, h.y, h.g, h.ny, h.marks.cons hD hm hd, fun E hE => by
    rcases List.mem_cons.1 hE with rfl | hE
    · exact hn
    · exact h.nm E hE⟩
theorem AllSt.cells {n₀ P A : Nat} {g : Pq} {li : Nat} {J : (Nat → Prop) → World → Prop} {w W : World} {Ds : List Nat} {C1 : Nat → Prop} {wr : World} (h : AllSt n₀ P A g li J w W Ds C1 wr) :
    wr.cell? ⟨W.heap.size, 0, none⟩ = some (.func (.yield li) #[] #[]) ∧ wr.cell? ⟨W.heap.size + 1, 0, none⟩ = some (.slice g.fA g.fn g.fc) ∧ wr.cell? ⟨W.heap.size + 1, 1, none⟩ = some (.slice g.kA g.kn g.kc) ∧ W.heap.size < wr.heap.size ∧ W.heap.size + 1 < wr.heap.size :=
  ⟨by rw [cell_of_heap h.y]; rfl, by rw [cell_of_heap h.g]; rfl, by rw [cell_of_heap h.g]; rfl, lt_of_heap h.y, lt_of_heap h.g⟩
set_option maxRecDepth 100000 in
set_option maxHeartbeats 16000000 in
theorem all1_seq (s : Ps) (n₀ : Nat) : ∀ (k q : Nat), q < k → OkT (psV s) q → ∀ (P A : Nat) (w : World), n₀ ≤ P → n₀ ≤ A → w.heap[P]? = some (.cells #[.slice s.pA s.pn s.pc, .slice s.rA s.rn s.rc] 25 (0, 0)) → w.heap[A]? = some (.cells #[.int .i64 q] 3 (0, 0)) → PsIn s w n₀ → (∀ g ∈ s.gs, g.fn ≤ 1000000 ∧ g.kn ≤ 1000000) →
    SeqP Try.prog 62 #[.pointer (some ⟨P, 0, none⟩), .pointer (some ⟨A, 0, none⟩)] fArgs (allT (psV s) q) (fun b => b < n₀ ∨ b = P ∨ b = A) w := by
  intro k
  induction k with
  | zero => intro q hq; omega
  | succ k ih =>
  intro q hqk hokt P A w hnP hnA hP hA hps hsm li J Jx Jp C W hS hC hJ hJx hJp hY h0
  have HIH := hidp ih
  obtain ⟨gv, hgv, hkids⟩ := hokt.page
  obtain ⟨g, hg, rfl⟩ : ∃ g, s.gs[q]? = some g ∧ gv = pgV g := by
    unfold psV at hgv
    rw [List.getElem?_map] at hgv
    cases hg : s.gs[q]? with
    | none => rw [hg] at hgv; cases hgv
    | some g => rw [hg] at hgv; exact ⟨g, rfl, by cases hgv; rfl⟩
  have HAll : Hid (allT (psV s) q = outT (psV s) q (pgV g) (g.facts.length + 1)) := allT_eq hgv
  refine calls_of_wp_marks Try.func62 rfl ((wpIn_wide (n := 0)).1 ?_)
  simp only [Try.ntmps62, List.size_toArray, List.length_cons, List.length_nil, Nat.reduceAdd, Nat.reduceSub, Array.replicate_succ, Array.replicate_zero, List.push_toArray, List.append_toArray, List.nil_append, List.cons_append]
  have HY := hidp hY
  have HJ := hidp hJ
  have HJx := hidp hJx
  have HJp := hidp hJp
  have HGg := hidp hg
  have HKids := hidp hkids
  have HSm := hidp hsm
  have hst0 : SeqSt (fun b => b < n₀ ∨ b = P ∨ b = A) w W C W := SeqSt.start hS hC
  have HPs : Hid (∀ W', (∀ b, b < n₀ → W'.heap[b]? = w.heap[b]?) → PsIn s W' n₀) := fun W' h => hps.keep (Nat.le_refl _) h
  have hqn : q < s.pn := by rw [hps.pages.1]; exact (List.getElem?_eq_some_iff.1 hg).1
  have hqn' : (q : Int) < s.pn := by omega
  have HQn := hidp hqn
  have HFn : Hid (g.fn = g.facts.length) := (hps.each g (List.mem_of_getElem? hg)).1.1
  have HKn : Hid (g.kn = g.kids.length) := (hps.each g (List.mem_of_getElem? hg)).2.1
  obtain ⟨hfs, hks⟩ := hsm g (List.mem_of_getElem? hg)
  have hPW := (hS P (.inr (.inl rfl))).2.1.trans hP
  have hAW := (hS A (.inr (.inr rfl))).2.1.trans hA
  have HPw := hidp hP
  have HAw := hidp hA
  have hpsW := HPs.out W fun b hb => (hS b (.inl hb)).2.1
  obtain ⟨bp, op, g', hpA, _, hg', c0, c1⟩ := pgSl.get hpsW.pages hqn
  obtain rfl : g = g' := Option.some.inj (hg.symm.trans hg')
  have hixp := fun W => ix_Pages (c := s.pc) hpA hqn W
  have lc := lt_of_cell c0
  have p0 := cell_of_heap (o := 0) hPW
  have a0 := cell_of_heap (o := 0) hAW
  have lp := lt_of_heap hPW
  have la := lt_of_heap hAW
  simp only [List.getElem?_toArray, List.getElem?_cons_zero] at p0 a0
  obtain ⟨W0, hW0⟩ : ∃ W0, (W.alloc (.cells #[.func (.yield li) #[] #[]] 96)).alloc (.cells #[.slice g.fA g.fn g.fc, .slice g.kA g.kn g.kc] 66) = W0 := ⟨_, rfl⟩
  have HA0 : Hid (AllSt n₀ P A g li (J []) w W [] C W0) := by
    have hk0 : Kept (fun _ => False) W W0 := hW0 ▸ ((Kept.refl _ W).alloc _).alloc _
    refine ⟨hJ _ _ _ _ h0 (hk0.mono fun _ _ h => h.elim), hst0.own hk0 fun _ h => h.elim, hW0 ▸ (Below.heap_alloc _ _ _ (by simp)).trans (World.alloc_heap_new _ _), ?_, ⟨fun h => by have := hC _ h; omega, fun h => by have := hC _ h; omega⟩, Marks.nil _ _, fun D hD => by simp at hD⟩
    rw [← hW0]; have := World.alloc_heap_new (W.alloc (.cells #[.func (.yield li) #[] #[]] 96)) (.cells #[.slice g.fA g.fn g.fc, .slice g.kA g.kn g.kc] 66); rwa [World.size_alloc] at this
  have HW0 := hidp hW0
  clear hW0 hY hJ hJx hJp hg hkids hgv hg' hpA hPW hAW hpsW hP hA hps hsm hS hC h0 hokt ih hst0
  gi_wp2
  try rw [HW0.out]
  clear p0 a0 lp la c0 c1 lc hixp
  refine wpIn_loop (fun a' wr => ∃ (j : Nat) (Ds : List Nat) (C1 : Nat → Prop) (v5 v6 v17 v18 v19 v20 v21 v22 v23 v24 v25 v26 v27 v28 v29 v30 v31 v32 v33 v34 v35 v36 v37 v38 v39 v40 v41 v42 v43 v44 v45 v46 v47 v48 v49 v50 : Value), j ≤ g.fn + 1 ∧ AllSt n₀ P A g li (J (outT (psV s) q (pgV g) j)) w W Ds C1 wr ∧ a' = { tmps := #[.func (.yield li) #[] #[], .pointer (some ⟨P, 0, none⟩), .pointer (some ⟨A, 0, none⟩), .pointer (some ⟨W.heap.size, 0, none⟩), .pointer (some ⟨W.heap.size + 1, 0, none⟩), v5, v6, .pointer (some ⟨P, 0, none⟩), .slice s.pA s.pn s.pc, .int .i64 q, .pointer (some ⟨bp, op + q * 2, none⟩), .agg #[.slice g.fA g.fn g.fc, .slice g.kA g.kn g.kc], .pointer (some ⟨W.heap.size + 1, 0, none⟩), .slice g.fA g.fn g.fc, .int .i64 g.fn, .int .i64 ((g.fn : Int) + 1), .int .i64 j, v17, v18, v19, v20, v21, v22, v23, v24, v25, v26, v27, v28, v29, v30, v31, v32, v33, v34, v35, v36, v37, v38, v39, v40, v41, v42, v43, v44, v45, v46, v47, v48, v49, v50], defers := Ds.map markOf }) (fun a' _ => g.fn + 1 - (intOf (a'.tmps.getD 16 undef)).toNat) ?start ?round
  case start => exact ⟨0, [], C, undef, undef, undef, undef, undef, undef, undef, undef, undef, undef, undef, undef, undef, undef, undef, undef, undef, undef, undef, undef, undef, undef, undef, undef, undef, undef, undef, undef, undef, undef, undef, undef, undef, undef, undef, undef, by omega, HA0.out, rfl⟩
  case round =>
  rintro a' wr ⟨j, Ds, C1, v5, v6, v17, v18, v19, v20, v21, v22, v23, v24, v25, v26, v27, v28, v29, v30, v31, v32, v33, v34, v35, v36, v37, v38, v39, v40, v41, v42, v43, v44, v45, v46, v47, v48, v49, v50, hj, hst, rfl⟩
  have HSt := hidp hst
  obtain ⟨y0, g0, g1, ly, lg⟩ := hst.cells
  clear hst
  by_cases hjn : j < g.fn + 1
  rotate_left
  · have hje : j = g.fn + 1 := by omega
    have hjn' : ¬ ((j : Int) < (g.fn : Int) + 1) := by omega
    have HEnd : Hid (J (allT (psV s) q) C1 wr) := by
      show J _ _ _
      rw [HAll.out, show g.facts.length + 1 = j by have := HFn.out; omega]; exact HSt.out.j
    clear hjn
    gi_wp2
    exact leave_marks (.inr rfl) HSt.out.marks rfl fun W' hz hk => ⟨.tuple #[], results_none rfl _ _ _, .inl ⟨⟨_, rfl⟩, C1, .inl (HJ.out _ _ _ _ HEnd.out (hk.mono fun b _ hb => ⟨by have := (HSt.out.marks.2 b hb).1; omega, HSt.out.nm b hb⟩))⟩⟩
  have hjn' : (j : Int) < (g.fn : Int) + 1 := by omega
  have HSplit : Hid (∃ suf, allT (psV s) q = outT (psV s) q (pgV g) j ++ (subT (psV s) q (pgV g) j ++ g.facts[j]?.toList) ++ suf) := by
    obtain ⟨suf, h⟩ := outT_pre (psV s) q (pgV g) (j + 1) (g.facts.length + 1 - (j + 1))
    exact ⟨suf, by rw [HAll.out, show g.facts.length + 1 = j + 1 + (g.facts.length + 1 - (j + 1)) by have := HFn.out; omega, h, outT_succ]; rfl⟩
  have hkd := HKids.out
  rcases hkd with hk0 | ⟨hkl, hkid⟩
  · have hgt : decide (0 < g.kn) = false := by simp; have := HKn.out; have : g.kids.length = 0 := hk0; omega
    have HS9 : Hid (AllSt n₀ P A g li (J (outT (psV s) q (pgV g) j ++ subT (psV s) q (pgV g) j)) w W Ds C1 wr) := by
      show AllSt _ _ _ _ _ _ _ _ _ _ _
      rw [subT_leaf hk0, List.append_nil]; exact HSt.out
    gi_wp2_with fail
    by_cases hjf : j < g.fn
    · have hjf' : (j : Int) < g.fn := by omega
      obtain ⟨bf, of, f, hfA, _, hf, f0, f1, f2, f3, f4, f5, f6, f7⟩ := fSl.get ((HPs.out wr fun b hb => (HS9.out.st.reads b (.inl hb)).2.1).each g (List.mem_of_getElem? HGg.out)).1 hjf
      have hixf := fun W => ix_FactsP (c := g.fc) hfA hjf W
      have lf0 := lt_of_cell f0
      have HF := hidp hf
      clear hf hfA
      refine wpIn_region_SW wr.heap.size 12 (fun _ => false) (Nat.le_refl _) (by kernel_rfl) (by kernel_rfl) (by kernel_rfl) ?_
      dsimp only [List.take, List.drop]
      apply relS_det (mask := []) (x := .int .i64 j)
      · rfl
      · kernel_rfl
      · kernel_rfl
      · dsimp only [oblS]
        rintro w9 h9
        go_simp
        exact ⟨Below.refl _ _, rfl⟩
      dsimp only [List.nil_append, List.cons_append]
      apply relS_det (mask := [false])
      · rfl
      · kernel_rfl
      · kernel_rfl
      · dsimp only [oblS]
        rintro w9 h9
        go_simp
        exact ⟨Below.refl _ _, rfl⟩
      dsimp only [List.nil_append, List.cons_append]
      apply relS_det (mask := [false, true]) (x := .slice g.fA g.fn g.fc)
      · rfl
      · kernel_rfl
      · kernel_rfl
      · dsimp only [oblS]
        rintro w9 h9
        have hc9 := (bcell h9).1
        go_simp
        exact ⟨Below.refl _ _, rfl⟩
      dsimp only [List.nil_append, List.cons_append]
      apply relS_det (mask := [false, false, true]) (x := .int .i64 g.fn)
      · rfl
      · kernel_rfl
      · kernel_rfl
      · dsimp only [oblS]
        rintro w9 h9
        go_simp
        exact ⟨Below.refl _ _, rfl⟩
      dsimp only [List.nil_append, List.cons_append]
      apply relS_det (mask := [true, false, false, true]) (x := .bool true)
      · rfl
      · kernel_rfl
      · kernel_rfl
      · dsimp only [oblS]
        rintro w9 h9
        go_simp
        exact ⟨Below.refl _ _, rfl⟩
      dsimp only [List.nil_append, List.cons_append]
      apply relS_det (mask := [false, false, false, false, true]) (x := .bool true)
      · rfl
      · kernel_rfl
      · kernel_rfl
      · dsimp only [oblS]
        rintro w9 h9
        go_simp
        exact ⟨Below.refl _ _, rfl⟩
      dsimp only [List.nil_append, List.cons_append]
      apply relS_detg (mask := [false, false, false, false, false, true]) (t := 40) (want := true) (x := .func (.yield li) #[] #[])
      · rfl
      · kernel_rfl
      · kernel_rfl
      · dsimp only [oblS]
        refine ⟨by rfl, ?_⟩
        rintro w9 h9
        have hc9 := (bcell h9).1
        go_simp
        exact ⟨Below.refl _ _, rfl⟩
      dsimp only [List.nil_append, List.cons_append]
      apply relS_detg (mask := [false, false, false, false, false, true, false]) (t := 40) (want := true)
      · rfl
      · kernel_rfl
      · kernel_rfl
      · dsimp only [oblS]
        refine ⟨by rfl, ?_⟩
        rintro w9 h9
        go_simp
        exact ⟨Below.refl _ _, rfl⟩
      dsimp only [List.nil_append, List.cons_append]
      apply relS_detg (mask := [false, false, false, false, false, true, false, true]) (t := 40) (want := true) (x := .slice g.fA g.fn g.fc)
      · rfl
      · kernel_rfl
      · kernel_rfl
      · dsimp only [oblS]
        refine ⟨by rfl, ?_⟩
        rintro w9 h9
        have hc9 := (bcell h9).1
        go_simp
        exact ⟨Below.refl _ _, rfl⟩
      dsimp only [List.nil_append, List.cons_append]
      apply relS_detg (mask := [false, false, false, false, false, true, false, false, false]) (t := 40) (want := true) (x := .int .i64 j)
      · rfl
      · kernel_rfl
      · kernel_rfl
      · dsimp only [oblS]
        refine ⟨by rfl, ?_⟩
        rintro w9 h9
        go_simp
        exact ⟨Below.refl _ _, rfl⟩
      dsimp only [List.nil_append, List.cons_append]
      apply relS_detg (mask := [false, false, false, false, false, true, false, false, true, true]) (t := 40) (want := true) (x := .pointer (some ⟨bf, of + j * 8, none⟩))
      · rfl
      · kernel_rfl
      · kernel_rfl
      · dsimp only [oblS]
        refine ⟨by rfl, ?_⟩
        rintro w9 h9
        go_simp
        exact ⟨Below.refl _ _, rfl⟩
      dsimp only [List.nil_append, List.cons_append]
      apply relS_detg (mask := [false, false, false, false, false, true, false, false, false, false, true]) (t := 40) (want := true) (x := .agg #[.int .i64 f.key.kind, .int .i64 f.key.subj, .int .i64 f.key.obj, .int .i64 f.val, .int .i64 f.fr, .int .i64 f.to, .int .i64 f.known, .int .i64 f.no])
      · rfl
      · kernel_rfl
      · kernel_rfl
      · dsimp only [oblS]
        refine ⟨by rfl, ?_⟩
        rintro w9 h9
        have hc9 := (bcell h9).1
        go_simp
        exact ⟨Below.refl _ _, rfl⟩
      dsimp only [List.nil_append, List.cons_append]
      with_reducible refine relS_endG ?_ ?_
      · kernel_rfl
      intro CC hCC
      dsimp only [finS]
      rintro w8 hb8
      have HS8 := hidp (HS9.out.own (kept_of_below (M := fun _ => False) hb8 fun b h1 h2 => by omega) (fun b h => h.elim) (HJ.out _))
      clear f0 f1 f2 f3 f4 f5 f6 f7 lf0 hixf y0 g0 g1 ly lg hb8
      obtain ⟨suf, hsuf⟩ := HSplit.out
      rw [HF.out] at hsuf
      have hsuf' : allT (psV s) q = (outT (psV s) q (pgV g) j ++ subT (psV s) q (pgV g) j) ++ f :: suf := by rw [hsuf]; simp
      have HNext : Hid (outT (psV s) q (pgV g) (j + 1) = outT (psV s) q (pgV g) j ++ subT (psV s) q (pgV g) j ++ [f]) := by
        show _ = _
        rw [outT_succ, show (pgV g).facts[j]? = some f from HF.out]; simp
      obtain ⟨fn', tm', asg, bd, hy, hR⟩ := HY.out 0 _ _ _ _ _ hsuf' HS8.out.j
      have HR := hidp hR
      have hy' : (Instr.yield li #[.agg #[.int .i64 f.key.kind, .int .i64 f.key.subj, .int .i64 f.key.obj, .int .i64 f.val, .int .i64 f.fr, .int .i64 f.to, .int .i64 f.known, .int .i64 f.no]]).run Try.prog w8 = .ok (.round li fn' tm' asg bd) w8 := hy
      clear hsuf hsuf' hR hy
      apply hCC
      go_simp
      gi_wp2_with fail
      refine ⟨rfl, HR.out.mono ?_⟩
      rintro e W3 ⟨C3, hk3, hC3, (⟨rfl, hJ3⟩ | ⟨rfl, hJx3⟩ | ⟨ch, rfl, hJp3⟩)⟩
      · have HS3 : Hid (AllSt n₀ P A g li (J (outT (psV s) q (pgV g) (j + 1))) w W Ds C3 W3) := by
          show AllSt _ _ _ _ _ _ _ _ _ _ _
          rw [HNext.out]; exact HS8.out.round hk3 hC3 hJ3
        clear hk3 hC3 hJ3 hy' HR
        gi_wp2_with fail
        exact ⟨⟨j + 1, Ds, C3, _, _, _, _, _, _, _, _, _, _, _, _, _, _, _, _, _, _, _, _, _, _, _, _, _, _, _, _, _, _, _, _, _, _, _, _, by omega, HS3.out, rfl⟩, by simp [intOf]; omega⟩
      · have HS3 : Hid (AllSt n₀ P A g li Jx w W Ds C3 W3) := HS8.out.round hk3 hC3 hJx3
        clear hk3 hC3 hJx3 hy' HR
        gi_wp2_with fail
        exact leave_marks (.inl rfl) HS3.out.marks rfl fun W' hz hk => ⟨.tuple #[], results_none rfl _ _ _, .inl ⟨⟨_, rfl⟩, C3, .inr (HJx.out _ _ _ HS3.out.j (hk.mono fun b _ hb => ⟨by have := (HS3.out.marks.2 b hb).1; omega, HS3.out.nm b hb⟩))⟩⟩
      · have HS3 : Hid (AllSt n₀ P A g li (Jp ch) w W Ds C3 W3) := HS8.out.round hk3 hC3 hJp3
        clear hk3 hC3 hJp3 hy' HR
        exact panic_marks HS3.out.marks rfl fun W' hz hk => .inr ⟨ch, rfl, C3, HJp.out _ _ _ _ HS3.out.j (hk.mono fun b _ hb => ⟨by have := (HS3.out.marks.2 b hb).1; omega, HS3.out.nm b hb⟩)⟩
    have hjf' : ¬ ((j : Int) < g.fn) := by omega
    have HSe : Hid (AllSt n₀ P A g li (J (outT (psV s) q (pgV g) (j + 1))) w W Ds C1 wr) := by
      show AllSt _ _ _ _ _ _ _ _ _ _ _
      rw [outT_succ, show (pgV g).facts[j]? = none from List.getElem?_eq_none (by show g.facts.length ≤ j; have := HFn.out; omega), Option.toList_none, List.append_nil]; exact HS9.out
    have hjd : decide (j < g.fn) = false := by simp; omega
    clear hjf hjf'
    gi_wp2_with fail
    refine wpIn_region_SW wr.heap.size 15 (fun _ => false) (Nat.le_refl _) (by kernel_rfl) (by kernel_rfl) (by kernel_rfl) ?_
    dsimp only [List.take, List.drop]
    apply relS_det (mask := []) (x := .int .i64 j)
    · rfl
    · kernel_rfl
    · kernel_rfl
    · dsimp only [oblS]
      rintro w9 h9
      go_simp
      exact ⟨Below.refl _ _, rfl⟩
    dsimp only [List.nil_append, List.cons_append]
    apply relS_det (mask := [false])
    · rfl
    · kernel_rfl
    · kernel_rfl
    · dsimp only [oblS]
      rintro w9 h9
      go_simp
      exact ⟨Below.refl _ _, rfl⟩
    dsimp only [List.nil_append, List.cons_append]
    apply relS_det (mask := [false, true]) (x := .slice g.fA g.fn g.fc)
    · rfl
    · kernel_rfl
    · kernel_rfl
    · dsimp only [oblS]
      rintro w9 h9
      have hc9 := (bcell h9).1
      go_simp
      exact ⟨Below.refl _ _, rfl⟩
    dsimp only [List.nil_append, List.cons_append]
    apply relS_det (mask := [false, false, true]) (x := .int .i64 g.fn)
    · rfl
    · kernel_rfl
    · kernel_rfl
    · dsimp only [oblS]
      rintro w9 h9
      go_simp
      exact ⟨Below.refl _ _, rfl⟩
    dsimp only [List.nil_append, List.cons_append]
    apply relS_det (mask := [true, false, false, true]) (x := .bool false)
    · rfl
    · kernel_rfl
    · kernel_rfl
    · dsimp only [oblS]
      rintro w9 h9
      go_simp
      exact ⟨Below.refl _ _, rfl⟩
    dsimp only [List.nil_append, List.cons_append]
    apply relS_det (mask := [false, false, false, false, true]) (x := .bool false)
    · rfl
    · kernel_rfl
    · kernel_rfl
    · dsimp only [oblS]
      rintro w9 h9
      go_simp
      exact ⟨Below.refl _ _, rfl⟩
    dsimp only [List.nil_append, List.cons_append]
    apply relS_not (mask := [false, false, false, false, false, true]) (t := 40) (want := true) (hf := by rfl) (hg := by kernel_rfl) (hm := by kernel_rfl)
    · rfl
    dsimp only [List.nil_append, List.cons_append]
    apply relS_not (mask := [false, false, false, false, false, true, false]) (t := 40) (want := true) (hf := by rfl) (hg := by kernel_rfl) (hm := by kernel_rfl)
    · rfl
    dsimp only [List.nil_append, List.cons_append]
    apply relS_not (mask := [false, false, false, false, false, true, false, true]) (t := 40) (want := true) (hf := by rfl) (hg := by kernel_rfl) (hm := by kernel_rfl)
    · rfl
    dsimp only [List.nil_append, List.cons_append]
    apply relS_not (mask := [false, false, false, false, false, true, false, false, false]) (t := 40) (want := true) (hf := by rfl) (hg := by kernel_rfl) (hm := by kernel_rfl)
    · rfl
    dsimp only [List.nil_append, List.cons_append]
    apply relS_not (mask := [false, false, false, false, false, true, false, false, true, true]) (t := 40) (want := true) (hf := by rfl) (hg := by kernel_rfl) (hm := by kernel_rfl)
    · rfl
    dsimp only [List.nil_append, List.cons_append]
    apply relS_not (mask := [false, false, false, false, false, true, false, false, false, false, true]) (t := 40) (want := true) (hf := by rfl) (hg := by kernel_rfl) (hm := by kernel_rfl)
    · rfl
    dsimp only [List.nil_append, List.cons_append]
    apply relS_not (mask := [false, false, false, false, false, true, true, false, false, false, false, true]) (t := 40) (want := true) (hf := by rfl) (hg := by kernel_rfl) (hm := by kernel_rfl)
    · rfl
    dsimp only [List.nil_append, List.cons_append]
    apply relS_not (mask := [false, false, false, false, false, true, false, false, false, false, false, false, true]) (t := 40) (want := true) (hf := by rfl) (hg := by kernel_rfl) (hm := by kernel_rfl)
    · rfl
    dsimp only [List.nil_append, List.cons_append]
    apply relS_det (mask := [false, false, false, false, false, true, false, false, false, false, false, false, false, true]) (x := .bool false)
    · rfl
    · kernel_rfl
    · kernel_rfl
    · dsimp only [oblS]
      rintro w9 h9
      go_simp
      exact ⟨Below.refl _ _, rfl⟩
    dsimp only [List.nil_append, List.cons_append]
    with_reducible refine relS_endG ?_ ?_
    · kernel_rfl
    intro CC hCC
    dsimp only [finS]
    intro w8 hb8
    have HS8 := hidp (HSe.out.own (kept_of_below (M := fun _ => False) hb8 fun b h1 h2 => by omega) (fun b h => h.elim) (HJ.out _))
    clear y0 g0 g1 ly lg hb8
    apply hCC
    go_simp
    gi_wp2_with fail
    exact ⟨⟨j + 1, Ds, C1, _, _, _, _, _, _, _, _, _, _, _, _, _, _, _, _, _, _, _, _, _, _, _, _, _, _, _, _, _, _, _, _, _, _, _, _, by omega, HS8.out, rfl⟩, by simp [intOf]; omega⟩
  · obtain ⟨kn, hkj, hkq, hok⟩ := hkid j (by rw [hkl]; show j < g.facts.length + 1; have := HFn.out; omega)
    have hkl' : g.kids.length = g.facts.length + 1 := hkl
    have hgt : decide (0 < g.kn) = true := by simp; have := HKn.out; omega
    have hjk : j < g.kn := by have := HKn.out; have := HFn.out; omega
    obtain ⟨bk, ok, kid, hkA, _, hkd2, k0⟩ := iSl.get ((HPs.out wr fun b hb => (HSt.out.st.reads b (.inl hb)).2.1).each g (List.mem_of_getElem? HGg.out)).2 hjk
    obtain rfl : kid = (kn : Int) := Option.some.inj (hkd2.symm.trans hkj)
    have hixk := fun W => ix_intsP (c := g.kc) hkA hjk W
    have lk0 := lt_of_cell k0
    have HSub : Hid (subT (psV s) q (pgV g) j = allT (psV s) kn) := subT_kid hkj hkq
    have hPr := HSt.out.st.reads P (.inr (.inl rfl))
    have gp := hPr.2.1.trans HPw.out
    have p0 := cell_of_heap (o := 0) gp
    have p1 := cell_of_heap (o := 1) gp
    have lp := lt_of_heap gp
    simp only [List.getElem?_toArray, List.getElem?_cons_zero, List.getElem?_cons_succ] at p0 p1
    have HSz : Hid (n₀ ≤ wr.heap.size ∧ W.heap.size + 2 ≤ wr.heap.size) := ⟨by omega, by omega⟩
    have HOk := hidp hok
    have HKq := hidp hkq
    clear hkj hok hkA hkd2 hPr gp hkid hkl hkl' hkq
    gi_wp2_with fail
    refine wpIn_region_SW wr.heap.size 7 (fun _ => false) (Nat.le_refl _) (by kernel_rfl) (by kernel_rfl) (by kernel_rfl) ?_
    dsimp only [List.take, List.drop]
    apply relS_det (mask := []) (x := .agg #[.slice s.pA s.pn s.pc, .slice s.rA s.rn s.rc])
    · rfl
    · kernel_rfl
    · kernel_rfl
    · dsimp only [oblS]
      rintro w9 h9
      have hc9 := (bcell h9).1
      go_simp
      exact ⟨Below.refl _ _, rfl⟩
    dsimp only [List.nil_append, List.cons_append]
    apply relS_det (mask := [false])
    · rfl
    · kernel_rfl
    · kernel_rfl
    · dsimp only [oblS]
      rintro w9 h9
      go_simp
      exact ⟨Below.refl _ _, rfl⟩
    dsimp only [List.nil_append, List.cons_append]
    apply relS_det (mask := [false, true]) (x := .slice g.kA g.kn g.kc)
    · rfl
    · kernel_rfl
    · kernel_rfl
    · dsimp only [oblS]
      rintro w9 h9
      have hc9 := (bcell h9).1
      go_simp
      exact ⟨Below.refl _ _, rfl⟩
    dsimp only [List.nil_append, List.cons_append]
    apply relS_det (mask := [false, false, false]) (x := .int .i64 j)
    · rfl
    · kernel_rfl
    · kernel_rfl
    · dsimp only [oblS]
      rintro w9 h9
      go_simp
      exact ⟨Below.refl _ _, rfl⟩
    dsimp only [List.nil_append, List.cons_append]
    apply relS_det (mask := [false, false, true, true]) (x := .pointer (some ⟨bk, ok + j, none⟩))
    · rfl
    · kernel_rfl
    · kernel_rfl
    · dsimp only [oblS]
      rintro w9 h9
      go_simp
      exact ⟨Below.refl _ _, rfl⟩
    dsimp only [List.nil_append, List.cons_append]
    apply relS_det (mask := [false, false, false, false, true]) (x := .int .i64 (kn : Nat))
    · rfl
    · kernel_rfl
    · kernel_rfl
    · dsimp only [oblS]
      rintro w9 h9
      have hc9 := (bcell h9).1
      go_simp
      exact ⟨Below.refl _ _, rfl⟩
    dsimp only [List.nil_append, List.cons_append]
    apply relS_any (mask := [true, false, false, false, false, true]) (T := fun v W' => ∃ P2 A2, v = .func (.func 62) #[] #[.pointer (some ⟨P2, 0, none⟩), .pointer (some ⟨A2, 0, none⟩)] ∧ wr.heap.size ≤ P2 ∧ wr.heap.size ≤ A2 ∧ W'.heap[P2]? = some (.cells #[.slice s.pA s.pn s.pc, .slice s.rA s.rn s.rc] 25 (0, 0)) ∧ W'.heap[A2]? = some (.cells #[.int .i64 (kn : Nat)] 3 (0, 0))) (hT := fun v w w' hb ⟨P2, A2, e, h1, h2, h3, h4⟩ => ⟨P2, A2, e, h1, h2, (hb.block _ (lt_of_heap h3)).trans h3, (hb.block _ (lt_of_heap h4)).trans h4⟩)
    · rfl
    · kernel_rfl
    · kernel_rfl
    · dsimp only [oblS]
      rintro w9 h9 T' hT'
      go_simp
      refine (pgall_any s kn w9).mono ?_
      rintro e w7 ⟨rfl, h1, h2, hb7⟩
      exact ⟨_, rfl, hb7, hT' _ _ ⟨_, _, rfl, h9.size, by have := h9.size; omega, h1, h2⟩⟩
    dsimp only [List.nil_append, List.cons_append]
    with_reducible refine relS_endG ?_ ?_
    · kernel_rfl
    intro CC hCC
    dsimp only [finS]
    rintro v29 w6 ⟨hb6, P2, A2, rfl, hP2, hA2, gp2, ga2⟩
    have hbs := hb6.size
    have HS6 := hidp (HSt.out.own (kept_of_below (M := fun _ => False) hb6 fun b h1 h2 => by omega) (fun b h => h.elim) (HJ.out _))
    have HSeq := hidp (HIH.out kn (by have := HKq.out; omega) HOk.out P2 A2 w6 (by have := HSz.out.1; omega) (by have := HSz.out.1; omega) gp2 ga2 (HPs.out w6 fun b hb => (HS6.out.st.reads b (.inl hb)).2.1) HSm.out)
    have hl2 := lt_of_heap gp2
    have ha2 := lt_of_heap ga2
    have HOwn : Hid (∀ (J' : (Nat → Prop) → World → Prop) (hJ' : ∀ C1 W1 W2, J' C1 W1 → Kept (fun b => W.heap.size ≤ b ∧ ¬ C1 b) W1 W2 → J' C1 W2) C' W1 W2, AllSt n₀ P A g li J' w W Ds C' W1 → Kept (fun b => w6.heap.size ≤ b ∧ ¬ C' b) W1 W2 → AllSt n₀ P A g li J' w W Ds C' W2) :=
      fun J' hJ' C' W1 W2 h hk => h.own hk (fun b hb => ⟨by have := hb.1; have := HSz.out.2; omega, hb.2, fun hD => by have := HS6.out.marks.lt b hD; have := hb.1; omega⟩) hJ'
    have hw6 : W.heap.size + 2 ≤ w6.heap.size := by have := HSz.out.2; omega
    clear y0 g0 g1 ly lg p0 p1 lp k0 lk0 hixk hb6 gp2 ga2
    apply hCC
    go_simp
    gi_wp2_with fail
    refine wpIn_wide.2 (wp_rangeP (gf := 62) (lb := #[.pointer (some ⟨P2, 0, none⟩), .pointer (some ⟨A2, 0, none⟩)]) rfl (enters_of Try.func62 (by kernel_rfl) rfl) HSeq.out C1 ?S (fun _ => rfl) ?CC
      (fun pre C' W' => AllSt n₀ P A g li (J (outT (psV s) q (pgV g) j ++ pre)) w W Ds C' W')
      (fun c C' W' => c = .ret ∧ AllSt n₀ P A g li Jx w W Ds C' W')
      (fun ch C' W' => AllSt n₀ P A g li (Jp ch) w W Ds C' W')
      ?hI ?hIx ?h0
      (fun ll pre x C' a' W' => ∃ B6, AllSt n₀ P A g li (J (outT (psV s) q (pgV g) j ++ pre)) w W Ds C' W' ∧ B6 ≠ ll ∧ w6.heap.size ≤ B6 ∧ ¬ C' B6 ∧ W'.heap[B6]? = some (.cells #[.int .i64 x.key.kind, .int .i64 x.key.subj, .int .i64 x.key.obj, .int .i64 x.val, .int .i64 x.fr, .int .i64 x.to, .int .i64 x.known, .int .i64 x.no] 31 (0, 0)) ∧ a' = { tmps := #[.func (.yield li) #[] #[], .pointer (some ⟨P, 0, none⟩), .pointer (some ⟨A, 0, none⟩), .pointer (some ⟨W.heap.size, 0, none⟩), .pointer (some ⟨W.heap.size + 1, 0, none⟩), .int .i64 j, .pointer (some ⟨B6, 0, none⟩), .pointer (some ⟨P, 0, none⟩), .slice s.pA s.pn s.pc, .int .i64 q, .pointer (some ⟨bp, op + q * 2, none⟩), .agg #[.slice g.fA g.fn g.fc, .slice g.kA g.kn g.kc], .pointer (some ⟨W.heap.size + 1, 0, none⟩), .slice g.fA g.fn g.fc, .int .i64 g.fn, .int .i64 ((g.fn : Int) + 1), .int .i64 j, .bool true, .int .i64 j, .pointer (some ⟨W.heap.size + 1, 1, none⟩), .slice g.kA g.kn g.kc, .int .i64 g.kn, .bool true, .agg #[.slice s.pA s.pn s.pc, .slice s.rA s.rn s.rc], .pointer (some ⟨W.heap.size + 1, 1, none⟩), .slice g.kA g.kn g.kc, .int .i64 j, .pointer (some ⟨bk, ok + j, none⟩), .int .i64 kn, .func (.func 62) #[] #[.pointer (some ⟨P2, 0, none⟩), .pointer (some ⟨A2, 0, none⟩)], .agg #[.int .i64 x.key.kind, .int .i64 x.key.subj, .int .i64 x.key.obj, .int .i64 x.val, .int .i64 x.fr, .int .i64 x.to, .int .i64 x.known, .int .i64 x.no], v31, v32, v33, v34, v35, v36, v37, v38, v39, v40, v41, v42, v43, v44, v45, v46, v47, v48, v49, v50], defers := [] })
      ?hIp ⟨?hAx, ?assign, ?body⟩ ?done ?stop ?panic)
    case S =>
      rintro b (hb | rfl | rfl)
      · have := HS6.out.st.reads b (.inl hb)
        exact ⟨by have := HSz.out.1; omega, rfl, this.2.2⟩
      · exact ⟨hl2, rfl, fun h => by have := HSt.out.st.lt _ h; omega⟩
      · exact ⟨ha2, rfl, fun h => by have := HSt.out.st.lt _ h; omega⟩
    case CC => exact fun b hb => HS6.out.st.lt b hb
    case hI => exact fun pre C' W1 W2 h hk => HOwn.out _ (HJ.out _) C' W1 W2 h hk
    case hIx => exact fun c C' W1 W2 ⟨h1, h2⟩ hk => ⟨h1, HOwn.out _ HJx.out C' W1 W2 h2 hk⟩
    case h0 =>
      show AllSt _ _ _ _ _ _ _ _ _ _ _
      rw [List.append_nil]; exact HS6.out
    case hIp => exact fun ch C' W1 W2 h hk => HOwn.out _ (HJp.out ch) C' W1 W2 h hk
    case hAx =>
      rintro ll pre x C' a' W2 W3 hll hnl ⟨B6, h1, h2, h3, h4, h5, rfl⟩ _ hk
      exact ⟨B6, HOwn.out _ (HJ.out _) C' W2 W3 h1 (hk.mono fun b _ hb => by subst hb; exact ⟨hll, hnl⟩), h2, h3, h4, (hk.block _ (lt_of_heap h5) h2).trans h5, rfl⟩
    case assign =>
      rintro ll m pre x suf C' W1 K hll hlt hnl _ h hC' hK
      have H1 := hidp h
      have hs1 := Nat.le_trans hll (Nat.le_of_lt hlt)
      clear h
      simp only [fArgs]
      gi_wp2
      exact hK _ _ ((Kept.refl _ _).alloc _) ⟨W1.heap.size, H1.out.own (M := fun _ => False) ((Kept.refl _ _).alloc _) (fun b h => h.elim) (HJ.out _), by omega, by omega, fun hb => by have := hC' _ hb; omega, World.alloc_heap_new _ _, rfl⟩
    case body =>
      rintro ll m pre x suf C' a' W2 hll hnl hxs ⟨B6, h, hne, hB6, hnB, hg6, rfl⟩ _ hC'
      obtain ⟨sf, hsf⟩ := HSplit.out
      rw [HSub.out, hxs] at hsf
      have hsp : allT (psV s) q = (outT (psV s) q (pgV g) j ++ pre) ++ x :: (suf ++ (g.facts[j]?.toList ++ sf)) := by rw [hsf]; simp
      obtain ⟨fn', tm', asg, bd, hy, hR⟩ := HY.out (m - 1) _ _ _ C' W2 hsp h.j
      have HR : Hid (RoundIn (Fence.wide.inRound ll) (m - 1) Try.prog li fn' tm' asg bd W2 _) := hR
      have hy' : (Instr.yield li #[.agg #[.int .i64 x.key.kind, .int .i64 x.key.subj, .int .i64 x.key.obj, .int .i64 x.val, .int .i64 x.fr, .int .i64 x.to, .int .i64 x.known, .int .i64 x.no]]).run Try.prog W2 = .ok (.round li fn' tm' asg bd) W2 := hy
      have HS2 := hidp h
      obtain ⟨y0, g0, g1, ly, lg⟩ := h.cells
      have f0 := cell_of_heap (o := 0) hg6
      have f1 := cell_of_heap (o := 1) hg6
      have f2 := cell_of_heap (o := 2) hg6
      have f3 := cell_of_heap (o := 3) hg6
      have f4 := cell_of_heap (o := 4) hg6
      have f5 := cell_of_heap (o := 5) hg6
      have f6 := cell_of_heap (o := 6) hg6
      have f7 := cell_of_heap (o := 7) hg6
      have lf6 := lt_of_heap hg6
      simp only [List.getElem?_toArray, List.getElem?_cons_zero, List.getElem?_cons_succ] at f0 f1 f2 f3 f4 f5 f6 f7
      clear hsf hsp hR hy h hxs hg6
      refine wpK_block (wpK_seq (wpK_region_lit ?_))
      gi_wp2_with fail
      refine ⟨fun h => by simp [Fence.wide] at h, HR.out.mono ?_⟩
      rintro e W3 ⟨C3, hk3, hC3, (⟨rfl, hJ3⟩ | ⟨rfl, hJx3⟩ | ⟨ch, rfl, hJp3⟩)⟩
      · have HS3 : Hid (AllSt n₀ P A g li (J (outT (psV s) q (pgV g) j ++ (pre ++ [x]))) w W Ds C3 W3) := by
          show AllSt _ _ _ _ _ _ _ _ _ _ _
          rw [← List.append_assoc]; exact HS2.out.round hk3 hC3 hJ3
        have HK3 := hidp hk3
        have HC3 := hidp hC3
        clear hk3 hC3 hJ3 hy' HR
        gi_wp2_with fail
        refine wpK_cond (t := false) rfl (wpK_quiet ?_)
        simp only [Bool.false_eq_true, if_false]
        exact wpIn_skip ⟨(fun ch he => by cases he), C3, HK3.out, HC3.out, HS3.out⟩
      · have HS3 : Hid (AllSt n₀ P A g li Jx w W Ds C3 W3) := HS2.out.round hk3 hC3 hJx3
        have HK3 := hidp hk3
        have HC3 := hidp hC3
        clear hk3 hC3 hJx3 hy' HR
        gi_wp2_with fail
        refine wpK_cond (t := true) rfl (wpK_quiet ?_)
        simp only [if_true]
        exact wpIn_ret ⟨(fun ch he => by cases he), C3, HK3.out, HC3.out, rfl, HS3.out⟩
      · exact ⟨rfl, C3, hk3, hC3, HS2.out.round hk3 hC3 hJp3⟩
    case stop =>
      rintro D c C7 w7 hD hlt hnD ⟨rfl, h⟩ hm
      have HS7 := hidp (h.mark (by omega) hm hnD fun hd => by have := HS6.out.marks.lt D hd; omega)
      exact wp_ret (leave_marks (.inl rfl) HS7.out.marks rfl fun W' hz hk => ⟨.tuple #[], results_none rfl _ _ _, .inl ⟨⟨_, rfl⟩, C7, .inr (HJx.out _ _ _ HS7.out.j (hk.mono fun b _ hb => ⟨by have := (HS7.out.marks.2 b hb).1; omega, HS7.out.nm b hb⟩))⟩⟩)
    case panic =>
      rintro D ch C7 w7 hD hlt hnD h hm
      have HS7 := hidp (h.mark (by omega) hm hnD fun hd => by have := HS6.out.marks.lt D hd; omega)
      exact panic_marks HS7.out.marks rfl fun W' hz hk => .inr ⟨ch, rfl, C7, HJp.out _ _ _ _ HS7.out.j (hk.mono fun b _ hb => ⟨by have := (HS7.out.marks.2 b hb).1; omega, HS7.out.nm b hb⟩)⟩
    case done =>
      rintro D C7 w7 hD hlt hnD h hm
      have HS9 : Hid (AllSt n₀ P A g li (J (outT (psV s) q (pgV g) j ++ subT (psV s) q (pgV g) j)) w W (D :: Ds) C7 w7) := by
        show AllSt _ _ _ _ _ _ _ _ _ _ _
        rw [HSub.out]; exact h.mark (by omega) hm hnD fun hd => by have := HS6.out.marks.lt D hd; omega
      obtain ⟨y0, g0, g1, ly, lg⟩ := HS9.out.cells
      clear h hm
      gi_wp2_with fail
      by_cases hjf : j < g.fn
      · have hjf' : (j : Int) < g.fn := by omega
        obtain ⟨bf, of, f, hfA, _, hf, f0, f1, f2, f3, f4, f5, f6, f7⟩ := fSl.get ((HPs.out w7 fun b hb => (HS9.out.st.reads b (.inl hb)).2.1).each g (List.mem_of_getElem? HGg.out)).1 hjf
        have hixf := fun W => ix_FactsP (c := g.fc) hfA hjf W
        have lf0 := lt_of_cell f0
        have HF := hidp hf
        clear hf hfA
        refine wpIn_region_SW w7.heap.size 12 (fun _ => false) (Nat.le_refl _) (by kernel_rfl) (by kernel_rfl) (by kernel_rfl) ?_
        dsimp only [List.take, List.drop]
        apply relS_det (mask := []) (x := .int .i64 j)
        · rfl
        · kernel_rfl
        · kernel_rfl
        · dsimp only [oblS]
          rintro w9 h9
          go_simp
          exact ⟨Below.refl _ _, rfl⟩
        dsimp only [List.nil_append, List.cons_append]
        apply relS_det (mask := [false])
        · rfl
        · kernel_rfl
        · kernel_rfl
        · dsimp only [oblS]
          rintro w9 h9
          go_simp
          exact ⟨Below.refl _ _, rfl⟩
        dsimp only [List.nil_append, List.cons_append]
        apply relS_det (mask := [false, true]) (x := .slice g.fA g.fn g.fc)
        · rfl
        · kernel_rfl
        · kernel_rfl
        · dsimp only [oblS]
          rintro w9 h9
          have hc9 := (bcell h9).1
          go_simp
          exact ⟨Below.refl _ _, rfl⟩
        dsimp only [List.nil_append, List.cons_append]
        apply relS_det (mask := [false, false, true]) (x := .int .i64 g.fn)
        · rfl
        · kernel_rfl
        · kernel_rfl
        · dsimp only [oblS]
          rintro w9 h9
          go_simp
          exact ⟨Below.refl _ _, rfl⟩
        dsimp only [List.nil_append, List.cons_append]
        apply relS_det (mask := [true, false, false, true]) (x := .bool true)
        · rfl
        · kernel_rfl
        · kernel_rfl
        · dsimp only [oblS]
          rintro w9 h9
          go_simp
          exact ⟨Below.refl _ _, rfl⟩
        dsimp only [List.nil_append, List.cons_append]
        apply relS_det (mask := [false, false, false, false, true]) (x := .bool true)
        · rfl
        · kernel_rfl
        · kernel_rfl
        · dsimp only [oblS]
          rintro w9 h9
          go_simp
          exact ⟨Below.refl _ _, rfl⟩
        dsimp only [List.nil_append, List.cons_append]
        apply relS_detg (mask := [false, false, false, false, false, true]) (t := 40) (want := true) (x := .func (.yield li) #[] #[])
        · rfl
        · kernel_rfl
        · kernel_rfl
        · dsimp only [oblS]
          refine ⟨by rfl, ?_⟩
          rintro w9 h9
          have hc9 := (bcell h9).1
          go_simp
          exact ⟨Below.refl _ _, rfl⟩
        dsimp only [List.nil_append, List.cons_append]
        apply relS_detg (mask := [false, false, false, false, false, true, false]) (t := 40) (want := true)
        · rfl
        · kernel_rfl
        · kernel_rfl
        · dsimp only [oblS]
          refine ⟨by rfl, ?_⟩
          rintro w9 h9
          go_simp
          exact ⟨Below.refl _ _, rfl⟩
        dsimp only [List.nil_append, List.cons_append]
        apply relS_detg (mask := [false, false, false, false, false, true, false, true]) (t := 40) (want := true) (x := .slice g.fA g.fn g.fc)
        · rfl
        · kernel_rfl
        · kernel_rfl
        · dsimp only [oblS]
          refine ⟨by rfl, ?_⟩
          rintro w9 h9
          have hc9 := (bcell h9).1
          go_simp
          exact ⟨Below.refl _ _, rfl⟩
        dsimp only [List.nil_append, List.cons_append]
        apply relS_detg (mask := [false, false, false, false, false, true, false, false, false]) (t := 40) (want := true) (x := .int .i64 j)
        · rfl
        · kernel_rfl
        · kernel_rfl
        · dsimp only [oblS]
          refine ⟨by rfl, ?_⟩
          rintro w9 h9
          go_simp
          exact ⟨Below.refl _ _, rfl⟩
        dsimp only [List.nil_append, List.cons_append]
        apply relS_detg (mask := [false, false, false, false, false, true, false, false, true, true]) (t := 40) (want := true) (x := .pointer (some ⟨bf, of + j * 8, none⟩))
        · rfl
        · kernel_rfl
        · kernel_rfl
        · dsimp only [oblS]
          refine ⟨by rfl, ?_⟩
          rintro w9 h9
          go_simp
          exact ⟨Below.refl _ _, rfl⟩
        dsimp only [List.nil_append, List.cons_append]
        apply relS_detg (mask := [false, false, false, false, false, true, false, false, false, false, true]) (t := 40) (want := true) (x := .agg #[.int .i64 f.key.kind, .int .i64 f.key.subj, .int .i64 f.key.obj, .int .i64 f.val, .int .i64 f.fr, .int .i64 f.to, .int .i64 f.known, .int .i64 f.no])
        · rfl
        · kernel_rfl
        · kernel_rfl
        · dsimp only [oblS]
          refine ⟨by rfl, ?_⟩
          rintro w9 h9
          have hc9 := (bcell h9).1
          go_simp
          exact ⟨Below.refl _ _, rfl⟩
        dsimp only [List.nil_append, List.cons_append]
        with_reducible refine relS_endG ?_ ?_
        · kernel_rfl
        intro CC hCC
        dsimp only [finS]
        rintro w8 hb8
        have HS8 := hidp (HS9.out.own (kept_of_below (M := fun _ => False) hb8 fun b h1 h2 => by omega) (fun b h => h.elim) (HJ.out _))
        clear f0 f1 f2 f3 f4 f5 f6 f7 lf0 hixf y0 g0 g1 ly lg hb8
        obtain ⟨suf, hsuf⟩ := HSplit.out
        rw [HF.out] at hsuf
        have hsuf' : allT (psV s) q = (outT (psV s) q (pgV g) j ++ subT (psV s) q (pgV g) j) ++ f :: suf := by rw [hsuf]; simp
        have HNext : Hid (outT (psV s) q (pgV g) (j + 1) = outT (psV s) q (pgV g) j ++ subT (psV s) q (pgV g) j ++ [f]) := by
          show _ = _
          rw [outT_succ, show (pgV g).facts[j]? = some f from HF.out]; simp
        obtain ⟨fn', tm', asg, bd, hy, hR⟩ := HY.out 0 _ _ _ _ _ hsuf' HS8.out.j
        have HR := hidp hR
        have hy' : (Instr.yield li #[.agg #[.int .i64 f.key.kind, .int .i64 f.key.subj, .int .i64 f.key.obj, .int .i64 f.val, .int .i64 f.fr, .int .i64 f.to, .int .i64 f.known, .int .i64 f.no]]).run Try.prog w8 = .ok (.round li fn' tm' asg bd) w8 := hy
        clear hsuf hsuf' hR hy
        apply hCC
        go_simp
        gi_wp2_with fail
        refine ⟨rfl, HR.out.mono ?_⟩
        rintro e W3 ⟨C3, hk3, hC3, (⟨rfl, hJ3⟩ | ⟨rfl, hJx3⟩ | ⟨ch, rfl, hJp3⟩)⟩
        · have HS3 : Hid (AllSt n₀ P A g li (J (outT (psV s) q (pgV g) (j + 1))) w W (D :: Ds) C3 W3) := by
            show AllSt _ _ _ _ _ _ _ _ _ _ _
            rw [HNext.out]; exact HS8.out.round hk3 hC3 hJ3
          clear hk3 hC3 hJ3 hy' HR
          gi_wp2_with fail
          exact ⟨⟨j + 1, (D :: Ds), C3, _, _, _, _, _, _, _, _, _, _, _, _, _, _, _, _, _, _, _, _, _, _, _, _, _, _, _, _, _, _, _, _, _, _, _, _, by omega, HS3.out, rfl⟩, by simp [intOf]; omega⟩
        · have HS3 : Hid (AllSt n₀ P A g li Jx w W (D :: Ds) C3 W3) := HS8.out.round hk3 hC3 hJx3
          clear hk3 hC3 hJx3 hy' HR
          gi_wp2_with fail
          exact leave_marks (.inl rfl) HS3.out.marks rfl fun W' hz hk => ⟨.tuple #[], results_none rfl _ _ _, .inl ⟨⟨_, rfl⟩, C3, .inr (HJx.out _ _ _ HS3.out.j (hk.mono fun b _ hb => ⟨by have := (HS3.out.marks.2 b hb).1; omega, HS3.out.nm b hb⟩))⟩⟩
        · have HS3 : Hid (AllSt n₀ P A g li (Jp ch) w W (D :: Ds) C3 W3) := HS8.out.round hk3 hC3 hJp3
          clear hk3 hC3 hJp3 hy' HR
          exact panic_marks HS3.out.marks rfl fun W' hz hk => .inr ⟨ch, rfl, C3, HJp.out _ _ _ _ HS3.out.j (hk.mono fun b _ hb => ⟨by have := (HS3.out.marks.2 b hb).1; omega, HS3.out.nm b hb⟩)⟩
      have hjf' : ¬ ((j : Int) < g.fn) := by omega
      have HSe : Hid (AllSt n₀ P A g li (J (outT (psV s) q (pgV g) (j + 1))) w W (D :: Ds) C7 w7) := by
        show AllSt _ _ _ _ _ _ _ _ _ _ _
        rw [outT_succ, show (pgV g).facts[j]? = none from List.getElem?_eq_none (by show g.facts.length ≤ j; have := HFn.out; omega), Option.toList_none, List.append_nil]; exact HS9.out
      have hjd : decide (j < g.fn) = false := by simp; omega
      clear hjf hjf'
      gi_wp2_with fail
      refine wpIn_region_SW w7.heap.size 15 (fun _ => false) (Nat.le_refl _) (by kernel_rfl) (by kernel_rfl) (by kernel_rfl) ?_
      dsimp only [List.take, List.drop]
      apply relS_det (mask := []) (x := .int .i64 j)
      · rfl
      · kernel_rfl
      · kernel_rfl
      · dsimp only [oblS]
        rintro w9 h9
        go_simp
        exact ⟨Below.refl _ _, rfl⟩
      dsimp only [List.nil_append, List.cons_append]
      apply relS_det (mask := [false])
      · rfl
      · kernel_rfl
      · kernel_rfl
      · dsimp only [oblS]
        rintro w9 h9
        go_simp
        exact ⟨Below.refl _ _, rfl⟩
      dsimp only [List.nil_append, List.cons_append]
      apply relS_det (mask := [false, true]) (x := .slice g.fA g.fn g.fc)
      · rfl
      · kernel_rfl
      · kernel_rfl
      · dsimp only [oblS]
        rintro w9 h9
        have hc9 := (bcell h9).1
        go_simp
        exact ⟨Below.refl _ _, rfl⟩
      dsimp only [List.nil_append, List.cons_append]
      apply relS_det (mask := [false, false, true]) (x := .int .i64 g.fn)
      · rfl
      · kernel_rfl
      · kernel_rfl
      · dsimp only [oblS]
        rintro w9 h9
        go_simp
        exact ⟨Below.refl _ _, rfl⟩
      dsimp only [List.nil_append, List.cons_append]
      apply relS_det (mask := [true, false, false, true]) (x := .bool false)
      · rfl
      · kernel_rfl
      · kernel_rfl
      · dsimp only [oblS]
        rintro w9 h9
        go_simp
        exact ⟨Below.refl _ _, rfl⟩
      dsimp only [List.nil_append, List.cons_append]
      apply relS_det (mask := [false, false, false, false, true]) (x := .bool false)
      · rfl
      · kernel_rfl
      · kernel_rfl
      · dsimp only [oblS]
        rintro w9 h9
        go_simp
        exact ⟨Below.refl _ _, rfl⟩
      dsimp only [List.nil_append, List.cons_append]
      apply relS_not (mask := [false, false, false, false, false, true]) (t := 40) (want := true) (hf := by rfl) (hg := by kernel_rfl) (hm := by kernel_rfl)
      · rfl
      dsimp only [List.nil_append, List.cons_append]
      apply relS_not (mask := [false, false, false, false, false, true, false]) (t := 40) (want := true) (hf := by rfl) (hg := by kernel_rfl) (hm := by kernel_rfl)
      · rfl
      dsimp only [List.nil_append, List.cons_append]
      apply relS_not (mask := [false, false, false, false, false, true, false, true]) (t := 40) (want := true) (hf := by rfl) (hg := by kernel_rfl) (hm := by kernel_rfl)
      · rfl
      dsimp only [List.nil_append, List.cons_append]
      apply relS_not (mask := [false, false, false, false, false, true, false, false, false]) (t := 40) (want := true) (hf := by rfl) (hg := by kernel_rfl) (hm := by kernel_rfl)
      · rfl
      dsimp only [List.nil_append, List.cons_append]
      apply relS_not (mask := [false, false, false, false, false, true, false, false, true, true]) (t := 40) (want := true) (hf := by rfl) (hg := by kernel_rfl) (hm := by kernel_rfl)
      · rfl
      dsimp only [List.nil_append, List.cons_append]
      apply relS_not (mask := [false, false, false, false, false, true, false, false, false, false, true]) (t := 40) (want := true) (hf := by rfl) (hg := by kernel_rfl) (hm := by kernel_rfl)
      · rfl
      dsimp only [List.nil_append, List.cons_append]
      apply relS_not (mask := [false, false, false, false, false, true, true, false, false, false, false, true]) (t := 40) (want := true) (hf := by rfl) (hg := by kernel_rfl) (hm := by kernel_rfl)
      · rfl
      dsimp only [List.nil_append, List.cons_append]
      apply relS_not (mask := [false, false, false, false, false, true, false, false, false, false, false, false, true]) (t := 40) (want := true) (hf := by rfl) (hg := by kernel_rfl) (hm := by kernel_rfl)
      · rfl
      dsimp only [List.nil_append, List.cons_append]
      apply relS_det (mask := [false, false, false, false, false, true, false, false, false, false, false, false, false, true]) (x := .bool false)
      · rfl
      · kernel_rfl
      · kernel_rfl
      · dsimp only [oblS]
        rintro w9 h9
        go_simp
        exact ⟨Below.refl _ _, rfl⟩
      dsimp only [List.nil_append, List.cons_append]
      with_reducible refine relS_endG ?_ ?_
      · kernel_rfl
      intro CC hCC
      dsimp only [finS]
      intro w8 hb8
      have HS8 := hidp (HSe.out.own (kept_of_below (M := fun _ => False) hb8 fun b h1 h2 => by omega) (fun b h => h.elim) (HJ.out _))
      clear y0 g0 g1 ly lg hb8
      apply hCC
      go_simp
      gi_wp2_with fail
      exact ⟨⟨j + 1, (D :: Ds), C7, _, _, _, _, _, _, _, _, _, _, _, _, _, _, _, _, _, _, _, _, _, _, _, _, _, _, _, _, _, _, _, _, _, _, _, _, by omega, HS8.out, rfl⟩, by simp [intOf]; omega⟩
end Go.Proofs.Ytpnfpdkoeednhaa

end
section
/- pages.Put's deferred closure, inside the wide fence; a frame's marks, then its deferred calls. -/
namespace Go.Proofs.Ytpnfpdkoeednhaa
open Go.RowKit

/-- A deferred call that may recover, inside the wide fence. -/
theorem callsDW_of_wpS {P : Program} {n : Nat} {f : FuncId} {fn : Func} {c : Code} {args : Array Value} {u : FrameMode} {w : World} {R : Ending → FrameMode → World → Prop}
    (hf : P.funcs[f]? = some fn) (hb : fn.body = some c)
    (h : ∀ (c₀ : Frame) (cs : List Frame), c₀.mode = u →
      c.wpS P (bodyPostS P fn c₀ cs R) { tmps := args ++ Array.replicate (fn.ntmps - args.size) undef, defers := [] } (c₀ :: cs) w) :
    CallsDIn Fence.wide n P f args u w R := by
  refine ⟨trivial, fun c₀ cs hu _ => ?_⟩
  let b : Frame := { (default : Frame) with fn := f, kind := .deferred }
  have henter : Frame.enter P f args .deferred =
      b.at { tmps := args ++ Array.replicate (fn.ntmps - args.size) undef, defers := [] } [.code c] := by
    simp [Frame.enter, Frame.at, hf, hb, b]
  obtain ⟨e, a', cs', w', hq, harr⟩ := h c₀ cs hu b [] rfl rfl
  rw [← henter] at harr
  cases e with
  | normal =>
    obtain ⟨hd, u', rfl, v, hr, hR⟩ := hq
    exact ⟨.returned v, u', w', _, hR, comesIn_wide.2 (Steps.trans harr (.one step_end)), rfl, rfl, rfl, hd, fn, hf, hr⟩
  | ret =>
    obtain ⟨hd, u', rfl, v, hr, hR⟩ := hq
    obtain ⟨todo, hs⟩ := harr
    exact ⟨.returned v, u', w', _, hR, comesIn_wide.2 hs, rfl, rfl, rfl, hd, fn, hf, hr⟩
  | panic chain =>
    obtain ⟨hd, u', rfl, hR⟩ := hq
    obtain ⟨todo, hs⟩ := harr
    exact ⟨.panicked chain, u', w', _, hR, comesIn_wide.2 hs, rfl, rfl, rfl, hd, fn, hf⟩
  | exit id => exact hq.elim
  | goto l => exact hq.elim
  | outgrown =>
    obtain ⟨u', hR⟩ := hq
    exact ⟨.outgrown, u', w', b, hR, comesIn_wide.2 (harr.resolve_left (by simp [b])), rfl, rfl, trivial⟩
set_option maxHeartbeats 1000000 in
theorem catchPW_panicking (n b : Nat) (x e : Int) (older : List PanicEntry) (w : World) (hb : w.heap[b]? = some (.cells #[.int .i64 x] 34 (0, 0))) :
    CallsDIn Fence.wide n Try.prog 34 #[.pointer (some ⟨b, 0, none⟩)] (.panicking (failV e :: older)) w fun en u' w' =>
      en = .returned (.tuple #[]) ∧ u' = .panicking ({ v := .iface 101 (.agg #[.int .i64 e]), recovered := true } :: older) ∧ w'.heap[b]? = some (.cells #[.int .i64 e] 34 (0, 0)) ∧ Kept (fun k => k = b) w w' := by
  refine callsDW_of_wpS Try.func34 rfl fun c₀ cs hu => ?_
  have hfail : failV e = { v := .iface 101 (.agg #[.int .i64 e]), recovered := false } := rfl
  rw [hfail] at hu
  apply wpS_region
  simp [wpOpsS, go_sem, recoverD, hu, Try.ntmps34, Oper.upon]
  refine (caught_fail b x e w hb).mono ?_
  rintro en w1 ⟨rfl, h1, h2⟩
  simp [bodyPostS, results, Try.f34, go_sem]
  exact ⟨h1, h2⟩
set_option maxHeartbeats 1000000 in
theorem catchPW_idle (n b : Nat) (w : World) :
    CallsDIn Fence.wide n Try.prog 34 #[.pointer (some ⟨b, 0, none⟩)] .returning w fun en u' w' => en = .returned (.tuple #[]) ∧ u' = .returning ∧ w' = w := by
  refine callsDW_of_wpS Try.func34 rfl fun c₀ cs hu => ?_
  apply wpS_region
  simp [wpOpsS, go_sem, recoverD, hu, Try.ntmps34, Oper.upon]
  refine (caught_nil ⟨b, 0, none⟩ w).mono ?_
  rintro en w1 ⟨rfl, rfl⟩
  cases c₀
  simp_all [bodyPostS, results, Try.f34, go_sem]
/-- A frame that bears a mark, and below it a deferred call. -/
theorem leaves_mark {P : Program} {fn : Func} {R : Ending → World → Prop} {tmps : Array Value} {w : World} {D : Nat} {ds : List Deferred} {u : FrameMode} (hu : u ≠ .run) (hD : w.heap[D]? = some (.deferred (some [])))
    (h : LeavesInM Fence.wide 0 P fn tmps R ds u (w.putObj D (.deferred none))) : LeavesInM Fence.wide 0 P fn tmps R ({ target := .collected D, args := #[] } :: ds) u w :=
  ⟨hu, .inl ⟨D, _, rfl, run_takeDeferred hD, h⟩⟩
theorem leaves_call {P : Program} {fn : Func} {R : Ending → World → Prop} {tmps : Array Value} {w : World} {fv : Fn} {cap dargs args : Array Value} {f : FuncId} {ds : List Deferred} {u : FrameMode} (hu : u ≠ .run) (hi : (invoke (.fn fv cap) dargs).run P w = .ok (.enter f args) w)
    (h : CallsDIn Fence.wide 0 P f args u w fun
      | .returned _, u', w' => LeavesInM Fence.wide 0 P fn tmps R ds (settle u') w'
      | .panicked chain, u', w' => LeavesInM Fence.wide 0 P fn tmps R ds (raised u' chain) w'
      | .outgrown, _, w' => R .outgrown w') : LeavesInM Fence.wide 0 P fn tmps R ({ target := .fn fv cap, args := dargs } :: ds) u w :=
  ⟨hu, .inr ⟨fun h => by simp [Fence.wide] at h, fv, cap, f, args, rfl, hi, fun _ _ => trivial, h⟩⟩
end Go.Proofs.Ytpnfpdkoeednhaa

end

