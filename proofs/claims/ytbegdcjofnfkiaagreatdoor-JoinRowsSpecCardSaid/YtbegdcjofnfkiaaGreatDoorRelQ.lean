/- As RelJ; what stands ahead of every weak operation may lean on all that lay there at the region's start (printed by tools/genrelq.py out of RelJ). Over any program. -/
import Derived.Test.YtbegdcjofnfkiaaGreatDoorRelJ
import Derived.Test.YtbegdcjofnfkiaaGreatDoorM3
namespace Go.Proofs.YtbegdcjofnfkiaaGreatDoor
open Go.RowKit
section
variable {P : Program} {ops : Array Oper} {n : Nat} {wk : Bool} {weak frag : Nat → Bool}
/-- What is strong stands ahead of every weak operation. -/
def strongB (ops : Array Oper) (weak strong : Nat → Bool) : Bool := (List.range ops.size).all fun k => !strong k || (List.range ops.size).all fun i => !weak i || i == k || behind ops 13 k i
theorem strongB_spec {strong : Nat → Bool} (h : strongB ops weak strong = true) {k p : Nat} (hs : strong k = true) (hp : weak p = true) (hk : k < ops.size) (hpl : p < ops.size) : p = k ∨ behind ops 13 k p = true := by
  simp only [strongB, List.all_eq_true, List.mem_range, Bool.or_eq_true, Bool.not_eq_true', beq_iff_eq] at h
  rcases h k hk with h1 | h1
  · rw [hs] at h1; cases h1
  · rcases h1 p hpl with (h2 | h2) | h2
    · rw [hp] at h2; cases h2
    · exact .inl h2
    · exact .inr h2
def wpRelQ (P : Program) (ops : Array Oper) (n : Nat) (weak frag strong : Nat → Bool) (Cs C : World → Prop) (Q : Act → World → Prop) (a0 : Act) : List (Oper × VT) → List Oper → Prop
  | done, [] => fin Q (lost weak frag ops.size) 0 done a0 C
  | done, o :: rest => ∃ T : VT, (frag done.length = true → T.Stable) ∧ (frag done.length = false → T.Robust n) ∧ obl P ops n (weak done.length) T o done a0 (if strong done.length = true then Cs else C) ∧ wpRelQ P ops n weak frag strong Cs C Q a0 (done ++ [(o, T)]) rest
theorem wpRelQ_all {strong : Nat → Bool} {C Cs : World → Prop} {Q : Act → World → Prop} {a0 : Act} : ∀ (rest : List Oper) (done : List (Oper × VT)), wpRelQ P ops n weak frag strong Cs C Q a0 done rest →
    ∃ D : List (Oper × VT), D.map (·.1) = done.map (·.1) ++ rest ∧ D.take done.length = done ∧ (∀ (k : Nat) (o : Oper) (T : VT), done.length ≤ k → D[k]? = some (o, T) → (frag k = true → T.Stable) ∧ (frag k = false → T.Robust n) ∧ obl P ops n (weak k) T o (D.take k) a0 (if strong k = true then Cs else C)) ∧ fin Q (lost weak frag ops.size) 0 D a0 C
  | [], done, h => ⟨done, by simp, by simp, ⟨fun k o T hk hD => (by rw [List.getElem?_eq_none hk] at hD; cases hD), h⟩⟩
  | o :: rest, done, ⟨T, hT, hT', ho, h⟩ => by
    obtain ⟨D, h1, h2, h3, h4⟩ := wpRelQ_all rest _ h
    have hlen : (done ++ [(o, T)]).length = done.length + 1 := by simp
    rw [hlen] at h2 h3
    have hd : D.take done.length = done := by
      have := congrArg (List.take done.length) h2
      rw [List.take_take, Nat.min_eq_left (by omega)] at this
      rw [this]
      simp
    refine ⟨D, by rw [h1]; simp, hd, fun k o' T' hk hD => ?_, h4⟩
    rcases Nat.lt_or_ge done.length k with hlt | hge
    · exact h3 k o' T' (by omega) hD
    · obtain rfl : k = done.length := by omega
      have he : D[done.length]? = some (o, T) := by
        have := congrArg (fun l => l[done.length]?) h2
        simp only [List.getElem?_take] at this
        rw [if_pos (by omega)] at this
        rw [this]
        simp
      rw [he] at hD
      injection hD with hD
      injection hD with e1 e2
      subst e1 e2
      rw [hd]
      exact ⟨hT, hT', ho⟩

theorem wpAny_of_relQ {strong : Nat → Bool} {C Cs : World → Prop} {Q : Exit → Act → World → Prop} {a0 : Act} {D : List (Oper × VT)} (hl : D.map (·.1) = ops.toList) (hB : relB ops = true) (hkB : killJ ops weak frag = true) (hsB : strongB ops weak strong = true) (hCs : ∀ w w', Cs w → Below w.heap.size w w' → Cs w') (hC : ∀ w w', C w → Below n w w' → C w') (hCn : ∀ w, C w → n ≤ w.heap.size)
    (ho : ∀ (k : Nat) (o : Oper) (T : VT), D[k]? = some (o, T) → (frag k = true → T.Stable) ∧ (frag k = false → T.Robust n) ∧ obl P ops n (weak k) T o (D.take k) a0 (if strong k = true then Cs else C)) (hf : fin (fun a w => Q .normal a w) (lost weak frag ops.size) 0 D a0 C) :
    ∀ (fuel : Nat) (listed : Array Bool) (vs : Nat → Value) (w : World), listed.size = ops.size → unl ops.size listed ≤ fuel →
      (∀ (j : Nat) (oj : Oper), ops[j]? = some oj → listed.getD j false = true → ∀ e ∈ oj.after, Region.binds .any e = true → listed.getD e.on false = true) →
      (∀ (j : Nat) (o : Oper) (T : VT), D[j]? = some (o, T) → listed.getD j false = true → ¬ killed weak frag ops.size listed j → T (vs j) w) → C w → ((∀ i, weak i = true → listed.getD i false = false) → Cs w) →
      wpAny P .any ops Q fuel listed (fillL (fun j => listed.getD j false) vs 0 ops.toList a0) w := by
  obtain ⟨hsel0, hB⟩ := relB_spec hB
  have hsel := Region.noSelect_spec hsel0
  have hD : ∀ (k : Nat) (o : Oper), ops[k]? = some o → ∃ T : VT, D[k]? = some (o, T) := by
    intro k o hk
    have h1 : (D.map (·.1))[k]? = some o := by rw [hl]; simpa using hk
    rw [List.getElem?_map] at h1
    cases hd : D[k]? with
    | none => rw [hd] at h1; simp at h1
    | some x =>
      rw [hd] at h1
      simp at h1
      exact ⟨x.2, by rw [← h1]⟩
  have hdone : ∀ (listed : Array Bool) (vs : Nat → Value) (w : World), listed.size = ops.size → (∀ (j : Nat) (o : Oper) (T : VT), D[j]? = some (o, T) → listed.getD j false = true → ¬ killed weak frag ops.size listed j → T (vs j) w) → C w → Region.ready .any ops listed = [] →
      Q .normal (fillL (fun j => listed.getD j false) vs 0 ops.toList a0) w := by
    intro listed vs w hsz hT hCw hr
    have hall : ∀ j, j < ops.size → listed.getD j false = true := by
      intro j
      induction j using Nat.strongRecOn with
      | ind j ih =>
        intro hj
        cases hb : listed.getD j false with
        | true => rfl
        | false =>
          exfalso
          have hm : j ∈ Region.ready .any ops listed := by
            rw [mem_ready]
            have hjl : j < listed.size := by omega
            refine ⟨by simpa [hjl] using hb, ops[j], Array.getElem?_eq_getElem hj, fun e he hbd => ?_⟩
            have hlt := (hB j ops[j] (Array.getElem?_eq_getElem hj)).1 e he hbd
            exact ih e.on hlt (by omega)
          rw [hr] at hm
          cases hm
    rw [← hl]
    refine fin_use vs D 0 a0 C hf hCw fun j x hj => ?_
    have hj' : j < ops.size := by
      have h1 := (List.getElem?_eq_some_iff.1 hj).1
      have h2 := congrArg List.length hl
      simp at h2
      omega
    rw [Nat.zero_add]
    refine ⟨hall j hj', fun hd => hT j x.1 x.2 hj (hall j hj') ?_⟩
    rintro ⟨hfr, i, hi, hw, hji, _⟩
    have : lost weak frag ops.size j = true := by
      simp only [lost, hfr, Bool.true_and, List.any_eq_true, List.mem_range]
      exact ⟨i, hi, by simp [hw, hji]⟩
    rw [this] at hd
    cases hd
  intro fuel
  induction fuel with
  | zero =>
    intro listed vs w hsz hfu _ hT hCw _
    have hr : Region.ready .any ops listed = [] := by
      cases hr : Region.ready .any ops listed with
      | nil => rfl
      | cons i rs =>
        have hi : i ∈ Region.ready .any ops listed := by rw [hr]; simp
        obtain ⟨h0, o, ho', _⟩ := mem_ready.1 hi
        have := unl_set hsz (Array.getElem?_eq_some_iff.1 ho').1 h0
        omega
    exact ⟨hr, hdone listed vs w hsz hT hCw hr⟩
  | succ fuel ih =>
    intro listed vs w hsz hfu hcl hT hCw hSw
    refine ⟨hdone listed vs w hsz hT hCw, fun i hi => ?_⟩
    obtain ⟨h0, oi, hoi, hdeps⟩ := mem_ready.1 hi
    have hilt := (Array.getElem?_eq_some_iff.1 hoi).1
    have hioff : listed.getD i false = false := by
      have : i < listed.size := by omega
      simpa [this] using h0
    obtain ⟨T, hDi⟩ := hD i oi hoi
    obtain ⟨_, _, hob⟩ := ho i oi T hDi
    -- an operation that is listed and later is apart
    have hlater : ∀ j oj, ops[j]? = some oj → i < j → listed.getD j false = true → oi.apart ops oj = true := fun j oj hj hij hon => by
      rcases (hB j oj hj).2 i oi hij hoi with ⟨e, he, hb, hon'⟩ | h
      · have := hcl j oj hj hon e he hb
        rw [hon', hioff] at this
        cases this
      · exact h
    have hearlier : ∀ j oj, ops[j]? = some oj → j < i → oj.apart ops oi = false → listed.getD j false = true := fun j oj hj hij hna => by
      rcases (hB i oi hoi).2 j oj hij hj with ⟨e, he, hb, hon'⟩ | h
      · have := hdeps e he hb
        rwa [hon'] at this
      · rw [h] at hna; cases hna
    have hCi : (if strong i = true then Cs else C) w := by
      split
      · rename_i hsi
        refine hSw fun p hp => ?_
        rcases hb : listed.getD p false with _ | _
        · rfl
        · exfalso
          rcases Nat.lt_or_ge p ops.size with hps | hps
          · rcases strongB_spec hsB hsi hp hilt hps with rfl | hbe
            · rw [hioff] at hb; cases hb
            · have := behind_listed (listed := fun j => listed.getD j false) hcl 13 i p _ (Array.getElem?_eq_getElem hps) (fun e he hbd => hcl p _ (Array.getElem?_eq_getElem hps) hb e he hbd) hbe
              rw [hioff] at this; cases this
          · have : listed.size ≤ p := by omega
            rw [show listed.getD p false = false by simp [Array.getElem?_eq_none this]] at hb; cases hb
      · exact hCw
    have hused := obl_use (w := w) vs (D.take i) 0 a0 _ hob hCi (fun j x hj hna => by
      rw [Nat.zero_add]
      rw [List.getElem?_take] at hj
      split at hj
      · rename_i hji
        have hoj : ops[j]? = some x.1 := by
          have h1 := congrArg (fun l => l[j]?) hl
          simp only [List.getElem?_map, hj, Option.map_some] at h1
          simpa using h1.symm
        refine hT j x.1 x.2 hj (hearlier j x.1 hoj hji hna) ?_
        rintro ⟨hfr, i', hi', hw, hji', hon'⟩
        rcases (killJ_spec hkB (Array.getElem?_eq_getElem hi') hoj hw hfr).1 hji' i oi hoi hji hna with e | e1
        · rw [← e, hioff] at hon'; cases hon'
        · have e2 := must_listed hB hcl 2 i' i e1 hon'
          rw [hioff] at e2; cases e2
      · cases hj)
    have hrel : relAt P ops n (weak i) T oi (fillL (fun j => listed.getD j false) vs 0 ops.toList a0) w := by
      refine Agree.rel (hsel i oi · · hoi) ?_ hused
      -- the frame with what is read, and the whole one
      have hsplit : ops.toList = (D.take i).map (·.1) ++ ops.toList.drop i := by
        rw [← hl, List.map_take, List.take_append_drop]
      have hfa : ∀ (on : Nat → Bool) (l1 l2 : List Oper) (k : Nat) (a : Act), fillL on vs k (l1 ++ l2) a = fillL on vs (k + l1.length) l2 (fillL on vs k l1 a) := by
        intro on l1
        induction l1 with
        | nil => intro l2 k a; rfl
        | cons x l1 ih => intro l2 k a; simp only [List.cons_append, fillL, List.length_cons]; rw [ih]; congr 1; omega
      have hlen : ((D.take i).map (·.1)).length = i := by
        have h2 := congrArg List.length hl
        simp at h2
        simp
        omega
      have h1 : Agree ops oi (fillL (fun j => match (D.take i)[j - 0]? with | some x => !x.1.apart ops oi | none => false) vs 0 ((D.take i).map (·.1)) a0) (fillL (fun j => listed.getD j false) vs 0 ((D.take i).map (·.1)) a0) := by
        refine fillL_agree _ _ _ _ (Agree.refl _ _) fun j oj hj hne x hx => ?_
        rw [List.getElem?_map] at hj
        cases hd : (D.take i)[j]? with
        | none => rw [hd] at hj; simp at hj
        | some y =>
          rw [hd] at hj
          simp at hj
          subst hj
          have hji : j < i := by
            have := (List.getElem?_eq_some_iff.1 hd).1
            simp at this
            omega
          rw [List.getElem?_take, if_pos hji] at hd
          have hoj : ops[j]? = some y.1 := by
            have h1 := congrArg (fun l => l[j]?) hl
            simp only [List.getElem?_map, hd, Option.map_some] at h1
            simpa using h1.symm
          have hyy : (D.take i)[j]? = some y := by rw [List.getElem?_take, if_pos hji]; exact hd
          simp only [Nat.zero_add, Nat.sub_zero, hyy] at hne
          cases hap : y.1.apart ops oi with
          | true => exact (Oper.apart_spec hap).1 x hx
          | false =>
            rw [hap, hearlier j y.1 hoj hji hap] at hne
            exact absurd rfl hne
      rw [hsplit, hfa, hlen]
      have h2 : ∀ (l : List Oper) (k : Nat) (a : Act), (∀ j oj, l[j]? = some oj → listed.getD (k + j) false = true → ∀ x, oj.dst = some x → x ∉ oi.looksAt ops) → Agree ops oi a (fillL (fun j => listed.getD j false) vs k l a) := by
        intro l k a hh
        have := fillL_agree (ops := ops) (o := oi) (on := fun _ => false) (on' := fun j => listed.getD j false) (vs := vs) l k a a (Agree.refl _ _) (fun j oj hj hne x hx => hh j oj hj (by
          cases hb : listed.getD (k + j) false with
          | true => rfl
          | false => exact absurd hb.symm hne) x hx)
        have hz : ∀ (l : List Oper) (k : Nat) (a : Act), fillL (fun _ => false) vs k l a = a := by
          intro l
          induction l with
          | nil => intro k a; rfl
          | cons o l ih => intro k a; simp only [fillL, Bool.false_eq_true, if_false]; exact ih _ _
        rwa [hz] at this
      refine fun t ht => (h1 t ht).trans (h2 (ops.toList.drop i) (0 + i) _ (fun j oj hj hon x hx => ?_) t ht)
      rw [List.getElem?_drop] at hj
      have hoj : ops[i + j]? = some oj := by simpa using hj
      rw [Nat.zero_add] at hon
      rcases Nat.eq_zero_or_pos j with rfl | hpos
      · rw [Nat.add_zero, hioff] at hon; cases hon
      · exact (Oper.apart_spec (hlater (i + j) oj hoj (by omega) hon)).2.2 x hx
    -- the step
    have next : ∀ v w', Below (reach n (weak i) w) w w' → T v w' → wpAny P .any ops Q fuel (listed.setIfInBounds i true) ((fillL (fun j => listed.getD j false) vs 0 ops.toList a0).put oi.dst v) w' := by
      intro v w' hb hv
      have hbn : Below n w w' := hb.mono (by unfold reach; split; exact Nat.le_refl _; exact hCn w hCw)
      rw [fillL_set (i := i) (oi := oi) ops.toList 0 a0 (Nat.zero_le _) (by simpa using hoi) hioff (fun j oj hj hij hon x hx => by
        rw [Nat.zero_add] at hij hon
        exact (Oper.apart_spec (hlater j oj (by simpa using hj) hij hon)).2.1 x hx)]
      have hset : ∀ j, j < ops.size → (j == i || listed.getD j false) = (listed.setIfInBounds i true).getD j false := by
        intro j hj
        by_cases hji : j = i
        · subst hji
          have : j < listed.size := by omega
          simp [this]
        · rw [getD_set_ne false (Ne.symm hji)]
          simp [hji]
      rw [fillL_ext (on' := fun j => (listed.setIfInBounds i true).getD j false) (vs' := fun j => if j = i then v else vs j) ops.toList 0 a0 (fun j _ hj => ⟨hset j (by simpa using hj), fun _ => rfl⟩)]
      refine ih _ _ w' (by simpa using hsz) (by have := unl_set hsz hilt h0; omega) (fun j oj hj hon e he hbd => ?_) (fun j o T' hj hon hnk => ?_) (hC w w' hCw hbn) (fun hno => ?_)
      · by_cases hji : j = i
        · subst hji
          rw [hoi] at hj
          injection hj with hj
          subst hj
          exact getD_set_true (hdeps e he hbd)
        · rw [getD_set_ne false (Ne.symm hji)] at hon
          exact getD_set_true (hcl j oj hj hon e he hbd)
      · by_cases hji : j = i
        · subst hji
          rw [hDi] at hj
          injection hj with hj
          injection hj with e1 e2
          subst e1 e2
          simpa using hv
        · rw [getD_set_ne false (Ne.symm hji)] at hon
          simp only [if_neg hji]
          have hjlt : j < ops.size := by
            have h1 := (List.getElem?_eq_some_iff.1 hj).1
            have h2 := congrArg List.length hl
            simp at h2
            omega
          have hTj := hT j o T' hj hon (fun ⟨hfr, i', hi', hw, hji', hon'⟩ => hnk ⟨hfr, i', hi', hw, hji', getD_set_true hon'⟩)
          cases hfr : frag j with
          | false => exact (ho j o T' hj).2.1 hfr _ _ _ (hCn w hCw) hbn hTj
          | true =>
            cases hwi : weak i with
            | false =>
              rw [hwi] at hb
              exact (ho j o T' hj).1 hfr _ _ _ hb hTj
            | true =>
              exfalso
              have hil : i < listed.size := by omega
              rcases Nat.lt_or_ge j i with hlt | hge
              · exact hnk ⟨hfr, i, hilt, hwi, hlt, by simp [hil]⟩
              · have hij : i < j := by omega
                rcases (killJ_spec hkB hoi (Array.getElem?_eq_getElem hjlt) hwi hfr).2 hij with e2 | ⟨e, he, hb', hon'⟩
                · rw [hlater j _ (Array.getElem?_eq_getElem hjlt) hij hon] at e2
                  cases e2
                · have := hcl j _ (Array.getElem?_eq_getElem hjlt) hon e he hb'
                  rw [hon', hioff] at this
                  cases this
      · have hwi : weak i = false := by
          rcases hwi : weak i with _ | _
          · rfl
          · exfalso
            have h8 := hno i hwi
            have h7 : i < listed.size := by omega
            have h6 : (listed.setIfInBounds i true).getD i false = true := by simp [h7]
            rw [h6] at h8
            cases h8
        rw [hwi] at hb
        refine hCs w w' (hSw fun p hp => ?_) hb
        have h9 := hno p hp
        by_cases hpi : p = i
        · subst hpi; rw [hwi] at hp; cases hp
        · rwa [getD_set_ne false (Ne.symm hpi)] at h9
    unfold wpOp
    simp only [hoi]
    unfold relAt at hrel
    split
    · rename_i hw
      rw [if_pos hw] at hrel
      refine .inl ?_
      unfold Oper.wp
      generalize (execOp (fillL (fun j => listed.getD j false) vs 0 ops.toList a0).eval oi).run P w = r at hrel
      cases r with
      | ok n w' =>
        cases n <;> simp only [relUpon] at hrel <;> simp only [Oper.upon]
        case value u => exact next u w' hrel.1 hrel.2
        case skip => exact next undef w' hrel.1 hrel.2
        case enter f args =>
          exact hrel.mono fun e w'' ⟨v, he, h1, h2⟩ => by subst he; exact next v w'' h1 h2
      | halt x w' => simp only [relUpon] at hrel
    · rename_i hw
      rw [if_neg hw] at hrel
      exact next undef w (Below.refl _ _) hrel

/-- **A region that draws: what is told of each value; what must stand ahead of every weak operation leans on the memory as it lay.** -/
theorem wp_region_relQ {id : Nat} {Q : Exit → Act → World → Prop} {a : Act} {w : World} {l : List Oper} (n : Nat) (weak frag strong : Nat → Bool) (hn : n ≤ w.heap.size) (hm : P.follows .mixedOrders = true) (hB : relB l.toArray = true) (hkB : killJ l.toArray weak frag = true) (hsB : strongB l.toArray weak strong = true)
    (h : wpRelQ P l.toArray n weak frag strong (Below w.heap.size w) (Below n w) (fun a' w' => Q .normal a' w') a [] l) : (Code.region id l.toArray true).wp P Q a w := by
  obtain ⟨D, h1, _, h3, h4⟩ := wpRelQ_all l [] h
  refine wp_region_any hm ?_
  have := wpAny_of_relQ (Q := Q) (ops := l.toArray) (D := D) (a0 := a) (C := Below n w) (Cs := Below w.heap.size w) (strong := strong) (by simpa using h1) hB hkB hsB (fun w1 w2 hb hb' => hb.trans (hb'.mono hb.size)) (fun w1 w2 hb hb' => hb.trans hb') (fun w1 hb => Nat.le_trans hn hb.size)
    (fun k o T hk => h3 k o T (Nat.zero_le _) hk) h4 l.toArray.size (Array.replicate l.toArray.size false) (fun _ => undef) { w with drawn := w.drawn + 1 } (by simp)
    (by unfold unl; exact Nat.le_trans (List.length_filter_le _ _) (by simp)) (fun j oj _ hon => by rw [getD_rep] at hon; cases hon) (fun j o T _ hon _ => by rw [getD_rep] at hon; cases hon) ⟨rfl, rfl, rfl, Nat.le_refl _, fun _ _ => rfl⟩ (fun _ => ⟨rfl, rfl, rfl, Nat.le_refl _, fun _ _ => rfl⟩)
  have hz : ∀ (l : List Oper) (on : Nat → Bool) (k : Nat) (a : Act), (∀ j, on j = false) → fillL on (fun _ => undef) k l a = a := by
    intro l on
    induction l with
    | nil => intro k a _; rfl
    | cons o l ih => intro k a hon; simp only [fillL, hon, Bool.false_eq_true, if_false]; exact ih _ _ hon
  rwa [hz _ _ _ _ (fun j => getD_rep _ _)] at this
variable {C Cs : World → Prop} {Q : Act → World → Prop} {a0 : Act} {done : List (Oper × VT)} {later : List Oper} {o : Oper} {strong : Nat → Bool}
theorem relQ_det {x : Value} (h : obl P ops n (weak done.length) (IsV x) o done a0 (if strong done.length = true then Cs else C)) (hr : wpRelQ P ops n weak frag strong Cs C Q a0 (done ++ [(o, IsV x)]) later) : wpRelQ P ops n weak frag strong Cs C Q a0 done (o :: later) := ⟨_, fun _ => IsV.stable x, fun _ => IsV.robust n x, h, hr⟩
theorem relQ_any (T : VT) (hf : frag done.length = true) (hT : T.Stable) (h : obl P ops n (weak done.length) T o done a0 (if strong done.length = true then Cs else C)) (hr : wpRelQ P ops n weak frag strong Cs C Q a0 (done ++ [(o, T)]) later) : wpRelQ P ops n weak frag strong Cs C Q a0 done (o :: later) := ⟨T, fun _ => hT, fun h' => (by rw [hf] at h'; cases h'), h, hr⟩
end
end Go.Proofs.YtbegdcjofnfkiaaGreatDoor
