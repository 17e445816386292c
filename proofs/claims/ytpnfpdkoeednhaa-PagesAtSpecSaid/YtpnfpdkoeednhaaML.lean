/- Several texts in one: AP7 AP8 AP9. -/
import Derived.Test.YtpnfpdkoeednhaaAP6
import Derived.Test.YtpnfpdkoeednhaaA29
section
/- Pages, plainly: what filling takes in does not hang on the order; versions show what was put so far. -/
namespace Go.Proofs.Ytpnfpdkoeednhaa
open Go.RowKit

/-- What the order of the index looks at. -/
def tkF (f : Fc) : Ky × Int × Int := (f.key, f.known, f.no)
theorem tkF_iff {x f : Fc} : tkF x = tkF f ↔ x.key.kind = f.key.kind ∧ x.key.subj = f.key.subj ∧ x.key.obj = f.key.obj ∧ x.known = f.known ∧ x.no = f.no := by
  obtain ⟨⟨a, b, c⟩, _, _, _, _, _⟩ := x
  obtain ⟨⟨a', b', c'⟩, _, _, _, _, _⟩ := f
  simp [tkF]
  constructor
  · rintro ⟨⟨h1, h2, h3⟩, h4, h5⟩; exact ⟨h1, h2, h3, h4, h5⟩
  · rintro ⟨h1, h2, h3, h4, h5⟩; exact ⟨⟨h1, h2, h3⟩, h4, h5⟩
theorem tk_comp {x f : Fc} : (ltP x f = true ∨ ltP f x = true) ↔ tkF x ≠ tkF f := by
  rw [Ne, tkF_iff, ltP_iff, ltP_iff]; omega
theorem comp_acc {st : Fst} (h : Finv st) {f : Fc} : putE st.ps st.roots f = 0 ↔ f.ok = true ∧ tkF f ∉ st.acc.map tkF := by
  rw [putE_zero]
  constructor
  · rintro ⟨_, h2, h3⟩
    refine ⟨h2, fun hm => ?_⟩
    obtain ⟨x, hx, he⟩ := List.mem_map.1 hm
    exact tk_comp.1 (h3 x (h.lastAll.mem_iff.2 hx)) he
  · rintro ⟨h2, h3⟩
    refine ⟨h.check, h2, fun x hx => tk_comp.2 fun e => h3 ?_⟩
    exact List.mem_map.2 ⟨x, h.lastAll.mem_iff.1 hx, e⟩
theorem fill_ind {P : List Fc → Fst → Prop} (h0 : P [] fst0) (hs : ∀ pre st f, Finv st → P pre st → P (pre ++ [f]) (stepF st f)) (l : List Fc) : P l (fillF l) := by
  have : ∀ (l : List Fc) (pre : List Fc) (st : Fst), Finv st → P pre st → P (pre ++ l) (l.foldl stepF st) := by
    intro l
    induction l with
    | nil => intro pre st _ h; simpa using h
    | cons f l ih =>
      intro pre st hi h
      have := ih (pre ++ [f]) (stepF st f) (hi.step f) (hs pre st f hi h)
      simpa using this
  exact this l [] fst0 Finv.zero h0
theorem fill_set (l : List Fc) : ((fillF l).acc.map tkF).Nodup ∧ ∀ t, t ∈ (fillF l).acc.map tkF ↔ t ∈ (l.filter (·.ok)).map tkF := by
  refine fill_ind (P := fun pre st => (st.acc.map tkF).Nodup ∧ ∀ t, t ∈ st.acc.map tkF ↔ t ∈ (pre.filter (·.ok)).map tkF) ⟨List.nodup_nil, fun t => Iff.rfl⟩ (fun pre st f hi ⟨h1, h2⟩ => ?_) l
  unfold stepF
  split
  · rename_i he
    obtain ⟨ho, hn⟩ := (comp_acc hi).1 he
    refine ⟨?_, fun t => ?_⟩
    · rw [List.map_append, List.nodup_append]
      refine ⟨h1, by simp, fun a ha b hb e => ?_⟩
      simp at hb
      subst hb
      exact hn (e ▸ ha)
    · rw [List.map_append, List.filter_append, List.map_append, List.mem_append, List.mem_append, h2]
      simp [ho]
  · rename_i he
    refine ⟨h1, fun t => ?_⟩
    rw [List.filter_append, List.map_append, List.mem_append, h2]
    by_cases ho : f.ok = true
    · have hm : tkF f ∈ st.acc.map tkF := by
        rcases Decidable.em (tkF f ∈ st.acc.map tkF) with h | h
        · exact h
        · exact absurd ((comp_acc hi).2 ⟨ho, h⟩) he
      rw [h2] at hm
      constructor
      · exact Or.inl
      · rintro (h | h)
        · exact h
        · simp [ho] at h
          subst h
          exact hm
    · simp [ho]
/-- The count does not hang on the order. -/
theorem fill_count {l l' : List Fc} (h : l.Perm l') : (fillF l).acc.length = (fillF l').acc.length := by
  have h1 := fill_set l
  have h2 := fill_set l'
  have hp : ((fillF l).acc.map tkF).Perm ((fillF l').acc.map tkF) := (List.perm_ext_iff_of_nodup h1.1 h2.1).2 fun t => by
    rw [h1.2, h2.2]
    exact ((h.filter _).map _).mem_iff
  simpa using hp.length_eq
theorem str_eq {a b : List Fc} (ha : StrP a) (hb : StrP b) (h : a.Perm b) : a = b :=
  h.eq_of_pairwise (fun x y _ _ h1 h2 => by rw [ltP_asymm h1] at h2; cases h2) ha hb
/-- A version shows what was put so far. -/
theorem all_ver {st : Fst} (h : Finv st) (v : Nat) (hv : v ≤ st.acc.length) : verB st.ps st.roots v = true ∧ StrP (allB st.ps st.roots v) ∧ (allB st.ps st.roots v).Perm (st.acc.take v) := by
  have hl := h.len
  obtain ⟨r, hr⟩ : ∃ r, st.roots[v]? = some r := ⟨_, List.getElem?_eq_getElem (by omega)⟩
  obtain ⟨h1, ⟨d, hG⟩, hp⟩ := h.all v r hr
  have hb : verB st.ps st.roots v = true := by
    unfold verB
    rw [h.check]
    simp
    omega
  have hz : verZ st.ps st.roots v = r := by
    unfold verZ
    rw [if_pos hb, List.getD_eq_getElem?_getD, Int.toNat_natCast, hr]; rfl
  have ha : allB st.ps st.roots v = allT st.ps r.toNat := by
    unfold allB; rw [if_pos hb, hz]
  rw [ha]
  exact ⟨hb, hG.2.2, hp⟩
/-- Two orders lead to the same facts. -/
theorem fill_turn {l l' : List Fc} (h : l.Perm l') (hn : (fillF l).acc.length = l.length) :
    allB (fillF l).ps (fillF l).roots (fillF l).acc.length = allB (fillF l').ps (fillF l').roots (fillF l').acc.length := by
  have h1 := fill_full hn
  have hn' : (fillF l').acc.length = l'.length := by rw [← fill_count h, hn, h.length_eq]
  have h2 := fill_full hn'
  have a := all_ver (fill_inv l) _ (Nat.le_refl _)
  have b := all_ver (fill_inv l') _ (Nat.le_refl _)
  refine str_eq a.2.1 b.2.1 (a.2.2.trans (List.Perm.trans ?_ b.2.2.symm))
  rw [List.take_of_length_le (Nat.le_refl _), List.take_of_length_le (Nat.le_refl _), h1, h2]
  exact h
end Go.Proofs.Ytpnfpdkoeednhaa

end
section
/- Pages that facts were put into: how many; they lie in no box of empty pages. -/
namespace Go.Proofs.Ytpnfpdkoeednhaa
open Go.RowKit Go.Shelf

theorem fill_many (l : List Fc) : (fillF l).acc.length + 1 ≤ (fillF l).ps.length := by
  refine fill_ind (P := fun _ st => st.acc.length + 1 ≤ st.ps.length) (Nat.le_refl _) (fun pre st f hi h => ?_) l
  unfold stepF
  split
  · rename_i he
    obtain ⟨_, h2, h3⟩ := putE_zero.1 he
    obtain ⟨d, hd, hG⟩ := hi.last
    obtain ⟨new, d', e, n1, n2, _⟩ := put_lawD hG h2 h3
    dsimp only
    rw [e, List.length_append, List.length_append, List.length_singleton]
    omega
  · exact h
theorem rows_cell0 {α : Type} {k n c : Nat} {enc : α → List Value} {A : Option Addr} {l : List α} {w : World} {N x off : Nat} {u : Value} (h : Rows k (Rep.flat enc) w N A n c l) (hA : A = some ⟨x, off, none⟩) (i j : Nat) (a : α) (hi : l[i]? = some a) (hj : (enc a)[j]? = some u) : w.cell? ⟨x, off + i * k + j, none⟩ = some u := by
  have hn : 0 < n := by rw [h.1]; have := (List.getElem?_eq_some_iff.1 hi).1; omega
  obtain ⟨b, off', e, _, hx⟩ := h.2.2.2 hn
  rw [hA] at e
  cases e
  obtain ⟨cs, hr, hc⟩ := hx i a hi
  have hcs : cs = enc a := hr
  subst hcs
  exact hc j u hj
theorem head_of {α : Type} {n : Nat} {l : List α} (h : n = l.length) (hn : 0 < n) : ∃ a, l[0]? = some a := ⟨_, List.getElem?_eq_getElem (by omega)⟩
/-- Pages whose blocks are kept. -/
theorem PsIn.stay {s : Ps} {w w' : World} (h : PsIn s w w.heap.size) (hz : w.heap.size ≤ w'.heap.size) (hX : ∀ x, PsBl s x → w'.heap[x]? = w.heap[x]?) : PsIn s w' w'.heap.size := by
  have hb : ∀ {α : Type} {k : Nat} {enc : α → List Value} {n c : Nat} {A : Option Addr} {l : List α}, Rows k (Rep.flat enc) w w.heap.size A n c l → (∀ x off, 0 < n → A = some ⟨x, off, none⟩ → w'.heap[x]? = w.heap[x]?) → Rows k (Rep.flat enc) w' w'.heap.size A n c l := fun hr hx =>
    rows_at hr fun hn b off e => by
      obtain ⟨b2, o2, e2, hlt, _⟩ := hr.2.2.2 hn
      rw [e] at e2; cases e2
      exact ⟨Nat.lt_of_lt_of_le hlt hz, hx b off hn e⟩
  exact ⟨hb h.pages fun x off hn e => hX x (.inl ⟨hn, off, e⟩), fun g hg => ⟨hb (h.each g hg).1 fun x off hn e => hX x (.inr (.inr ⟨g, hg, .inl ⟨hn, off, e⟩⟩)), hb (h.each g hg).2 fun x off hn e => hX x (.inr (.inr ⟨g, hg, .inr ⟨hn, off, e⟩⟩))⟩, hb h.roots fun x off hn e => hX x (.inr (.inl ⟨hn, off, e⟩))⟩
/-- What a row of facts of one's own leaves as it lay. -/
def RF (wd a b : World) : Prop := Below wd.heap.size a b ∧ ∀ (x : Nat) (cs : Array Value) (t : TypeId), a.heap[x]? = some (.cells cs t (0, 0)) → t ≠ 31 → b.heap[x]? = some (.cells cs t (0, 0))
theorem RF.tr {wd : World} : ∀ a b c, RF wd a b → RF wd b c → RF wd a c := fun _ _ _ h k => ⟨h.1.trans k.1, fun x cs t e ht => k.2 x cs t (h.2 x cs t e ht) ht⟩
theorem RF.of {wd : World} : ∀ w1 w2, (w1 = wd ∨ RF wd wd w1) → Below w1.heap.size w1 w2 → RF wd w1 w2 := fun w1 w2 h hb =>
  ⟨hb.mono (by rcases h with rfl | h; exact Nat.le_refl _; exact h.1.size), fun x cs t e _ => (hb.block x (lt_of_heap e)).trans e⟩
theorem own_kindP {w : World} {base k n : Nat} {e : TypeId} {v : Value} {xs : List Value} {g : Nat} (h : w.ownsRow base e k v n xs) (hg : v.ownBlock = some g) : ∃ cs, w.heap[g]? = some (.cells cs e (0, 0)) := by
  rcases h.2 with ⟨e1, _⟩ | ⟨g', cap', cs', hv, _, hh, _⟩
  · rw [e1] at hg; cases hg
  · rw [hv] at hg
    injection hg with hg
    subst hg
    exact ⟨cs', hh⟩
theorem RF.grown {wd a b : World} {v : Value} {k n base : Nat} {xs : List Value} (hown : a.ownsRow base 31 k v n xs) (hg : a.grownBy b v.ownBlock) (hb : wd.heap.size ≤ base) (hz : wd.heap.size ≤ a.heap.size) : RF wd a b :=
  ⟨(Below.refl _ a).grown hg hz fun g e => Nat.le_trans hb (hown.lt g e).1, fun x cs t e ht => (hg.block x (lt_of_heap e) fun h => by
    obtain ⟨cs', hc⟩ := own_kindP hown h.symm
    rw [hc] at e
    cases e
    exact ht rfl).trans e⟩
theorem RF.pages {wd a b : World} {s : Ps} (h : RF wd a b) (hs : PsS s a) (ht : PsTy s a) : PsS s b ∧ PsTy s b := by
  refine ⟨⟨hs.inn.stay h.1.size fun x hx => ?_, hs.slim⟩, fun x hx => ?_⟩
  · obtain ⟨cs, t, h1, _, h3⟩ := ht x hx
    exact (h.2 x cs t h1 h3).trans h1.symm
  · obtain ⟨cs, t, h1, h2, h3⟩ := ht x hx
    exact ⟨cs, t, h.2 x cs t h1 h3, h2, h3⟩
theorem PsTy.far {s : Ps} {w : World} {X : Nat} {cs : Array Value} (h : PsTy s w) (hX : w.heap[X]? = some (.cells cs 25 (0, 0))) : ∀ x, PsBl s x → x ≠ X := fun x hx e => by
  obtain ⟨cs', t, h1, h2, _⟩ := h x hx
  rw [e, hX] at h1
  cases h1
  exact h2 rfl
/-- Pages of which there are more than one lie in no box of empty pages. -/
theorem PsIn.unlike {s : Ps} {w : World} {n X : Nat} {t : TypeId} (h : PsIn s w n) (h2 : 2 ≤ s.gs.length) (hX : w.heap[X]? = some (.cells #[.slice none 0 0, .slice none 0 0] t (0, 0))) : ∀ x, PsBl s x → x ≠ X := by
  have hint : ∀ {k : IntKind} {z : Int} {o : Nat}, w.cell? ⟨X, o, none⟩ = some (.int k z) → False := by
    intro k z o hc
    rw [cell_of_heap hX] at hc
    match o, hc with
    | 0, hc => simp at hc
    | 1, hc => simp at hc
    | o + 2, hc => simp at hc
  rintro x (⟨hp, off, hA⟩ | ⟨hp, off, hA⟩ | ⟨g, hg, (⟨hp, off, hA⟩ | ⟨hp, off, hA⟩)⟩) rfl
  · obtain ⟨g, hg⟩ : ∃ g, s.gs[1]? = some g := ⟨_, List.getElem?_eq_getElem (by omega)⟩
    have hc := rows_cell0 h.pages hA 1 1 g hg (u := .slice g.kA g.kn g.kc) rfl
    rw [cell_of_heap hX, Array.getElem?_eq_none (by simp <;> omega)] at hc
    cases hc
  · obtain ⟨z, hz⟩ := head_of h.roots.1 hp
    exact hint (rows_cell0 h.roots hA 0 0 z hz (u := .int .i64 z) rfl)
  · obtain ⟨f, hf⟩ := head_of (h.each g hg).1.1 hp
    exact hint (rows_cell0 (h.each g hg).1 hA 0 0 f hf (u := .int .i64 f.key.kind) rfl)
  · obtain ⟨z, hz⟩ := head_of (h.each g hg).2.1 hp
    exact hint (rows_cell0 (h.each g hg).2 hA 0 0 z hz (u := .int .i64 z) rfl)
end Go.Proofs.Ytpnfpdkoeednhaa

end
section
/- PagesFacts, plainly (printed by tools/gen145.py; its first part is JP2's). -/
namespace Go.Proofs.Ytpnfpdkoeednhaa
open Go.RowKit

/-! The best fact, whatever the order. -/
def TotF (l : List Fc) : Prop := ∀ a ∈ l, ∀ b ∈ l, a = b ∨ a.bef b = true ∨ b.bef a = true
theorem bef_iff (a b : Fc) : a.bef b = true ↔ a.known < b.known ∨ (a.known = b.known ∧ a.no < b.no) := by simp [Fc.bef]
theorem bef_trans {a b c : Fc} (h1 : a.bef b = true) (h2 : b.bef c = true) : a.bef c = true := by
  rw [bef_iff] at *; omega
theorem bef_asymm {a b : Fc} (h1 : a.bef b = true) (h2 : b.bef a = true) : False := by
  rw [bef_iff] at *; omega
def BestIs (l : List Fc) (t : Int) : Option Fc → Prop
  | none => ∀ g ∈ l, g.at t = false
  | some f => f ∈ l ∧ f.at t = true ∧ ∀ g ∈ l, g.at t = true → g = f ∨ g.bef f = true
theorem bestF_is (t : Int) (l : List Fc) (h : TotF l) : BestIs l t (bestF l t) := by
  have key : ∀ m : List Fc, TotF m.reverse → BestIs m.reverse t (bestF m.reverse t) := by
    intro m
    induction m with
    | nil => intro _ g hg; cases hg
    | cons f m ih =>
      intro hT
      rw [List.reverse_cons] at hT ⊢
      have ih' := ih fun a ha b hb => hT a (List.mem_append_left _ ha) b (List.mem_append_left _ hb)
      rw [bestF_snoc]
      unfold better
      cases hat : f.at t with
      | false =>
        simp only [Bool.false_eq_true, if_false]
        cases hb : bestF m.reverse t with
        | none =>
          rw [hb] at ih'
          intro g hg
          rcases List.mem_append.1 hg with hg | hg
          · exact ih' g hg
          · rw [List.mem_singleton.1 hg]; exact hat
        | some x =>
          rw [hb] at ih'
          refine ⟨List.mem_append_left _ ih'.1, ih'.2.1, fun g hg hgt => ?_⟩
          rcases List.mem_append.1 hg with hg | hg
          · exact ih'.2.2 g hg hgt
          · rw [List.mem_singleton.1 hg, hat] at hgt; cases hgt
      | true =>
        simp only [if_true]
        cases hb : bestF m.reverse t with
        | none =>
          rw [hb] at ih'
          refine ⟨by simp, hat, fun g hg hgt => ?_⟩
          rcases List.mem_append.1 hg with hg | hg
          · rw [ih' g hg] at hgt; cases hgt
          · exact .inl (List.mem_singleton.1 hg)
        | some x =>
          rw [hb] at ih'
          simp only
          split
          · rename_i hfx
            refine ⟨List.mem_append_left _ ih'.1, ih'.2.1, fun g hg hgt => ?_⟩
            rcases List.mem_append.1 hg with hg | hg
            · exact ih'.2.2 g hg hgt
            · rw [List.mem_singleton.1 hg]; exact .inr hfx
          · rename_i hfx
            refine ⟨by simp, hat, fun g hg hgt => ?_⟩
            have hx : x = f ∨ x.bef f = true := by
              rcases hT x (List.mem_append_left _ ih'.1) f (by simp) with h | h | h
              · exact .inl h
              · exact .inr h
              · exact absurd h hfx
            rcases List.mem_append.1 hg with hg | hg
            · rcases ih'.2.2 g hg hgt with h | h
              · rw [h]; exact hx
              · rcases hx with hx | hx
                · rw [← hx]; exact .inr h
                · exact .inr (bef_trans h hx)
            · exact .inl (List.mem_singleton.1 hg)
  have := key l.reverse
  rw [List.reverse_reverse] at this
  exact this h
theorem bestIs_uniq {l m : List Fc} {t : Int} (hm : ∀ f, f ∈ l ↔ f ∈ m) {a b : Option Fc} (ha : BestIs l t a) (hb : BestIs m t b) : a = b := by
  cases a with
  | none =>
    cases b with
    | none => rfl
    | some y => have := ha y ((hm y).2 hb.1); rw [hb.2.1] at this; cases this
  | some x =>
    cases b with
    | none => have := hb x ((hm x).1 ha.1); rw [ha.2.1] at this; cases this
    | some y =>
      rcases ha.2.2 y ((hm y).2 hb.1) hb.2.1 with h | h
      · rw [h]
      · rcases hb.2.2 x ((hm x).1 ha.1) ha.2.1 with h' | h'
        · rw [h']
        · exact (bef_asymm h h').elim
theorem atF_perm {l m : List Fc} (hT : TotF l) (hm : ∀ f, f ∈ l ↔ f ∈ m) (k : Ky) (t known : Int) : atF l k t known = atF m k t known := by
  have hsub : ∀ f, f ∈ ofF l k known ↔ f ∈ ofF m k known := fun f => by unfold ofF; rw [List.mem_filter, List.mem_filter, hm]
  have hT1 : TotF (ofF l k known) := fun a ha b hb => hT a (List.mem_filter.1 ha).1 b (List.mem_filter.1 hb).1
  have hT2 : TotF (ofF m k known) := fun a ha b hb => hT1 a ((hsub a).2 ha) b ((hsub b).2 hb)
  have := bestIs_uniq hsub (bestF_is t _ hT1) (bestF_is t _ hT2)
  unfold atF; rw [this]
theorem sortedB_tot : ∀ l : List Fc, sortedB l = true → TotF l := by
  have hp : ∀ l : List Fc, sortedB l = true → l.Pairwise fun a b => a.bef b = true := by
    intro l
    induction l with
    | nil => intro _; exact List.Pairwise.nil
    | cons a l ih =>
      intro h
      cases l with
      | nil => simp
      | cons b l =>
        simp only [sortedB, Bool.and_eq_true] at h
        have h2 := ih h.2
        refine List.pairwise_cons.2 ⟨fun c hc => ?_, h2⟩
        rcases List.mem_cons.1 hc with rfl | hc
        · exact h.1
        · exact bef_trans h.1 ((List.pairwise_cons.1 h2).1 c hc)
  intro l h
  have h2 := hp l h
  clear h hp
  revert h2
  induction l with
  | nil => intro _ a ha; cases ha
  | cons x l ih =>
    intro h2
    obtain ⟨h3, h4⟩ := List.pairwise_cons.1 h2
    intro a ha b hb
    rcases List.mem_cons.1 ha with ha1 | ha1
    · subst ha1
      rcases List.mem_cons.1 hb with hb1 | hb1
      · exact .inl hb1.symm
      · exact .inr (.inl (h3 b hb1))
    · rcases List.mem_cons.1 hb with hb1 | hb1
      · subst hb1
        exact .inr (.inr (h3 a ha1))
      · exact ih h4 a ha1 b hb1
theorem checkF_tot {l : List Fc} (h : checkF l = 0) : TotF l := by
  unfold checkF at h
  split at h
  · split at h
    · rename_i hs; exact sortedB_tot l hs
    · cases h
  · cases h

/-! Facts in another order. -/
theorem sortedB_pw : ∀ l : List Fc, sortedB l = true → l.Pairwise fun a b => a.bef b = true := by
  intro l
  induction l with
  | nil => intro _; exact List.Pairwise.nil
  | cons a l ih =>
    intro h
    cases l with
    | nil => simp
    | cons b l =>
      simp only [sortedB, Bool.and_eq_true] at h
      have h2 := ih h.2
      refine List.pairwise_cons.2 ⟨fun c hc => ?_, h2⟩
      rcases List.mem_cons.1 hc with rfl | hc
      · exact h.1
      · exact bef_trans h.1 ((List.pairwise_cons.1 h2).1 c hc)
theorem checkF_parts {l : List Fc} (h : checkF l = 0) : (∀ f ∈ l, f.ok = true) ∧ (l.map tkF).Nodup := by
  unfold checkF at h
  split at h
  · rename_i ho
    split at h
    · rename_i hs
      refine ⟨fun f hf => List.all_eq_true.1 ho f hf, ?_⟩
      rw [List.Nodup, List.pairwise_map]
      refine (sortedB_pw l hs).imp fun {a b} hab e => ?_
      rw [bef_iff] at hab
      have := tkF_iff.1 e
      omega
    · cases h
  · cases h
theorem fill_all {l : List Fc} (ho : ∀ f ∈ l, f.ok = true) (hn : (l.map tkF).Nodup) : (fillF l).acc = l := by
  refine fill_full ?_
  have h := fill_set l
  have hf : l.filter (·.ok) = l := List.filter_eq_self.2 ho
  rw [hf] at h
  have := ((List.perm_ext_iff_of_nodup h.1 hn).2 h.2).length_eq
  simpa using this
/-- A version shows of every key what the facts put so far say. -/
theorem facts_ver {l m : List Fc} (hc : checkF l = 0) (hp : m.Perm l) : (fillF m).acc = m ∧ ∀ (v : Nat), v ≤ m.length → verB (fillF m).ps (fillF m).roots v = true ∧ (allB (fillF m).ps (fillF m).roots v).length = v ∧ ∀ (k : Ky) (t known : Int), atF (allB (fillF m).ps (fillF m).roots v) k t known = atF (m.take v) k t known := by
  obtain ⟨h1, h2⟩ := checkF_parts hc
  have ha : (fillF m).acc = m := fill_all (fun f hf => h1 f (hp.mem_iff.1 hf)) ((hp.map tkF).nodup_iff.2 h2)
  refine ⟨ha, fun v hv => ?_⟩
  obtain ⟨g1, _, g3⟩ := all_ver (fill_inv m) v (by rw [ha]; exact hv)
  rw [ha] at g3
  have hT : TotF (allB (fillF m).ps (fillF m).roots v) := fun a hma b hmb =>
    checkF_tot hc a (hp.mem_iff.1 (List.mem_of_mem_take (g3.mem_iff.1 hma))) b (hp.mem_iff.1 (List.mem_of_mem_take (g3.mem_iff.1 hmb)))
  refine ⟨g1, ?_, fun k t known => atF_perm hT (fun f => g3.mem_iff) k t known⟩
  rw [g3.length_eq, List.length_take]; omega
/-- Facts taken by sevens. -/
def rotF (l : List Fc) (t k : Nat) : List Fc := (List.range k).filterMap fun i => l[(7 * i + t) % l.length]?
theorem rotF_snoc (l : List Fc) (t k : Nat) {f : Fc} (h : l[(7 * k + t) % l.length]? = some f) : rotF l t (k + 1) = rotF l t k ++ [f] := by
  unfold rotF
  rw [List.range_succ, List.filterMap_append]
  simp [h]
theorem rotF_len (l : List Fc) (t k : Nat) (h : 0 < l.length) : (rotF l t k).length = k := by
  induction k with
  | zero => rfl
  | succ k ih =>
    have := Nat.mod_lt (7 * k + t) h
    rw [rotF_snoc l t k (List.getElem?_eq_getElem this), List.length_append, ih]; rfl
theorem rotF_sub (l : List Fc) (t k : Nat) : ∀ f ∈ rotF l t k, f ∈ l := by
  intro f hf
  obtain ⟨i, _, h⟩ := List.mem_filterMap.1 hf
  exact List.mem_of_getElem? h
theorem range_get {α : Type} : ∀ l : List α, (List.range l.length).filterMap (fun i => l[i]?) = l
  | [] => rfl
  | x :: l => by
    rw [List.length_cons, List.range_succ_eq_map, List.filterMap_cons, List.filterMap_map]
    simp only [List.getElem?_cons_zero]
    congr 1
    exact range_get l
theorem sevens : ∀ n < 25, n % 7 ≠ 0 → ∀ t < n, ((List.range n).map fun i => (7 * i + t) % n).isPerm (List.range n) = true := by decide +kernel
theorem rotF_perm {l : List Fc} (h24 : l.length ≤ 24) (h7 : l.length % 7 ≠ 0) (t : Nat) : (rotF l t l.length).Perm l := by
  have hpos : 0 < l.length := by omega
  have h := List.isPerm_iff.1 (sevens l.length (by omega) h7 (t % l.length) (Nat.mod_lt _ hpos))
  have h2 := h.filterMap fun i => l[i]?
  rw [range_get, List.filterMap_map] at h2
  refine List.Perm.trans (List.Perm.of_eq ?_) h2
  unfold rotF
  congr 1
  funext i
  simp only [Function.comp_apply]
  rw [Nat.add_mod_mod]
end Go.Proofs.Ytpnfpdkoeednhaa

end
