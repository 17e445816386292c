/- A map that the call itself has made, all of whose values are true, read as a list of its keys. Over any program. -/
import Derived.Test.YtbmbpannhncpjaaDoorOwn
import Derived.Maps.RangeRun
import Derived.Maps.Keyed
namespace Go.Proofs.YtbmbpannhncpjaaDoor
open Go.RowKit
open Go.ChangeMaps (setBlock)

/-- What is asked of a key type. -/
structure KeyOps {α : Type} (P : Program) (kt mt : TypeId) (K : α → Value) : Prop where
  und : ∃ et, P.underlying mt = some (.map kt et)
  inj : ∀ a b, K a = K b → a = b
  ck : ∀ a (em : Bool) w, (Instr.checkKey em 10000 kt (K a)).run P w = .ok () w
  st : ∀ a w, (Instr.keyThatStays (K a) (K a)).run P w = .ok (K a) w
  find : ∀ a (es : List MapEntry) w, (∀ e ∈ es, ∃ b, e.key = K b) → ((Instr.findKey kt (K a) es).run P w = .ok none w ∧ ∀ e ∈ es, e.key ≠ K a) ∨
    ∃ j e, (Instr.findKey kt (K a) es).run P w = .ok (some (j, e.val)) w ∧ es[j]? = some e ∧ e.key = K a

section
variable {α : Type} {P : Program} {kt mt : TypeId} {K : α → Value}

/-- A key type that is a struct. -/
theorem KeyOps.of_struct [DecidableEq α] {et : TypeId} {fs : Array Field} (hm : P.underlying mt = some (.map kt et)) (hk : P.underlying kt = some (.struct fs)) (hinj : ∀ a b, K a = K b → a = b)
    (hck : ∀ a (em : Bool) w, (Instr.checkKey em 10000 kt (K a)).run P w = .ok () w) (hst : ∀ a w, (Instr.keyThatStays (K a) (K a)).run P w = .ok (K a) w)
    (heq : ∀ a b w, (Op.equal kt (K a) (K b)).run P w = .ok (decide (a = b)) w) : KeyOps P kt mt K := by
  refine ⟨⟨et, hm⟩, hinj, hck, hst, fun a es w hes => ?_⟩
  have ask : ∀ (es : List MapEntry) (i : Nat), (∀ e ∈ es, ∃ b, e.key = K b) → ((Instr.findAsking kt (K a) es i).run P w = .ok none w ∧ ∀ e ∈ es, e.key ≠ K a) ∨
      ∃ j e, (Instr.findAsking kt (K a) es i).run P w = .ok (some (i + j, e.val)) w ∧ es[j]? = some e ∧ e.key = K a := by
    intro es
    induction es with
    | nil => intro i _; exact .inl ⟨rfl, by simp⟩
    | cons e es ih =>
      intro i h
      obtain ⟨b, hb⟩ := h e (by simp)
      by_cases hab : a = b
      · subst hab
        refine .inr ⟨0, e, ?_, rfl, hb⟩
        simp [Instr.findAsking, hb, heq]
      · rcases ih (i + 1) (fun e' he' => h e' (by simp [he'])) with ⟨h1, h2⟩ | ⟨j, e', h1, h2, h3⟩
        · refine .inl ⟨?_, ?_⟩
          · simp [Instr.findAsking, hb, heq, hab, h1]
          · intro e' he'
            rcases List.mem_cons.1 he' with rfl | he'
            · rw [hb]; intro hh; exact hab (hinj _ _ hh).symm
            · exact h2 e' he'
        · refine .inr ⟨j + 1, e', ?_, by simpa using h2, h3⟩
          simp [Instr.findAsking, hb, heq, hab, h1]
          omega
  have now : (Instr.findKey kt (K a) es).run P w = (match es with | [] => .ok none w | _ => (Instr.findAsking kt (K a) es).run P w) := by
    cases es with
    | nil => simp [Instr.findKey, run_underlying hk, Instr.findNow]
    | cons e es => simp [Instr.findKey, run_underlying hk, Instr.findNow, Instr.sameNow]
  rw [now]
  cases es with
  | nil => exact .inl ⟨rfl, by simp⟩
  | cons e es =>
    rcases ask (e :: es) 0 hes with h | ⟨j, e', h1, h2, h3⟩
    · exact .inl h
    · exact .inr ⟨j, e', by simpa using h1, h2, h3⟩

/-- Block b is a map with the keys ks, in the order in which they came in; all its values are true. -/
def KM (K : α → Value) (W : World) (b : Nat) (ks : List α) : Prop :=
  ∃ es clock, W.heap[b]? = some (.map es clock) ∧ es.toList.map (·.key) = ks.map K ∧ ks.Nodup ∧ (∀ x ∈ es.toList, x.born < clock) ∧ (es.toList.map (·.born)).Nodup ∧ ∀ x ∈ es.toList, x.val = .bool true
theorem KM.made (W : World) : KM K (W.alloc (.map #[] 0)) W.heap.size [] := ⟨#[], 0, World.alloc_heap_new _ _, rfl, List.nodup_nil, by simp, by simp, by simp⟩
theorem KM.lt {W : World} {b : Nat} {ks : List α} (h : KM K W b ks) : b < W.heap.size := by
  obtain ⟨es, clock, h, _⟩ := h; exact lt_of_heap h
theorem KM.keep {W W' : World} {b : Nat} {ks : List α} (h : KM K W b ks) (hb : W'.heap[b]? = W.heap[b]?) : KM K W' b ks := by
  obtain ⟨es, clock, h, hr⟩ := h; exact ⟨es, clock, hb.trans h, hr⟩

/-- A key laid into a list of keys. -/
def addKey [DecidableEq α] (ks : List α) (a : α) : List α := if a ∈ ks then ks else ks ++ [a]

theorem km_update [DecidableEq α] (L : KeyOps P kt mt K) {W : World} {b : Nat} {ks : List α} (h : KM K W b ks) (a : α) :
    ∃ w', (Instr.mapUpdate mt (.map (some b)) (K a) (.bool true)).run P W = .ok () w' ∧ KM K w' b (addKey ks a) ∧ W.grownBy w' (some b) ∧ w'.heap.size = W.heap.size := by
  obtain ⟨et, hu⟩ := L.und
  obtain ⟨es, clock, hh, hkeys, hnd, hborn, hbn, hval⟩ := h
  have hg : (getObj b).run P W = .ok (.map es clock) W := by simp [getObj, Sem.run, hh]
  have hs : ∀ o', (setObj b o').run P W = .ok () (setBlock W b o') := fun o' => by simp [setObj, Sem.run, hh, setBlock]
  have hgr : ∀ o', W.grownBy (setBlock W b o') (some b) := fun o' => ⟨rfl, rfl, rfl, by simp [setBlock], fun k hk hne => by
    show (W.heap.setIfInBounds b o')[k]? = _
    rw [Array.getElem?_setIfInBounds_ne (by rintro rfl; exact hne rfl)]⟩
  have hnew : ∀ o', (setBlock W b o').heap[b]? = some o' := fun o' => by
    have := lt_of_heap hh
    show (W.heap.setIfInBounds b o')[b]? = _
    simp [this]
  have hkeyed : ∀ e ∈ es.toList, ∃ c, e.key = K c := fun e he => by
    have : e.key ∈ ks.map K := by rw [← hkeys]; exact List.mem_map_of_mem he
    obtain ⟨c, _, hc⟩ := List.mem_map.1 this
    exact ⟨c, hc.symm⟩
  rcases L.find a es.toList W hkeyed with ⟨hf, hno⟩ | ⟨j, e, hf, hj, he⟩
  · have hna : a ∉ ks := by
      intro ha
      have : K a ∈ es.toList.map (·.key) := by rw [hkeys]; exact List.mem_map_of_mem ha
      obtain ⟨e, he, hk⟩ := List.mem_map.1 this
      exact hno e he hk
    refine ⟨setBlock W b (.map (es.push { key := K a, val := .bool true, born := clock }) (clock + 1)), ?_, ⟨_, _, hnew _, ?_, ?_, ?_, ?_, ?_⟩, hgr _, by simp [setBlock]⟩
    · simp [Instr.mapUpdate, run_underlying hu, hg, L.ck, hf, hs]
    · rw [addKey, if_neg hna]
      simp [hkeys]
    · rw [addKey, if_neg hna, List.nodup_append]
      refine ⟨hnd, by simp, fun x hx y hy => ?_⟩
      simp at hy
      subst hy
      rintro rfl
      exact hna hx
    · intro x hx
      simp at hx
      rcases hx with hx | rfl
      · have := hborn x (by simpa using hx); omega
      · simp
    · simp only [Array.toList_push, List.map_append, List.map_cons, List.map_nil]
      rw [List.nodup_append]
      refine ⟨hbn, by simp, fun x hx y hy => ?_⟩
      simp at hy
      subst hy
      obtain ⟨e, he, rfl⟩ := List.mem_map.1 hx
      have := hborn e he
      omega
    · intro x hx
      simp at hx
      rcases hx with hx | rfl
      · exact hval x (by simpa using hx)
      · rfl
  · have hja : a ∈ ks := by
      have : e.key ∈ ks.map K := by rw [← hkeys]; exact List.mem_map_of_mem (List.mem_of_getElem? hj)
      rw [he] at this
      obtain ⟨c, hc, hc'⟩ := List.mem_map.1 this
      rw [← L.inj _ _ hc']; exact hc
    have hj' : es[j]? = some e := by simpa using hj
    refine ⟨setBlock W b (.map (es.modify j fun e => { e with key := K a, val := .bool true }) clock), ?_, ⟨_, _, hnew _, ?_, ?_, ?_, ?_, ?_⟩, hgr _, by simp [setBlock]⟩
    · simp [Instr.mapUpdate, run_underlying hu, hg, L.ck, hf, hj', he, L.st, hs]
    · rw [addKey, if_pos hja, ← hkeys]
      apply List.ext_getElem?
      intro i
      simp only [List.getElem?_map, Array.getElem?_toList, Array.getElem?_modify]
      by_cases hij : j = i
      · subst hij
        simp [hj', he]
      · simp [hij]
    · rw [addKey, if_pos hja]; exact hnd
    · intro x hx
      obtain ⟨i, hi⟩ := List.mem_iff_getElem?.1 hx
      simp only [Array.getElem?_toList, Array.getElem?_modify] at hi
      by_cases hij : j = i
      · subst hij
        simp [hj'] at hi
        subst hi
        exact hborn e (List.mem_of_getElem? hj)
      · simp [hij] at hi
        exact hborn x (List.mem_of_getElem? (by simpa using hi))
    · have : (es.modify j fun e => { e with key := K a, val := .bool true }).toList.map (·.born) = es.toList.map (·.born) := by
        apply List.ext_getElem?
        intro i
        simp only [List.getElem?_map, Array.getElem?_toList, Array.getElem?_modify]
        by_cases hij : j = i
        · subst hij
          simp [hj']
        · simp [hij]
      rw [this]; exact hbn
    · intro x hx
      obtain ⟨i, hi⟩ := List.mem_iff_getElem?.1 hx
      simp only [Array.getElem?_toList, Array.getElem?_modify] at hi
      by_cases hij : j = i
      · subst hij
        simp [hj'] at hi
        subst hi
        rfl
      · simp [hij] at hi
        exact hval x (List.mem_of_getElem? (by simpa using hi))
end
end Go.Proofs.YtbmbpannhncpjaaDoor
namespace Go.Proofs.YtbmbpannhncpjaaDoor
open Go.RowKit
open Go.ChangeMaps (setBlock)
section
variable {α : Type} {P : Program} {K : α → Value}

/-- The elements at these places. -/
def picks (ks : List α) (js : List Nat) : List α := js.filterMap fun j => ks[j]?
theorem picks_nil (ks : List α) : picks ks [] = [] := rfl
theorem picks_snoc {ks : List α} {js : List Nat} {j : Nat} {a : α} (h : ks[j]? = some a) : picks ks (js ++ [j]) = picks ks js ++ [a] := by
  simp [picks, h]
theorem picks_cons {ks : List α} {js : List Nat} {j : Nat} {a : α} (h : ks[j]? = some a) : picks ks (j :: js) = a :: picks ks js := by
  simp [picks, h]
theorem picks_append (ks : List α) (js js' : List Nat) : picks ks (js ++ js') = picks ks js ++ picks ks js' := by simp [picks]
theorem filterMap_same {β γ : Type} {f g : β → Option γ} : ∀ {l : List β}, (∀ x ∈ l, f x = g x) → l.filterMap f = l.filterMap g
  | [], _ => rfl
  | x :: l, h => by
    simp only [List.filterMap_cons, h x (by simp), filterMap_same (l := l) fun y hy => h y (by simp [hy])]
theorem picks_all : ∀ (m : Nat) (ks : List α), ks.length = m → picks ks (List.range m) = ks
  | 0, ks, h => by
    have := List.eq_nil_of_length_eq_zero h
    subst this; rfl
  | m + 1, ks, h => by
    have hm : m < ks.length := by omega
    rw [List.range_succ, picks_append]
    have e : ks = ks.take m ++ [ks[m]] := by
      have := take_snoc (List.getElem?_eq_getElem hm)
      rw [← this, List.take_of_length_le (by omega)]
    have h1 : picks ks (List.range m) = picks (ks.take m) (List.range m) := by
      unfold picks
      refine filterMap_same fun j hj => ?_
      rw [List.getElem?_take, if_pos (List.mem_range.1 hj)]
    rw [h1, picks_all m (ks.take m) (by rw [List.length_take]; omega)]
    conv => rhs; rw [e]
    simp [picks, List.getElem?_eq_getElem hm]
theorem perm_places {n : Nat} {js : List Nat} (h : js.Nodup) (hlt : ∀ j ∈ js, j < n) : (js ++ (List.range n).filter fun j => !js.contains j).Perm (List.range n) := by
  have hn2 : (js ++ (List.range n).filter fun j => !js.contains j).Nodup := by
    rw [List.nodup_append]
    refine ⟨h, List.nodup_range.filter _, fun x hx y hy => ?_⟩
    rintro rfl
    have := (List.mem_filter.1 hy).2
    simp [hx] at this
  refine (List.perm_ext_iff_of_nodup hn2 List.nodup_range).2 fun j => ?_
  rw [List.mem_append, List.mem_filter, List.mem_range]
  constructor
  · rintro (hj | hj)
    · exact hlt j hj
    · exact hj.1
  · intro hj
    by_cases hm : j ∈ js
    · exact .inl hm
    · exact .inr ⟨hj, by simpa using hm⟩
theorem picks_perm {ks : List α} {js : List Nat} (h : js.Nodup) (hlt : ∀ j ∈ js, j < ks.length) (hall : ∀ j, j < ks.length → j ∈ js) : (picks ks js).Perm ks := by
  have hp := perm_places h hlt
  have he : ((List.range ks.length).filter fun j => !js.contains j) = [] := by
    rw [List.filter_eq_nil_iff]
    intro j hj
    simp [hall j (List.mem_range.1 hj)]
  rw [he, List.append_nil] at hp
  have h2 : (picks ks js).Perm (picks ks (List.range ks.length)) := hp.filterMap fun j => ks[j]?
  rwa [picks_all ks.length ks rfl] at h2
theorem picks_next {ks : List α} {js : List Nat} {j : Nat} {a : α} (h : js.Nodup) (hlt : ∀ i ∈ js, i < ks.length) (hj : j ∉ js) (ha : ks[j]? = some a) : ∃ suf, (picks ks js ++ a :: suf).Perm ks := by
  have hjl := (List.getElem?_eq_some_iff.1 ha).1
  have hn : (js ++ [j]).Nodup := by
    rw [List.nodup_append]
    refine ⟨h, by simp, fun x hx y hy => ?_⟩
    simp at hy
    subst hy
    rintro rfl
    exact hj hx
  have hp := perm_places (n := ks.length) hn (by
    intro i hi
    rcases List.mem_append.1 hi with hi | hi
    · exact hlt i hi
    · simp at hi; subst hi; exact hjl)
  refine ⟨picks ks ((List.range ks.length).filter fun i => !(js ++ [j]).contains i), ?_⟩
  have h2 := hp.filterMap fun i => ks[i]?
  have e1 : picks ks js ++ a :: picks ks ((List.range ks.length).filter fun i => !(js ++ [j]).contains i) = picks ks (js ++ [j] ++ (List.range ks.length).filter fun i => !(js ++ [j]).contains i) := by
    rw [picks_append, picks_append, picks_cons ha, picks_nil]
    simp
  rw [e1]
  have h3 : (picks ks (js ++ [j] ++ (List.range ks.length).filter fun i => !(js ++ [j]).contains i)).Perm (picks ks (List.range ks.length)) := h2
  rwa [picks_all ks.length ks rfl] at h3

/-- The iterator in block r over the map in block b has handed out the keys at the places js. -/
def KIt (K : α → Value) (W : World) (r b : Nat) (ks : List α) (js : List Nat) : Prop :=
  ∃ es clock, W.heap[b]? = some (.map es clock) ∧ W.heap[r]? = some (.mapIter (some b) clock (js.map fun j => (es.toList.map (·.born)).getD j 0).toArray clock) ∧
    es.toList.map (·.key) = ks.map K ∧ (∀ x ∈ es.toList, x.born < clock) ∧ (es.toList.map (·.born)).Nodup ∧ (∀ x ∈ es.toList, x.val = .bool true) ∧ js.Nodup ∧ ∀ j ∈ js, j < ks.length
theorem KIt.keep {W W' : World} {r b : Nat} {ks : List α} {js : List Nat} (h : KIt K W r b ks js) (hb : W'.heap[b]? = W.heap[b]?) (hr : W'.heap[r]? = W.heap[r]?) : KIt K W' r b ks js := by
  obtain ⟨es, clock, h1, h2, h3⟩ := h
  exact ⟨es, clock, hb.trans h1, hr.trans h2, h3⟩
theorem KIt.lt {W : World} {r b : Nat} {ks : List α} {js : List Nat} (h : KIt K W r b ks js) : b < W.heap.size ∧ r < W.heap.size := by
  obtain ⟨es, clock, h1, h2, h3⟩ := h
  exact ⟨lt_of_heap h1, lt_of_heap h2⟩
theorem KIt.js {W : World} {r b : Nat} {ks : List α} {js : List Nat} (h : KIt K W r b ks js) : js.Nodup ∧ ∀ j ∈ js, j < ks.length := by
  obtain ⟨es, clock, _, _, _, _, _, _, h1, h2⟩ := h
  exact ⟨h1, h2⟩
theorem km_range {mt kt et : TypeId} (hu : P.underlying mt = some (.map kt et)) {W : World} {b : Nat} {ks : List α} (h : KM K W b ks) :
    ∃ w', (Instr.range mt (.map (some b))).run P W = .ok (.pointer (some ⟨W.heap.size, 0, none⟩)) w' ∧ KIt K w' W.heap.size b ks [] ∧ Below W.heap.size W w' ∧ w'.heap.size = W.heap.size + 1 := by
  obtain ⟨es, clock, hh, hkeys, hnd, hborn, hbn, hval⟩ := h
  have hg : (getObj b).run P W = .ok (.map es clock) W := by simp [getObj, Sem.run, hh]
  refine ⟨W.alloc (.mapIter (some b) clock #[] clock), ?_, ⟨es, clock, (Below.heap_alloc _ _ _ (lt_of_heap hh)).trans hh, World.alloc_heap_new _ _, hkeys, hborn, hbn, hval, List.nodup_nil, by simp⟩, (Below.refl _ _).alloc (Nat.le_refl _) _, by simp⟩
  simp [Instr.range, run_underlying hu, hg]
theorem km_next {W : World} {r b : Nat} {ks : List α} {js : List Nat} (h : KIt K W r b ks js) (ty : TypeId) :
    ((∀ j, j < ks.length → j ∈ js) ∧ (Instr.next (.pointer (some ⟨r, 0, none⟩)) false ty).run P W = .ok (.tuple #[.bool false]) W) ∨
    ∃ j a w', j ∉ js ∧ ks[j]? = some a ∧ (Instr.next (.pointer (some ⟨r, 0, none⟩)) false ty).run P W = .ok (.tuple #[.bool true, K a, .bool true]) w' ∧ KIt K w' r b ks (js ++ [j]) ∧ Kept (fun q => q = r) W w' ∧ w'.heap.size = W.heap.size := by
  obtain ⟨es, clock, hb, hr, hkeys, hborn, hbn, hval, hjn, hjl⟩ := h
  have hlen : es.toList.length = ks.length := by have := congrArg List.length hkeys; simpa using this
  have hgetb : ∀ j, j < ks.length → ∃ e, es.toList[j]? = some e ∧ (es.toList.map (·.born)).getD j 0 = e.born := fun j hj => by
    have hj' : j < es.toList.length := by omega
    exact ⟨es.toList[j], List.getElem?_eq_getElem hj', by rw [List.getD_eq_getElem?_getD, List.getElem?_map, List.getElem?_eq_getElem hj']; rfl⟩
  rcases run_next_at (P := P) W ty r b clock clock _ es clock hr hb hborn (Nat.le_refl _) with ⟨hz, hrun⟩ | ⟨e, he, w1, hw1, hrun⟩
  · refine .inl ⟨fun j hj => ?_, hrun⟩
    obtain ⟨e, hje, hbe⟩ := hgetb j hj
    have hem : e ∈ es.toList := List.mem_of_getElem? hje
    have hnl : e ∉ (leftOf es (js.map fun j => (es.toList.map (·.born)).getD j 0).toArray).toList := by
      intro hm
      have := List.length_pos_of_mem hm
      rw [Array.length_toList] at this
      omega
    have hcont : (js.map fun j => (es.toList.map (·.born)).getD j 0).toArray.contains e.born = true := by
      rcases hc : (js.map fun j => (es.toList.map (·.born)).getD j 0).toArray.contains e.born with _ | _
      · exfalso
        apply hnl
        unfold leftOf
        rw [Array.toList_filter, List.mem_filter]
        exact ⟨hem, by rw [hc]; rfl⟩
      · exact hc
    have hmem : e.born ∈ js.map fun j => (es.toList.map (·.born)).getD j 0 := by simpa using hcont
    obtain ⟨i, hi, hie⟩ := List.mem_map.1 hmem
    have hil := hjl i hi
    have : i = j := by
      have h1 : i < (es.toList.map (·.born)).length := by simp at hlen ⊢; omega
      have h2 : j < (es.toList.map (·.born)).length := by simp at hlen ⊢; omega
      have e1 : (es.toList.map (·.born))[i] = (es.toList.map (·.born))[j] := by
        have a1 : (es.toList.map (·.born)).getD i 0 = (es.toList.map (·.born))[i] := by rw [List.getD_eq_getElem?_getD, List.getElem?_eq_getElem h1]; rfl
        have a2 : (es.toList.map (·.born)).getD j 0 = (es.toList.map (·.born))[j] := by rw [List.getD_eq_getElem?_getD, List.getElem?_eq_getElem h2]; rfl
        rw [← a1, ← a2, hie, hbe]
      exact (List.getElem_inj hbn).1 e1
    rw [← this]; exact hi
  · unfold leftOf at he
    rw [Array.toList_filter, List.mem_filter] at he
    obtain ⟨hem, hnc⟩ := he
    obtain ⟨j, hj⟩ := List.mem_iff_getElem?.1 hem
    have hjlt : j < ks.length := by rw [← hlen]; exact (List.getElem?_eq_some_iff.1 hj).1
    obtain ⟨e', hje', hbe'⟩ := hgetb j hjlt
    rw [hj] at hje'
    obtain rfl := Option.some.inj hje'
    have hnj : j ∉ js := by
      intro hm
      simp at hnc
      exact hnc j hm (by simpa using hbe')
    have hka : K ks[j] = e.key := by
      have := congrArg (fun l => l[j]?) hkeys
      simp only [List.getElem?_map, hj, Option.map_some, List.getElem?_eq_getElem hjlt] at this
      exact (Option.some.inj this).symm
    have hw1h : w1.heap = W.heap := by rcases hw1 with rfl | rfl <;> rfl
    have hwo : w1.os = W.os ∧ w1.tape = W.tape ∧ w1.output = W.output := by rcases hw1 with rfl | rfl <;> exact ⟨rfl, rfl, rfl⟩
    have hne : b ≠ r := by rintro rfl; rw [hb] at hr; cases hr
    have hrl := lt_of_heap hr
    refine .inr ⟨j, ks[j], setBlock w1 r (.mapIter (some b) clock ((js.map fun j => (es.toList.map (·.born)).getD j 0).toArray.push e.born) clock), hnj, List.getElem?_eq_getElem hjlt, by rw [hrun, hka, hval e hem], ⟨es, clock, ?_, ?_, hkeys, hborn, hbn, hval, ?_, ?_⟩, ⟨hwo.1, hwo.2.1, hwo.2.2, by simp [setBlock, hw1h], fun q hq hm => ?_⟩, by simp [setBlock, hw1h]⟩
    · show (w1.heap.setIfInBounds r _)[b]? = _
      rw [Array.getElem?_setIfInBounds_ne (Ne.symm hne), hw1h, hb]
    · show (w1.heap.setIfInBounds r _)[r]? = _
      rw [Array.getElem?_setIfInBounds_self, hw1h, if_pos hrl, List.map_append, List.map_cons, List.map_nil, hbe']
      simp
    · rw [List.nodup_append]
      refine ⟨hjn, by simp, fun x hx y hy => ?_⟩
      simp at hy
      subst hy
      rintro rfl
      exact hnj hx
    · intro i hi
      rcases List.mem_append.1 hi with hi | hi
      · exact hjl i hi
      · simp at hi; subst hi; exact hjlt
    · show (w1.heap.setIfInBounds r _)[q]? = _
      rw [Array.getElem?_setIfInBounds_ne (fun e => hm e.symm), hw1h]
theorem km_entry {W : World} {r b j : Nat} {a : α} {ks : List α} {js : List Nat} (h : KIt K W r b ks (js ++ [j])) (ha : ks[j]? = some a) : (Instr.entry (.pointer (some ⟨r, 0, none⟩))).run P W = .ok (.tuple #[K a, .bool true]) W := by
  obtain ⟨es, clock, hb, hr, hkeys, hborn, hbn, hval, hjn, hjl⟩ := h
  have hjlt := (List.getElem?_eq_some_iff.1 ha).1
  have hlen : es.toList.length = ks.length := by have := congrArg List.length hkeys; simpa using this
  have hj : es.toList[j]? = some es.toList[j] := List.getElem?_eq_getElem (by omega)
  have hbe : (es.toList.map (·.born)).getD j 0 = es.toList[j].born := by rw [List.getD_eq_getElem?_getD, List.getElem?_map, hj]; rfl
  have hka : es.toList[j].key = K a := by
    have := congrArg (fun l => l[j]?) hkeys
    simp only [List.getElem?_map, hj, Option.map_some, ha] at this
    exact Option.some.inj this
  have hem : es.toList[j] ∈ es.toList := List.mem_of_getElem? hj
  rw [← hka, ← hval _ hem]
  refine run_entry_at W r b clock (js.map fun j => (es.toList.map (·.born)).getD j 0).toArray es clock _ ?_ hb hem hbn
  rw [hr, List.map_append, List.map_cons, List.map_nil, hbe]
  simp
end
end Go.Proofs.YtbmbpannhncpjaaDoor
