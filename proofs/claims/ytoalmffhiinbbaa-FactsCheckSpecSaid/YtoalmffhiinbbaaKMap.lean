/- A map that the call itself has made, all of whose values are true, read as a list of its keys. Over any program. -/
import Derived.Test.YtoalmffhiinbbaaOwn
import Derived.Maps.RangeRun
import Derived.Maps.Keyed
namespace Go.Proofs.Ytoalmffhiinbbaa
open Go.RowKit
open Go.ChangeMaps (setBlock)

/-- What is asked of a key type. -/
structure KeyOps {α : Type} (P : Program) (kt mt : TypeId) (K : α → Value) : Prop where
  und : ∃ et, P.underlying mt = some (.map kt et)
  inj : ∀ a b, K a = K b → a = b
  ck : ∀ a (em : Bool) w, (Instr.checkKey em 10000 kt (K a)).run P w = .ok () w
  st : ∀ a w, (Instr.keyThatStays (K a) (K a)).run P w = .ok (K a) w
  find : ∀ a (es : List MapEntry) w, (∀ e ∈ es, ∃ b, e.key = K b) → ((Instr.findKey kt (K a) es).run P w = .ok none w ∧ ∀ e ∈ es, e.key ≠ K a) ∨
    ∃ j e, (Instr.findKey kt (K a) es).run P w = .ok (some (j, e.val)) w ∧ es[j]? = some e ∧ e.key = K a

section
variable {α : Type} {P : Program} {kt mt : TypeId} {K : α → Value}

/-- A key type that is a struct. -/
theorem KeyOps.of_struct [DecidableEq α] {et : TypeId} {fs : Array Field} (hm : P.underlying mt = some (.map kt et)) (hk : P.underlying kt = some (.struct fs)) (hinj : ∀ a b, K a = K b → a = b)
    (hck : ∀ a (em : Bool) w, (Instr.checkKey em 10000 kt (K a)).run P w = .ok () w) (hst : ∀ a w, (Instr.keyThatStays (K a) (K a)).run P w = .ok (K a) w)
    (heq : ∀ a b w, (Op.equal kt (K a) (K b)).run P w = .ok (decide (a = b)) w) : KeyOps P kt mt K := by
  refine ⟨⟨et, hm⟩, hinj, hck, hst, fun a es w hes => ?_⟩
  have ask : ∀ (es : List MapEntry) (i : Nat), (∀ e ∈ es, ∃ b, e.key = K b) → ((Instr.findAsking kt (K a) es i).run P w = .ok none w ∧ ∀ e ∈ es, e.key ≠ K a) ∨
      ∃ j e, (Instr.findAsking kt (K a) es i).run P w = .ok (some (i + j, e.val)) w ∧ es[j]? = some e ∧ e.key = K a := by
    intro es
    induction es with
    | nil => intro i _; exact .inl ⟨rfl, by simp⟩
    | cons e es ih =>
      intro i h
      obtain ⟨b, hb⟩ := h e (by simp)
      by_cases hab : a = b
      · subst hab
        refine .inr ⟨0, e, ?_, rfl, hb⟩
        simp [Instr.findAsking, hb, heq]
      · rcases ih (i + 1) (fun e' he' => h e' (by simp [he'])) with ⟨h1, h2⟩ | ⟨j, e', h1, h2, h3⟩
        · refine .inl ⟨?_, ?_⟩
          · simp [Instr.findAsking, hb, heq, hab, h1]
          · intro e' he'
            rcases List.mem_cons.1 he' with rfl | he'
            · rw [hb]; intro hh; exact hab (hinj _ _ hh).symm
            · exact h2 e' he'
        · refine .inr ⟨j + 1, e', ?_, by simpa using h2, h3⟩
          simp [Instr.findAsking, hb, heq, hab, h1]
          omega
  have now : (Instr.findKey kt (K a) es).run P w = (match es with | [] => .ok none w | _ => (Instr.findAsking kt (K a) es).run P w) := by
    cases es with
    | nil => simp [Instr.findKey, run_underlying hk, Instr.findNow]
    | cons e es => simp [Instr.findKey, run_underlying hk, Instr.findNow, Instr.sameNow]
  rw [now]
  cases es with
  | nil => exact .inl ⟨rfl, by simp⟩
  | cons e es =>
    rcases ask (e :: es) 0 hes with h | ⟨j, e', h1, h2, h3⟩
    · exact .inl h
    · exact .inr ⟨j, e', by simpa using h1, h2, h3⟩

/-- Block b is a map with the keys ks, in the order in which they came in; all its values are true. -/
def KM (K : α → Value) (W : World) (b : Nat) (ks : List α) : Prop :=
  ∃ es clock, W.heap[b]? = some (.map es clock) ∧ es.toList.map (·.key) = ks.map K ∧ ks.Nodup ∧ (∀ x ∈ es.toList, x.born < clock) ∧ (es.toList.map (·.born)).Nodup ∧ ∀ x ∈ es.toList, x.val = .bool true
theorem KM.made (W : World) : KM K (W.alloc (.map #[] 0)) W.heap.size [] := ⟨#[], 0, World.alloc_heap_new _ _, rfl, List.nodup_nil, by simp, by simp, by simp⟩
theorem KM.lt {W : World} {b : Nat} {ks : List α} (h : KM K W b ks) : b < W.heap.size := by
  obtain ⟨es, clock, h, _⟩ := h; exact lt_of_heap h
theorem KM.keep {W W' : World} {b : Nat} {ks : List α} (h : KM K W b ks) (hb : W'.heap[b]? = W.heap[b]?) : KM K W' b ks := by
  obtain ⟨es, clock, h, hr⟩ := h; exact ⟨es, clock, hb.trans h, hr⟩

/-- A key laid into a list of keys. -/
def addKey [DecidableEq α] (ks : List α) (a : α) : List α := if a ∈ ks then ks else ks ++ [a]

theorem km_update [DecidableEq α] (L : KeyOps P kt mt K) {W : World} {b : Nat} {ks : List α} (h : KM K W b ks) (a : α) :
    ∃ w', (Instr.mapUpdate mt (.map (some b)) (K a) (.bool true)).run P W = .ok () w' ∧ KM K w' b (addKey ks a) ∧ W.grownBy w' (some b) ∧ w'.heap.size = W.heap.size := by
  obtain ⟨et, hu⟩ := L.und
  obtain ⟨es, clock, hh, hkeys, hnd, hborn, hbn, hval⟩ := h
  have hg : (getObj b).run P W = .ok (.map es clock) W := by simp [getObj, Sem.run, hh]
  have hs : ∀ o', (setObj b o').run P W = .ok () (setBlock W b o') := fun o' => by simp [setObj, Sem.run, hh, setBlock]
  have hgr : ∀ o', W.grownBy (setBlock W b o') (some b) := fun o' => ⟨rfl, rfl, rfl, by simp [setBlock], fun k hk hne => by
    show (W.heap.setIfInBounds b o')[k]? = _
    rw [Array.getElem?_setIfInBounds_ne (by rintro rfl; exact hne rfl)]⟩
  have hnew : ∀ o', (setBlock W b o').heap[b]? = some o' := fun o' => by
    have := lt_of_heap hh
    show (W.heap.setIfInBounds b o')[b]? = _
    simp [this]
  have hkeyed : ∀ e ∈ es.toList, ∃ c, e.key = K c := fun e he => by
    have : e.key ∈ ks.map K := by rw [← hkeys]; exact List.mem_map_of_mem he
    obtain ⟨c, _, hc⟩ := List.mem_map.1 this
    exact ⟨c, hc.symm⟩
  rcases L.find a es.toList W hkeyed with ⟨hf, hno⟩ | ⟨j, e, hf, hj, he⟩
  · have hna : a ∉ ks := by
      intro ha
      have : K a ∈ es.toList.map (·.key) := by rw [hkeys]; exact List.mem_map_of_mem ha
      obtain ⟨e, he, hk⟩ := List.mem_map.1 this
      exact hno e he hk
    refine ⟨setBlock W b (.map (es.push { key := K a, val := .bool true, born := clock }) (clock + 1)), ?_, ⟨_, _, hnew _, ?_, ?_, ?_, ?_, ?_⟩, hgr _, by simp [setBlock]⟩
    · simp [Instr.mapUpdate, run_underlying hu, hg, L.ck, hf, hs]
    · rw [addKey, if_neg hna]
      simp [hkeys]
    · rw [addKey, if_neg hna, List.nodup_append]
      refine ⟨hnd, by simp, fun x hx y hy => ?_⟩
      simp at hy
      subst hy
      rintro rfl
      exact hna hx
    · intro x hx
      simp at hx
      rcases hx with hx | rfl
      · have := hborn x (by simpa using hx); omega
      · simp
    · simp only [Array.toList_push, List.map_append, List.map_cons, List.map_nil]
      rw [List.nodup_append]
      refine ⟨hbn, by simp, fun x hx y hy => ?_⟩
      simp at hy
      subst hy
      obtain ⟨e, he, rfl⟩ := List.mem_map.1 hx
      have := hborn e he
      omega
    · intro x hx
      simp at hx
      rcases hx with hx | rfl
      · exact hval x (by simpa using hx)
      · rfl
  · have hja : a ∈ ks := by
      have : e.key ∈ ks.map K := by rw [← hkeys]; exact List.mem_map_of_mem (List.mem_of_getElem? hj)
      rw [he] at this
      obtain ⟨c, hc, hc'⟩ := List.mem_map.1 this
      rw [← L.inj _ _ hc']; exact hc
    have hj' : es[j]? = some e := by simpa using hj
    refine ⟨setBlock W b (.map (es.modify j fun e => { e with key := K a, val := .bool true }) clock), ?_, ⟨_, _, hnew _, ?_, ?_, ?_, ?_, ?_⟩, hgr _, by simp [setBlock]⟩
    · simp [Instr.mapUpdate, run_underlying hu, hg, L.ck, hf, hj', he, L.st, hs]
    · rw [addKey, if_pos hja, ← hkeys]
      apply List.ext_getElem?
      intro i
      simp only [List.getElem?_map, Array.getElem?_toList, Array.getElem?_modify]
      by_cases hij : j = i
      · subst hij
        simp [hj', he]
      · simp [hij]
    · rw [addKey, if_pos hja]; exact hnd
    · intro x hx
      obtain ⟨i, hi⟩ := List.mem_iff_getElem?.1 hx
      simp only [Array.getElem?_toList, Array.getElem?_modify] at hi
      by_cases hij : j = i
      · subst hij
        simp [hj'] at hi
        subst hi
        exact hborn e (List.mem_of_getElem? hj)
      · simp [hij] at hi
        exact hborn x (List.mem_of_getElem? (by simpa using hi))
    · have : (es.modify j fun e => { e with key := K a, val := .bool true }).toList.map (·.born) = es.toList.map (·.born) := by
        apply List.ext_getElem?
        intro i
        simp only [List.getElem?_map, Array.getElem?_toList, Array.getElem?_modify]
        by_cases hij : j = i
        · subst hij
          simp [hj']
        · simp [hij]
      rw [this]; exact hbn
    · intro x hx
      obtain ⟨i, hi⟩ := List.mem_iff_getElem?.1 hx
      simp only [Array.getElem?_toList, Array.getElem?_modify] at hi
      by_cases hij : j = i
      · subst hij
        simp [hj'] at hi
        subst hi
        rfl
      · simp [hij] at hi
        exact hval x (List.mem_of_getElem? (by simpa using hi))
end
end Go.Proofs.Ytoalmffhiinbbaa
