/- Several texts in one: KMap J0 J1 JP1 JP2 Put. -/
import Derived.Test.YtbegdcjofnfkiaaGreatDoorQ1
import Derived.Maps.RangeRun
import Derived.Maps.Keyed
import Derived.Laws.CopyRow
namespace Go.Proofs.YtbegdcjofnfkiaaGreatDoor
end Go.Proofs.YtbegdcjofnfkiaaGreatDoor
section
namespace Go.Proofs.YtbegdcjofnfkiaaGreatDoor
open Go.RowKit
open Go.ChangeMaps (setBlock)
structure KeyOps {α : Type} (P : Program) (kt mt : TypeId) (K : α → Value) : Prop where
 und : ∃ et, P.underlying mt = some (.map kt et)
 inj : ∀ a b, K a = K b → a = b
 ck : ∀ a (em : Bool) w, (Instr.checkKey em 10000 kt (K a)).run P w = .ok () w
 st : ∀ a w, (Instr.keyThatStays (K a) (K a)).run P w = .ok (K a) w
 find : ∀ a (es : List MapEntry) w, (∀ e ∈ es, ∃ b, e.key = K b) → ((Instr.findKey kt (K a) es).run P w = .ok none w ∧ ∀ e ∈ es, e.key ≠ K a) ∨
  ∃ j e, (Instr.findKey kt (K a) es).run P w = .ok (some (j, e.val)) w ∧ es[j]? = some e ∧ e.key = K a
section
variable {α : Type} {P : Program} {kt mt : TypeId} {K : α → Value}
def KM (K : α → Value) (W : World) (b : Nat) (ks : List α) : Prop :=
 ∃ es clock, W.heap[b]? = some (.map es clock) ∧ es.toList.map (·.key) = ks.map K ∧ ks.Nodup ∧ (∀ x ∈ es.toList, x.born < clock) ∧ (es.toList.map (·.born)).Nodup ∧ ∀ x ∈ es.toList, x.val = .bool true
theorem KM.made (W : World) : KM K (W.alloc (.map #[] 0)) W.heap.size [] := ⟨#[], 0, World.alloc_heap_new _ _, rfl, List.nodup_nil, by simp, by simp, by simp⟩
theorem KM.lt {W : World} {b : Nat} {ks : List α} (h : KM K W b ks) : b < W.heap.size := by
 obtain ⟨es, clock, h, _⟩ := h; exact lt_of_heap h
theorem KM.keep {W W' : World} {b : Nat} {ks : List α} (h : KM K W b ks) (hb : W'.heap[b]? = W.heap[b]?) : KM K W' b ks := by
 obtain ⟨es, clock, h, hr⟩ := h; exact ⟨es, clock, hb.trans h, hr⟩
def addKey [DecidableEq α] (ks : List α) (a : α) : List α := if a ∈ ks then ks else ks ++ [a]
theorem km_update [DecidableEq α] (L : KeyOps P kt mt K) {W : World} {b : Nat} {ks : List α} (h : KM K W b ks) (a : α) :
  ∃ w', (Instr.mapUpdate mt (.map (some b)) (K a) (.bool true)).run P W = .ok () w' ∧ KM K w' b (addKey ks a) ∧ W.grownBy w' (some b) ∧ w'.heap.size = W.heap.size := by
 obtain ⟨et, hu⟩ := L.und
 obtain ⟨es, clock, hh, hkeys, hnd, hborn, hbn, hval⟩ := h
 have hg : (getObj b).run P W = .ok (.map es clock) W := by simp [getObj, Sem.run, hh]
 have hs : ∀ o', (setObj b o').run P W = .ok () (setBlock W b o') := fun o' => by simp [setObj, Sem.run, hh, setBlock]
 have hgr : ∀ o', W.grownBy (setBlock W b o') (some b) := fun o' => ⟨rfl, rfl, rfl, by simp [setBlock], fun k hk hne => by
  show (W.heap.setIfInBounds b o')[k]? = _
  rw [Array.getElem?_setIfInBounds_ne (by rintro rfl; exact hne rfl)]⟩
 have hnew : ∀ o', (setBlock W b o').heap[b]? = some o' := fun o' => by
  have := lt_of_heap hh
  show (W.heap.setIfInBounds b o')[b]? = _
  simp [this]
 have hkeyed : ∀ e ∈ es.toList, ∃ c, e.key = K c := fun e he => by
  have : e.key ∈ ks.map K := by rw [← hkeys]; exact List.mem_map_of_mem he
  obtain ⟨c, _, hc⟩ := List.mem_map.1 this
  exact ⟨c, hc.symm⟩
 rcases L.find a es.toList W hkeyed with ⟨hf, hno⟩ | ⟨j, e, hf, hj, he⟩
 ·have hna : a ∉ ks := by
   intro ha
   have : K a ∈ es.toList.map (·.key) := by rw [hkeys]; exact List.mem_map_of_mem ha
   obtain ⟨e, he, hk⟩ := List.mem_map.1 this
   exact hno e he hk
  refine ⟨setBlock W b (.map (es.push { key := K a, val := .bool true, born := clock }) (clock + 1)), ?_, ⟨_, _, hnew _, ?_, ?_, ?_, ?_, ?_⟩, hgr _, by simp [setBlock]⟩
  ·simp [Instr.mapUpdate, run_underlying hu, hg, L.ck, hf, hs]
  ·rw [addKey, if_neg hna]
   simp [hkeys]
  ·rw [addKey, if_neg hna, List.nodup_append]
   refine ⟨hnd, by simp, fun x hx y hy => ?_⟩
   simp at hy
   subst hy
   rintro rfl
   exact hna hx
  ·intro x hx
   simp at hx
   rcases hx with hx | rfl
   ·have := hborn x (by simpa using hx); omega
   ·simp
  ·simp only [Array.toList_push, List.map_append, List.map_cons, List.map_nil]
   rw [List.nodup_append]
   refine ⟨hbn, by simp, fun x hx y hy => ?_⟩
   simp at hy
   subst hy
   obtain ⟨e, he, rfl⟩ := List.mem_map.1 hx
   have := hborn e he
   omega
  ·intro x hx
   simp at hx
   rcases hx with hx | rfl
   ·exact hval x (by simpa using hx)
   ·rfl
 ·have hja : a ∈ ks := by
   have : e.key ∈ ks.map K := by rw [← hkeys]; exact List.mem_map_of_mem (List.mem_of_getElem? hj)
   rw [he] at this
   obtain ⟨c, hc, hc'⟩ := List.mem_map.1 this
   rw [← L.inj _ _ hc']; exact hc
  have hj' : es[j]? = some e := by simpa using hj
  refine ⟨setBlock W b (.map (es.modify j fun e => { e with key := K a, val := .bool true }) clock), ?_, ⟨_, _, hnew _, ?_, ?_, ?_, ?_, ?_⟩, hgr _, by simp [setBlock]⟩
  ·simp [Instr.mapUpdate, run_underlying hu, hg, L.ck, hf, hj', he, L.st, hs]
  ·rw [addKey, if_pos hja, ← hkeys]
   apply List.ext_getElem?
   intro i
   simp only [List.getElem?_map, Array.getElem?_toList, Array.getElem?_modify]
   by_cases hij : j = i
   ·subst hij
    simp [hj', he]
   ·simp [hij]
  ·rw [addKey, if_pos hja]; exact hnd
  ·intro x hx
   obtain ⟨i, hi⟩ := List.mem_iff_getElem?.1 hx
   simp only [Array.getElem?_toList, Array.getElem?_modify] at hi
   by_cases hij : j = i
   ·subst hij
    simp [hj'] at hi
    subst hi
    exact hborn e (List.mem_of_getElem? hj)
   ·simp [hij] at hi
    exact hborn x (List.mem_of_getElem? (by simpa using hi))
  ·have : (es.modify j fun e => { e with key := K a, val := .bool true }).toList.map (·.born) = es.toList.map (·.born) := by
    apply List.ext_getElem?
    intro i
    simp only [List.getElem?_map, Array.getElem?_toList, Array.getElem?_modify]
    by_cases hij : j = i
    ·subst hij
     simp [hj']
    ·simp [hij]
   rw [this]; exact hbn
  ·intro x hx
   obtain ⟨i, hi⟩ := List.mem_iff_getElem?.1 hx
   simp only [Array.getElem?_toList, Array.getElem?_modify] at hi
   by_cases hij : j = i
   ·subst hij
    simp [hj'] at hi
    subst hi
    rfl
   ·simp [hij] at hi
    exact hval x (List.mem_of_getElem? (by simpa using hi))
end
end Go.Proofs.YtbegdcjofnfkiaaGreatDoor
namespace Go.Proofs.YtbegdcjofnfkiaaGreatDoor
open Go.RowKit
open Go.ChangeMaps (setBlock)
section
variable {α : Type} {P : Program} {K : α → Value}
def picks (ks : List α) (js : List Nat) : List α := js.filterMap fun j => ks[j]?
theorem picks_nil (ks : List α) : picks ks [] = [] := rfl
theorem picks_snoc {ks : List α} {js : List Nat} {j : Nat} {a : α} (h : ks[j]? = some a) : picks ks (js ++ [j]) = picks ks js ++ [a] := by
 simp [picks, h]
theorem picks_cons {ks : List α} {js : List Nat} {j : Nat} {a : α} (h : ks[j]? = some a) : picks ks (j :: js) = a :: picks ks js := by
 simp [picks, h]
theorem picks_append (ks : List α) (js js' : List Nat) : picks ks (js ++ js') = picks ks js ++ picks ks js' := by simp [picks]
theorem filterMap_same {β γ : Type} {f g : β → Option γ} : ∀ {l : List β}, (∀ x ∈ l, f x = g x) → l.filterMap f = l.filterMap g
  | [], _ => rfl
  | x :: l, h => by
    simp only [List.filterMap_cons, h x (by simp), filterMap_same (l := l) fun y hy => h y (by simp [hy])]
theorem picks_all : ∀ (m : Nat) (ks : List α), ks.length = m → picks ks (List.range m) = ks
  | 0, ks, h => by
    have := List.eq_nil_of_length_eq_zero h
    subst this; rfl
  | m + 1, ks, h => by
    have hm : m < ks.length := by omega
    rw [List.range_succ, picks_append]
    have e : ks = ks.take m ++ [ks[m]] := by
      have := take_snoc (List.getElem?_eq_getElem hm)
      rw [← this, List.take_of_length_le (by omega)]
    have h1 : picks ks (List.range m) = picks (ks.take m) (List.range m) := by
      unfold picks
      refine filterMap_same fun j hj => ?_
      rw [List.getElem?_take, if_pos (List.mem_range.1 hj)]
    rw [h1, picks_all m (ks.take m) (by rw [List.length_take]; omega)]
    conv => rhs; rw [e]
    simp [picks, List.getElem?_eq_getElem hm]
theorem perm_places {n : Nat} {js : List Nat} (h : js.Nodup) (hlt : ∀ j ∈ js, j < n) : (js ++ (List.range n).filter fun j => !js.contains j).Perm (List.range n) := by
 have hn2 : (js ++ (List.range n).filter fun j => !js.contains j).Nodup := by
  rw [List.nodup_append]
  refine ⟨h, List.nodup_range.filter _, fun x hx y hy => ?_⟩
  rintro rfl
  have := (List.mem_filter.1 hy).2
  simp [hx] at this
 refine (List.perm_ext_iff_of_nodup hn2 List.nodup_range).2 fun j => ?_
 rw [List.mem_append, List.mem_filter, List.mem_range]
 constructor
 ·rintro (hj | hj)
  ·exact hlt j hj
  ·exact hj.1
 ·intro hj
  by_cases hm : j ∈ js
  ·exact .inl hm
  ·exact .inr ⟨hj, by simpa using hm⟩
theorem picks_perm {ks : List α} {js : List Nat} (h : js.Nodup) (hlt : ∀ j ∈ js, j < ks.length) (hall : ∀ j, j < ks.length → j ∈ js) : (picks ks js).Perm ks := by
 have hp := perm_places h hlt
 have he : ((List.range ks.length).filter fun j => !js.contains j) = [] := by
  rw [List.filter_eq_nil_iff]
  intro j hj
  simp [hall j (List.mem_range.1 hj)]
 rw [he, List.append_nil] at hp
 have h2 : (picks ks js).Perm (picks ks (List.range ks.length)) := hp.filterMap fun j => ks[j]?
 rwa [picks_all ks.length ks rfl] at h2
theorem picks_next {ks : List α} {js : List Nat} {j : Nat} {a : α} (h : js.Nodup) (hlt : ∀ i ∈ js, i < ks.length) (hj : j ∉ js) (ha : ks[j]? = some a) : ∃ suf, (picks ks js ++ a :: suf).Perm ks := by
 have hjl := (List.getElem?_eq_some_iff.1 ha).1
 have hn : (js ++ [j]).Nodup := by
  rw [List.nodup_append]
  refine ⟨h, by simp, fun x hx y hy => ?_⟩
  simp at hy
  subst hy
  rintro rfl
  exact hj hx
 have hp := perm_places (n := ks.length) hn (by
  intro i hi
  rcases List.mem_append.1 hi with hi | hi
  ·exact hlt i hi
  ·simp at hi; subst hi; exact hjl)
 refine ⟨picks ks ((List.range ks.length).filter fun i => !(js ++ [j]).contains i), ?_⟩
 have h2 := hp.filterMap fun i => ks[i]?
 have e1 : picks ks js ++ a :: picks ks ((List.range ks.length).filter fun i => !(js ++ [j]).contains i) = picks ks (js ++ [j] ++ (List.range ks.length).filter fun i => !(js ++ [j]).contains i) := by
  rw [picks_append, picks_append, picks_cons ha, picks_nil]
  simp
 rw [e1]
 have h3 : (picks ks (js ++ [j] ++ (List.range ks.length).filter fun i => !(js ++ [j]).contains i)).Perm (picks ks (List.range ks.length)) := h2
 rwa [picks_all ks.length ks rfl] at h3
def KIt (K : α → Value) (W : World) (r b : Nat) (ks : List α) (js : List Nat) : Prop :=
 ∃ es clock, W.heap[b]? = some (.map es clock) ∧ W.heap[r]? = some (.mapIter (some b) clock (js.map fun j => (es.toList.map (·.born)).getD j 0).toArray clock) ∧
  es.toList.map (·.key) = ks.map K ∧ (∀ x ∈ es.toList, x.born < clock) ∧ (es.toList.map (·.born)).Nodup ∧ (∀ x ∈ es.toList, x.val = .bool true) ∧ js.Nodup ∧ ∀ j ∈ js, j < ks.length
theorem KIt.keep {W W' : World} {r b : Nat} {ks : List α} {js : List Nat} (h : KIt K W r b ks js) (hb : W'.heap[b]? = W.heap[b]?) (hr : W'.heap[r]? = W.heap[r]?) : KIt K W' r b ks js := by
 obtain ⟨es, clock, h1, h2, h3⟩ := h
 exact ⟨es, clock, hb.trans h1, hr.trans h2, h3⟩
theorem KIt.lt {W : World} {r b : Nat} {ks : List α} {js : List Nat} (h : KIt K W r b ks js) : b < W.heap.size ∧ r < W.heap.size := by
 obtain ⟨es, clock, h1, h2, h3⟩ := h
 exact ⟨lt_of_heap h1, lt_of_heap h2⟩
theorem KIt.js {W : World} {r b : Nat} {ks : List α} {js : List Nat} (h : KIt K W r b ks js) : js.Nodup ∧ ∀ j ∈ js, j < ks.length := by
 obtain ⟨es, clock, _, _, _, _, _, _, h1, h2⟩ := h
 exact ⟨h1, h2⟩
theorem km_range {mt kt et : TypeId} (hu : P.underlying mt = some (.map kt et)) {W : World} {b : Nat} {ks : List α} (h : KM K W b ks) :
  ∃ w', (Instr.range mt (.map (some b))).run P W = .ok (.pointer (some ⟨W.heap.size, 0, none⟩)) w' ∧ KIt K w' W.heap.size b ks [] ∧ Below W.heap.size W w' ∧ w'.heap.size = W.heap.size + 1 := by
 obtain ⟨es, clock, hh, hkeys, hnd, hborn, hbn, hval⟩ := h
 have hg : (getObj b).run P W = .ok (.map es clock) W := by simp [getObj, Sem.run, hh]
 refine ⟨W.alloc (.mapIter (some b) clock #[] clock), ?_, ⟨es, clock, (Below.heap_alloc _ _ _ (lt_of_heap hh)).trans hh, World.alloc_heap_new _ _, hkeys, hborn, hbn, hval, List.nodup_nil, by simp⟩, (Below.refl _ _).alloc (Nat.le_refl _) _, by simp⟩
 simp [Instr.range, run_underlying hu, hg]
theorem km_next {W : World} {r b : Nat} {ks : List α} {js : List Nat} (h : KIt K W r b ks js) (ty : TypeId) :
  ((∀ j, j < ks.length → j ∈ js) ∧ (Instr.next (.pointer (some ⟨r, 0, none⟩)) false ty).run P W = .ok (.tuple #[.bool false]) W) ∨
  ∃ j a w', j ∉ js ∧ ks[j]? = some a ∧ (Instr.next (.pointer (some ⟨r, 0, none⟩)) false ty).run P W = .ok (.tuple #[.bool true, K a, .bool true]) w' ∧ KIt K w' r b ks (js ++ [j]) ∧ Kept (fun q => q = r) W w' ∧ w'.heap.size = W.heap.size := by
 obtain ⟨es, clock, hb, hr, hkeys, hborn, hbn, hval, hjn, hjl⟩ := h
 have hlen : es.toList.length = ks.length := by have := congrArg List.length hkeys; simpa using this
 have hgetb : ∀ j, j < ks.length → ∃ e, es.toList[j]? = some e ∧ (es.toList.map (·.born)).getD j 0 = e.born := fun j hj => by
  have hj' : j < es.toList.length := by omega
  exact ⟨es.toList[j], List.getElem?_eq_getElem hj', by rw [List.getD_eq_getElem?_getD, List.getElem?_map, List.getElem?_eq_getElem hj']; rfl⟩
 rcases run_next_at (P := P) W ty r b clock clock _ es clock hr hb hborn (Nat.le_refl _) with ⟨hz, hrun⟩ | ⟨e, he, w1, hw1, hrun⟩
 ·refine .inl ⟨fun j hj => ?_, hrun⟩
  obtain ⟨e, hje, hbe⟩ := hgetb j hj
  have hem : e ∈ es.toList := List.mem_of_getElem? hje
  have hnl : e ∉ (leftOf es (js.map fun j => (es.toList.map (·.born)).getD j 0).toArray).toList := by
   intro hm
   have := List.length_pos_of_mem hm
   rw [Array.length_toList] at this
   omega
  have hcont : (js.map fun j => (es.toList.map (·.born)).getD j 0).toArray.contains e.born = true := by
   rcases hc : (js.map fun j => (es.toList.map (·.born)).getD j 0).toArray.contains e.born with _ | _
   ·exfalso
    apply hnl
    unfold leftOf
    rw [Array.toList_filter, List.mem_filter]
    exact ⟨hem, by rw [hc]; rfl⟩
   ·exact hc
  have hmem : e.born ∈ js.map fun j => (es.toList.map (·.born)).getD j 0 := by simpa using hcont
  obtain ⟨i, hi, hie⟩ := List.mem_map.1 hmem
  have hil := hjl i hi
  have : i = j := by
   have h1 : i < (es.toList.map (·.born)).length := by simp at hlen ⊢; omega
   have h2 : j < (es.toList.map (·.born)).length := by simp at hlen ⊢; omega
   have e1 : (es.toList.map (·.born))[i] = (es.toList.map (·.born))[j] := by
    have a1 : (es.toList.map (·.born)).getD i 0 = (es.toList.map (·.born))[i] := by rw [List.getD_eq_getElem?_getD, List.getElem?_eq_getElem h1]; rfl
    have a2 : (es.toList.map (·.born)).getD j 0 = (es.toList.map (·.born))[j] := by rw [List.getD_eq_getElem?_getD, List.getElem?_eq_getElem h2]; rfl
    rw [← a1, ← a2, hie, hbe]
   exact (List.getElem_inj hbn).1 e1
  rw [← this]; exact hi
 ·unfold leftOf at he
  rw [Array.toList_filter, List.mem_filter] at he
  obtain ⟨hem, hnc⟩ := he
  obtain ⟨j, hj⟩ := List.mem_iff_getElem?.1 hem
  have hjlt : j < ks.length := by rw [← hlen]; exact (List.getElem?_eq_some_iff.1 hj).1
  obtain ⟨e', hje', hbe'⟩ := hgetb j hjlt
  rw [hj] at hje'
  obtain rfl := Option.some.inj hje'
  have hnj : j ∉ js := by
   intro hm
   simp at hnc
   exact hnc j hm (by simpa using hbe')
  have hka : K ks[j] = e.key := by
   have := congrArg (fun l => l[j]?) hkeys
   simp only [List.getElem?_map, hj, Option.map_some, List.getElem?_eq_getElem hjlt] at this
   exact (Option.some.inj this).symm
  have hw1h : w1.heap = W.heap := by rcases hw1 with rfl | rfl <;> rfl
  have hwo : w1.os = W.os ∧ w1.tape = W.tape ∧ w1.output = W.output := by rcases hw1 with rfl | rfl <;> exact ⟨rfl, rfl, rfl⟩
  have hne : b ≠ r := by rintro rfl; rw [hb] at hr; cases hr
  have hrl := lt_of_heap hr
  refine .inr ⟨j, ks[j], setBlock w1 r (.mapIter (some b) clock ((js.map fun j => (es.toList.map (·.born)).getD j 0).toArray.push e.born) clock), hnj, List.getElem?_eq_getElem hjlt, by rw [hrun, hka, hval e hem], ⟨es, clock, ?_, ?_, hkeys, hborn, hbn, hval, ?_, ?_⟩, ⟨hwo.1, hwo.2.1, hwo.2.2, by simp [setBlock, hw1h], fun q hq hm => ?_⟩, by simp [setBlock, hw1h]⟩
  ·show (w1.heap.setIfInBounds r _)[b]? = _
   rw [Array.getElem?_setIfInBounds_ne (Ne.symm hne), hw1h, hb]
  ·show (w1.heap.setIfInBounds r _)[r]? = _
   rw [Array.getElem?_setIfInBounds_self, hw1h, if_pos hrl, List.map_append, List.map_cons, List.map_nil, hbe']
   simp
  ·rw [List.nodup_append]
   refine ⟨hjn, by simp, fun x hx y hy => ?_⟩
   simp at hy
   subst hy
   rintro rfl
   exact hnj hx
  ·intro i hi
   rcases List.mem_append.1 hi with hi | hi
   ·exact hjl i hi
   ·simp at hi; subst hi; exact hjlt
  ·show (w1.heap.setIfInBounds r _)[q]? = _
   rw [Array.getElem?_setIfInBounds_ne (fun e => hm e.symm), hw1h]
theorem km_entry {W : World} {r b j : Nat} {a : α} {ks : List α} {js : List Nat} (h : KIt K W r b ks (js ++ [j])) (ha : ks[j]? = some a) : (Instr.entry (.pointer (some ⟨r, 0, none⟩))).run P W = .ok (.tuple #[K a, .bool true]) W := by
 obtain ⟨es, clock, hb, hr, hkeys, hborn, hbn, hval, hjn, hjl⟩ := h
 have hjlt := (List.getElem?_eq_some_iff.1 ha).1
 have hlen : es.toList.length = ks.length := by have := congrArg List.length hkeys; simpa using this
 have hj : es.toList[j]? = some es.toList[j] := List.getElem?_eq_getElem (by omega)
 have hbe : (es.toList.map (·.born)).getD j 0 = es.toList[j].born := by rw [List.getD_eq_getElem?_getD, List.getElem?_map, hj]; rfl
 have hka : es.toList[j].key = K a := by
  have := congrArg (fun l => l[j]?) hkeys
  simp only [List.getElem?_map, hj, Option.map_some, ha] at this
  exact Option.some.inj this
 have hem : es.toList[j] ∈ es.toList := List.mem_of_getElem? hj
 rw [← hka, ← hval _ hem]
 refine run_entry_at W r b clock (js.map fun j => (es.toList.map (·.born)).getD j 0).toArray es clock _ ?_ hb hem hbn
 rw [hr, List.map_append, List.map_cons, List.map_nil, hbe]
 simp
end
end Go.Proofs.YtbegdcjofnfkiaaGreatDoor
end
namespace Go.Proofs.YtbegdcjofnfkiaaGreatDoor
section
open Go.RowKit
structure Ar where
 (var : Bool)
 (n : Int)
structure Am where
 (kind : Int)
 (s o v : Ar)
 (term known : Int)
structure Te where
 (op : Int)
 (a b : Ar)
instance : Inhabited Ar := ⟨⟨false, 0⟩⟩
instance : Inhabited Am := ⟨⟨0, default, default, default, 0, 0⟩⟩
instance : Inhabited Te := ⟨⟨0, default, default⟩⟩
def sEnc (s : ByteArray) : List Value := [.string s]
def arEnc (a : Ar) : List Value := [.bool a.var, .int .i64 a.n]
def amEnc (a : Am) : List Value := [.int .i64 a.kind, .bool a.s.var, .int .i64 a.s.n, .bool a.o.var, .int .i64 a.o.n, .bool a.v.var, .int .i64 a.v.n, .int .i64 a.term, .int .i64 a.known]
def teEnc (t : Te) : List Value := [.int .i64 t.op, .bool t.a.var, .int .i64 t.a.n, .bool t.b.var, .int .i64 t.b.n]
theorem sEnc_len (x : ByteArray) : (sEnc x).length = 1 := rfl
theorem arEnc_len (x : Ar) : (arEnc x).length = 2 := rfl
theorem amEnc_len (x : Am) : (amEnc x).length = 9 := rfl
structure Qu where
 (nA : Option Addr) (nn nc : Nat) (names : List ByteArray)
 (sA : Option Addr) (sn sc : Nat) (shows : List Int)
 (aA : Option Addr) (an ac : Nat) (atoms : List Am)
 (tA : Option Addr) (tn tc : Nat) (tests : List Te)
abbrev nSl := Rows 1 (Rep.flat sEnc)
abbrev amSl := Rows 9 (Rep.flat amEnc)
abbrev teSl := Rows 5 (Rep.flat teEnc)
def letB (c : Int) : Bool := decide (97 ≤ c) && decide (c ≤ 122) || decide (65 ≤ c) && decide (c ≤ 90)
def digB (c : Int) : Bool := decide (48 ≤ c) && decide (c ≤ 57)
def partB (c : Int) : Bool := letB c || digB c || decide (c = 95)
def byteI (s : ByteArray) (i : Nat) : Int := ((s.data[i]?.getD 0).toNat : Int)
def nameB (s : ByteArray) : Bool := decide (1 ≤ s.size) && decide (s.size ≤ 32) && letB (byteI s 0) && (List.range s.size).all fun i => partB (byteI s i)
def indexB {α : Type} [DecidableEq α] : List α → α → Int
 | [], _ => -1
 | x :: l, a => if x = a then 0 else (if indexB l a < 0 then -1 else indexB l a + 1)
def valJ (a : Ar) (vs : List Int) : Int := if a.var = true then vs.getD a.n.toNat 0 else a.n
def atomJ (l : List Fc) (vs : List Int) (a : Am) : Bool := decide (atF l ⟨a.kind, valJ a.s vs, valJ a.o vs⟩ a.term a.known = some (valJ a.v vs))
def opJ (op x y : Int) : Bool := if op = -2 then decide (x < y) else if op = -1 then decide (x ≤ y) else if op = 0 then decide (x = y) else decide (x ≠ y)
def testJ (vs : List Int) (t : Te) : Bool := opJ t.op (valJ t.a vs) (valJ t.b vs)
def holdsJ (q : Qu) (l : List Fc) (vs : List Int) : Bool := q.atoms.all (atomJ l vs) && q.tests.all (testJ vs)
def domAdd (ks : List Int) (n : Int) : List Int := if 0 ≤ n then addKey ks n else ks
def domF (ks : List Int) (f : Fc) : List Int := domAdd (domAdd (domAdd ks f.key.subj) f.key.obj) f.val
def domSet (l : List Fc) : List Int := l.foldl domF []
def ltJ (a b : Int) : Bool := decide (a < b)
theorem linJ : Lin ltJ := linI
def withJ (l : List Int) (n : Int) : List Int := if n < 0 then l else ins ltJ n l
def domW (s : List Int) (f : Fc) : List Int := withJ (withJ (withJ s f.key.subj) f.key.obj) f.val
def domR (l : List Fc) : List Int := l.foldl domW []
def lexJ : List Int → List Int → Bool
 | [], [] => false
 | [], _ :: _ => true
 | _ :: _, [] => false
 | a :: l, b :: m => decide (a < b) || (decide (a = b) && lexJ l m)
theorem lexJ_irr : ∀ l, lexJ l l = false
 | [] => rfl
 | a :: l => by simp [lexJ, lexJ_irr l]
theorem lexJ_tr : ∀ a b c, lexJ a b = true → lexJ b c = true → lexJ a c = true
  | [], [], _, h, _ => by simp [lexJ] at h
  | [], _ :: _, [], _, h => by simp [lexJ] at h
  | [], _ :: _, _ :: _, _, _ => rfl
  | _ :: _, [], _, h, _ => by simp [lexJ] at h
  | _ :: _, _ :: _, [], _, h => by simp [lexJ] at h
  | a :: l, b :: m, c :: n, h, h' => by
    have ih := lexJ_tr l m n
    simp only [lexJ, Bool.or_eq_true, Bool.and_eq_true, decide_eq_true_eq] at h h' ⊢
    rcases h with h | ⟨h, h1⟩ <;> rcases h' with h' | ⟨h', h2⟩
    · exact .inl (by omega)
    · exact .inl (by omega)
    · exact .inl (by omega)
    · exact .inr ⟨by omega, ih h1 h2⟩
theorem lexJ_tri : ∀ a b, lexJ a b = true ∨ a = b ∨ lexJ b a = true
  | [], [] => .inr (.inl rfl)
  | [], _ :: _ => .inl rfl
  | _ :: _, [] => .inr (.inr rfl)
  | a :: l, b :: m => by
    have ih := lexJ_tri l m
    simp only [lexJ, Bool.or_eq_true, Bool.and_eq_true, decide_eq_true_eq, List.cons.injEq]
    rcases Int.lt_trichotomy a b with h | h | h
    · exact .inl (.inl h)
    · rcases ih with h1 | h1 | h1
      · exact .inl (.inr ⟨h, h1⟩)
      · exact .inr (.inl ⟨h, h1⟩)
      · exact .inr (.inr (.inr ⟨h.symm, h1⟩))
    · exact .inr (.inr (.inl h))
theorem linX : Lin lexJ := ⟨lexJ_irr, lexJ_tr, lexJ_tri⟩
inductive Cnd where
 | atom (a : Am)
 | test (t : Te)
def cndJ (l : List Fc) (vs : List Int) : Cnd → Bool
 | .atom a => atomJ l vs a
 | .test t => testJ vs t
def lvlStep (n : Int) (a : Ar) : Int := if a.var = true then max n (a.n + 1) else n
def lvlL (l : List Ar) : Int := l.foldl lvlStep 0
def lvlA (a : Am) : Int := lvlL [a.s, a.o, a.v]
def lvlT (t : Te) : Int := lvlL [t.a, t.b]
def cndsA (al : List Am) (i : Nat) : List Cnd := (al.filter fun a => decide (lvlA a = i)).map .atom
def cndsT (ts : List Te) (i : Nat) : List Cnd := (ts.filter fun t => decide (lvlT t = i)).map .test
def cndsJ (q : Qu) (i : Nat) : List Cnd := cndsA q.atoms i ++ cndsT q.tests i
def fulF (l : List Fc) (D : List Int) (cs : Nat → List Cnd) : Nat → List Int → List (List Int)
 | 0, vs => if (cs vs.length).all (cndJ l vs) = true then [vs] else []
 | k + 1, vs => if (cs vs.length).all (cndJ l vs) = true then D.flatMap fun n => fulF l D cs k (vs ++ [n]) else []
def fulJ (q : Qu) (l : List Fc) : List (List Int) := fulF l (domR l) (cndsJ q) q.names.length []
def showJ (q : Qu) (vs : List Int) : List Int := q.shows.map fun i => vs.getD i.toNat 0
def rowsJ (q : Qu) (l : List Fc) : List (List Int) := ordOf lexJ ((fulJ q l).map (showJ q))
def argsA (al : List Am) : List Ar := al.flatMap fun a => [a.s, a.o, a.v]
def argsT (ts : List Te) : List Ar := ts.flatMap fun t => [t.a, t.b]
def argsJ (q : Qu) : List Ar := argsA q.atoms ++ argsT q.tests
def varsA (l : List Ar) : List Int := (l.filter (·.var)).map (·.n)
def varsJ (q : Qu) : List Int := q.shows ++ varsA (argsJ q)
def inB (n a b : Int) : Bool := decide (a ≤ n) && decide (n ≤ b)
def amOk (a : Am) : Bool := inB a.kind 1 12 && inB a.term 0 1023 && inB a.known 0 16777216
def teOk (t : Te) : Bool := inB t.op (-2) 1
def arOk (a : Ar) : Bool := a.var || inB a.n 0 1099511627776
def nextStep (m : Nat) (s : Option Int) (n : Int) : Option Int := match s with
 | none => none
 | some k => if n < 0 ∨ k < n ∨ (m : Int) ≤ n then none else if n = k then some (k + 1) else some k
def nextJ (m : Nat) (l : List Int) : Option Int := l.foldl (nextStep m) (some 0)
def firstB {α : Type} [DecidableEq α] (l : List α) : Bool := (List.range l.length).all fun i => match l[i]? with
 | some a => decide (indexB l a = i)
 | none => true
def sizesJ (q : Qu) : Bool := decide (q.names.length ≤ 8) && inB q.shows.length 1 8 && inB (q.atoms.length + q.tests.length) 1 16
def checkJ (wd : ByteArray → Int) (q : Qu) : Bool := sizesJ q && (q.names.all fun s => nameB s && decide (wd s = 0)) && firstB q.names && firstB q.shows && q.atoms.all amOk && q.tests.all teOk && (argsJ q).all arOk &&
 decide (nextJ q.names.length (varsJ q) = some (q.names.length : Int))
def orderJ (l : List Int) : List Int := l.foldl (fun s n => if n ∈ s then s else s ++ [n]) []
def arOkR (m : Nat) (a : Ar) : Bool := if a.var = true then inB a.n 0 (m - 1) else inB a.n 0 1099511627776
def checkR (wd : ByteArray → Int) (q : Qu) : Bool := sizesJ q && (q.names.all fun s => nameB s && decide (wd s = 0)) && firstB q.names && (q.shows.all fun n => inB n 0 (q.names.length - 1)) && firstB q.shows && q.atoms.all amOk && q.tests.all teOk && (argsJ q).all (arOkR q.names.length) &&
 decide (orderJ (varsJ q) = (List.range q.names.length).map fun (i : Nat) => (i : Int))
end
section
open Go.RowKit
def rangeI (k : Nat) : List Int := (List.range k).map fun (i : Nat) => (i : Int)
theorem rangeI_succ (k : Nat) : rangeI (k + 1) = rangeI k ++ [(k : Int)] := by simp [rangeI, List.range_succ]
theorem rangeI_len (k : Nat) : (rangeI k).length = k := by simp [rangeI]
theorem rangeI_mem {k : Nat} {n : Int} : n ∈ rangeI k ↔ 0 ≤ n ∧ n < k := by
 simp only [rangeI, List.mem_map, List.mem_range]
 constructor
 ·rintro ⟨a, h, rfl⟩; omega
 ·intro h; exact ⟨n.toNat, by omega, by omega⟩
theorem rangeI_get {k i : Nat} (h : i < k) : (rangeI k)[i]? = some (i : Int) := by simp [rangeI, h]
def ordStep (s : List Int) (n : Int) : List Int := if n ∈ s then s else s ++ [n]
theorem ord_prefix : ∀ (l s : List Int), ∃ t, l.foldl ordStep s = s ++ t
  | [], s => ⟨[], by simp⟩
  | n :: l, s => by
    obtain ⟨t, ht⟩ := ord_prefix l (ordStep s n)
    rw [List.foldl_cons, ht]
    unfold ordStep
    split
    · exact ⟨t, rfl⟩
    · exact ⟨n :: t, by simp⟩
theorem next_none (m : Nat) : ∀ l : List Int, l.foldl (nextStep m) none = none
 | [] => rfl
 | _ :: l => next_none m l
theorem next_spec (m : Nat) : ∀ (l : List Int) (k r : Nat), k ≤ m → (l.foldl (nextStep m) (some (k : Int)) = some (r : Int) ↔ (∀ n ∈ l, 0 ≤ n ∧ n < m) ∧ l.foldl ordStep (rangeI k) = rangeI r)
  | [], k, r, _ => by
    constructor
    · intro h
      have : (k : Int) = r := Option.some.inj h
      obtain rfl : k = r := by omega
      exact ⟨by simp, rfl⟩
    · rintro ⟨_, h⟩
      have := congrArg List.length h
      simp only [List.foldl_nil, rangeI_len] at this
      subst this; rfl
  | n :: l, k, r, hk => by
    rw [List.foldl_cons, List.foldl_cons]
    by_cases hbad : n < 0 ∨ (k : Int) < n ∨ (m : Int) ≤ n
    · have e1 : nextStep m (some (k : Int)) n = none := by simp only [nextStep]; rw [if_pos hbad]
      rw [e1, next_none]
      constructor
      · intro h; cases h
      · rintro ⟨h1, h2⟩
        exfalso
        have hn := h1 n (by simp)
        have hkn : (k : Int) < n := by omega
        have hnot : n ∉ rangeI k := by rw [rangeI_mem]; omega
        have e2 : ordStep (rangeI k) n = rangeI k ++ [n] := by unfold ordStep; rw [if_neg hnot]
        rw [e2] at h2
        obtain ⟨t, ht⟩ := ord_prefix l (rangeI k ++ [n])
        rw [ht] at h2
        have h3 := congrArg (fun z => z[k]?) h2
        simp only [List.append_assoc] at h3
        rw [List.getElem?_append_right (by rw [rangeI_len]; exact Nat.le_refl _), rangeI_len, Nat.sub_self] at h3
        simp only [List.singleton_append, List.getElem?_cons_zero] at h3
        have h4 : k < r := by
          have := (List.getElem?_eq_some_iff.1 h3.symm).1
          rwa [rangeI_len] at this
        rw [rangeI_get h4] at h3
        have := Option.some.inj h3
        omega
    · by_cases hnk : n = k
      · have e1 : nextStep m (some (k : Int)) n = some ((k + 1 : Nat) : Int) := by
          simp only [nextStep]; rw [if_neg hbad, if_pos hnk]; simp
        have hnot : n ∉ rangeI k := by rw [rangeI_mem]; omega
        have e2 : ordStep (rangeI k) n = rangeI (k + 1) := by unfold ordStep; rw [if_neg hnot, rangeI_succ, hnk]
        rw [e1, e2, next_spec m l (k + 1) r (by omega)]
        simp only [List.mem_cons, forall_eq_or_imp]
        constructor
        · rintro ⟨h1, h2⟩; exact ⟨⟨by omega, h1⟩, h2⟩
        · rintro ⟨⟨_, h1⟩, h2⟩; exact ⟨h1, h2⟩
      · have e1 : nextStep m (some (k : Int)) n = some (k : Int) := by
          simp only [nextStep]; rw [if_neg hbad, if_neg hnk]
        have hin : n ∈ rangeI k := by rw [rangeI_mem]; omega
        have e2 : ordStep (rangeI k) n = rangeI k := by unfold ordStep; rw [if_pos hin]
        rw [e1, e2, next_spec m l k r hk]
        simp only [List.mem_cons, forall_eq_or_imp]
        constructor
        · rintro ⟨h1, h2⟩; exact ⟨⟨by omega, h1⟩, h2⟩
        · rintro ⟨⟨_, h1⟩, h2⟩; exact ⟨h1, h2⟩
theorem next_order (m : Nat) (l : List Int) : nextJ m l = some (m : Int) ↔ (∀ n ∈ l, 0 ≤ n ∧ n < m) ∧ orderJ l = rangeI m := by
 have := next_spec m l 0 m (by omega)
 exact this
theorem varsA_mem {l : List Ar} {n : Int} : n ∈ varsA l ↔ ∃ a ∈ l, a.var = true ∧ a.n = n := by
 simp [varsA, and_assoc]
theorem check_refJ (wd : ByteArray → Int) (q : Qu) : checkJ wd q = checkR wd q := by
 rw [Bool.eq_iff_iff]
 simp only [checkJ, checkR, Bool.and_eq_true, decide_eq_true_eq, next_order]
 have h1 : (∀ n ∈ varsJ q, 0 ≤ n ∧ n < q.names.length) ↔ (∀ n ∈ q.shows, 0 ≤ n ∧ n < q.names.length) ∧ ∀ a ∈ argsJ q, a.var = true → 0 ≤ a.n ∧ a.n < q.names.length := by
  simp only [varsJ, List.mem_append, varsA_mem]
  constructor
  ·exact fun h => ⟨fun n hn => h n (.inl hn), fun a ha hv => h a.n (.inr ⟨a, ha, hv, rfl⟩)⟩
  ·rintro ⟨h1, h2⟩ n (hn | ⟨a, ha, hv, rfl⟩)
   ·exact h1 n hn
   ·exact h2 a ha hv
 have h2 : (q.shows.all fun n => inB n 0 (q.names.length - 1)) = true ↔ ∀ n ∈ q.shows, 0 ≤ n ∧ n < q.names.length := by
  simp only [List.all_eq_true, inB, Bool.and_eq_true, decide_eq_true_eq]
  exact ⟨fun h n hn => by have := h n hn; omega, fun h n hn => by have := h n hn; omega⟩
 have h3 : ((argsJ q).all (arOkR q.names.length)) = true ↔ (argsJ q).all arOk = true ∧ ∀ a ∈ argsJ q, a.var = true → 0 ≤ a.n ∧ a.n < q.names.length := by
  simp only [List.all_eq_true]
  constructor
  ·intro h
   refine ⟨fun a ha => ?_, fun a ha hv => ?_⟩
   ·have := h a ha
    unfold arOkR at this
    unfold arOk
    cases hv : a.var with
    | true => rfl
    | false => rw [hv] at this; simpa using this
   ·have := h a ha
    unfold arOkR at this
    rw [if_pos hv] at this
    simp only [inB, Bool.and_eq_true, decide_eq_true_eq] at this
    omega
  ·rintro ⟨h4, h5⟩ a ha
   unfold arOkR
   split
   ·rename_i hv
    have := h5 a ha hv
    simp only [inB, Bool.and_eq_true, decide_eq_true_eq]
    omega
   ·rename_i hv
    have := h4 a ha
    unfold arOk at this
    simpa [hv] using this
 rw [h1, h2, h3]
 show _ ↔ _ ∧ orderJ (varsJ q) = rangeI _
 constructor
 ·rintro ⟨⟨⟨⟨⟨⟨⟨a, b⟩, c⟩, d⟩, e⟩, f⟩, g⟩, ⟨i, j⟩, k⟩
  exact ⟨⟨⟨⟨⟨⟨⟨⟨a, b⟩, c⟩, i⟩, d⟩, e⟩, f⟩, g, j⟩, k⟩
 ·rintro ⟨⟨⟨⟨⟨⟨⟨⟨a, b⟩, c⟩, i⟩, d⟩, e⟩, f⟩, g, j⟩, k⟩
  exact ⟨⟨⟨⟨⟨⟨⟨a, b⟩, c⟩, d⟩, e⟩, f⟩, g⟩, ⟨i, j⟩, k⟩
def VarsOk (q : Qu) : Prop := (∀ n ∈ q.shows, 0 ≤ n ∧ n < q.names.length) ∧ (∀ a ∈ argsJ q, a.var = true → 0 ≤ a.n ∧ a.n < q.names.length) ∧ ∀ t ∈ q.tests, -2 ≤ t.op ∧ t.op ≤ 1
theorem check_vars {wd : ByteArray → Int} {q : Qu} (h : checkJ wd q = true) : VarsOk q := by
 have h0 := h
 rw [check_refJ] at h
 simp only [checkR, Bool.and_eq_true, decide_eq_true_eq] at h
 simp only [checkJ, Bool.and_eq_true, decide_eq_true_eq, next_order] at h0
 have h1 := h0.2.1
 refine ⟨fun n hn => h1 n (List.mem_append_left _ hn), fun a ha hv => h1 a.n (List.mem_append_right _ (varsA_mem.2 ⟨a, ha, hv, rfl⟩)), fun t ht => ?_⟩
 have h2 := List.all_eq_true.1 h.1.1.2 t ht
 simp only [teOk, inB, Bool.and_eq_true, decide_eq_true_eq] at h2
 omega
theorem addKey_memJ {α : Type} [DecidableEq α] (ks : List α) (a k : α) : k ∈ addKey ks a ↔ k ∈ ks ∨ k = a := by
 unfold addKey
 split
 ·exact ⟨.inl, fun h => h.elim id (fun e => by subst e; assumption)⟩
 ·simp
theorem domAdd_mem {ks : List Int} {n k : Int} : k ∈ domAdd ks n ↔ k ∈ ks ∨ (k = n ∧ 0 ≤ n) := by
 unfold domAdd
 split
 ·rename_i h; rw [addKey_memJ]; simp [h]
 ·rename_i h; simp [h]
theorem withJ_mem {ks : List Int} {n k : Int} : k ∈ withJ ks n ↔ k ∈ ks ∨ (k = n ∧ 0 ≤ n) := by
 unfold withJ
 split
 ·rename_i h; simp; omega
 ·rename_i h; rw [ins_mem]; constructor
  ·rintro (h1 | h1)
   ·exact .inr ⟨h1, by omega⟩
   ·exact .inl h1
  ·rintro (h1 | h1)
   ·exact .inr h1
   ·exact .inl h1.1
theorem withJ_str {ks : List Int} (n : Int) (h : Str ltJ ks) : Str ltJ (withJ ks n) := by
 unfold withJ
 split
 ·exact h
 ·exact ins_str linJ _ _ h
def DomOf (l : List Fc) (k : Int) : Prop := 0 ≤ k ∧ ∃ f ∈ l, k = f.key.subj ∨ k = f.key.obj ∨ k = f.val
theorem domSet_mem (l : List Fc) (k : Int) : k ∈ domSet l ↔ DomOf l k := by
  have : ∀ (l : List Fc) (s : List Int), k ∈ l.foldl domF s ↔ k ∈ s ∨ DomOf l k := by
    intro l
    induction l with
    | nil => intro s; simp [DomOf]
    | cons f l ih =>
      intro s
      rw [List.foldl_cons, ih]
      unfold domF
      simp only [domAdd_mem, DomOf, List.mem_cons, exists_eq_or_imp]
      constructor
      · rintro ((((h | h) | h) | h) | h)
        · exact .inl h
        · exact .inr ⟨by omega, .inl (.inl h.1)⟩
        · exact .inr ⟨by omega, .inl (.inr (.inl h.1))⟩
        · exact .inr ⟨by omega, .inl (.inr (.inr h.1))⟩
        · exact .inr ⟨h.1, .inr h.2⟩
      · rintro (h | ⟨h0, (h | h | h) | h⟩)
        · exact .inl (.inl (.inl (.inl h)))
        · exact .inl (.inl (.inl (.inr ⟨h, by omega⟩)))
        · exact .inl (.inl (.inr ⟨h, by omega⟩))
        · exact .inl (.inr ⟨h, by omega⟩)
        · exact .inr ⟨h0, h⟩
  have h := this l []
  simpa [domSet] using h
theorem domR_mem (l : List Fc) (k : Int) : k ∈ domR l ↔ DomOf l k := by
  have : ∀ (l : List Fc) (s : List Int), k ∈ l.foldl domW s ↔ k ∈ s ∨ DomOf l k := by
    intro l
    induction l with
    | nil => intro s; simp [DomOf]
    | cons f l ih =>
      intro s
      rw [List.foldl_cons, ih]
      unfold domW
      simp only [withJ_mem, DomOf, List.mem_cons, exists_eq_or_imp]
      constructor
      · rintro ((((h | h) | h) | h) | h)
        · exact .inl h
        · exact .inr ⟨by omega, .inl (.inl h.1)⟩
        · exact .inr ⟨by omega, .inl (.inr (.inl h.1))⟩
        · exact .inr ⟨by omega, .inl (.inr (.inr h.1))⟩
        · exact .inr ⟨h.1, .inr h.2⟩
      · rintro (h | ⟨h0, (h | h | h) | h⟩)
        · exact .inl (.inl (.inl (.inl h)))
        · exact .inl (.inl (.inl (.inr ⟨h, by omega⟩)))
        · exact .inl (.inl (.inr ⟨h, by omega⟩))
        · exact .inl (.inr ⟨h, by omega⟩)
        · exact .inr ⟨h0, h⟩
  have h := this l []
  simpa [domR] using h
theorem domR_str (l : List Fc) : Str ltJ (domR l) := by
 have : ∀ (l : List Fc) (s : List Int), Str ltJ s → Str ltJ (l.foldl domW s) := by
  intro l
  induction l with
  | nil => intro s h; exact h
  | cons f l ih => intro s h; exact ih _ (withJ_str _ (withJ_str _ (withJ_str _ h)))
 exact this l [] (by simp [Str])
theorem domSet_nodup (l : List Fc) : (domSet l).Nodup := by
 have ha : ∀ (s : List Int) (n : Int), s.Nodup → (domAdd s n).Nodup := by
  intro s n h
  unfold domAdd addKey
  split
  ·split
   ·exact h
   ·rename_i hn
    rw [List.nodup_append]
    refine ⟨h, by simp, fun x hx y hy => ?_⟩
    obtain rfl := List.mem_singleton.1 hy
    rintro rfl
    exact hn hx
  ·exact h
 have : ∀ (l : List Fc) (s : List Int), s.Nodup → (l.foldl domF s).Nodup := by
  intro l
  induction l with
  | nil => intro s h; exact h
  | cons f l ih => intro s h; exact ih _ (ha _ _ (ha _ _ (ha _ _ h)))
 exact this l [] (by simp)
theorem dom_eq {l : List Fc} {xs : List Int} (hp : xs.Perm (domSet l)) : (xs.mergeSort fun x y => decide (x ≤ y)) = domR l := by
 have hs := List.pairwise_mergeSort (le := fun x y : Int => decide (x ≤ y)) (fun a b c h1 h2 => by simp at *; omega) (fun a b => by simp; omega) xs
 have hq : (xs.mergeSort fun x y => decide (x ≤ y)).Perm (domSet l) := (List.mergeSort_perm _ _).trans hp
 refine str_ext linJ ?_ (domR_str l) fun c => ?_
 ·exact (hs.and ((hq.nodup_iff).2 (domSet_nodup _))).imp fun {x y} h => by
   have h1 := h.1; have h2 := h.2
   simp only [ltJ, decide_eq_true_eq] at *
   omega
 ·rw [hq.mem_iff, domSet_mem, domR_mem]
theorem domSet_len (l : List Fc) : (domSet l).length ≤ 3 * l.length := by
  have ha : ∀ (s : List Int) (n : Int), (domAdd s n).length ≤ s.length + 1 := by
    intro s n; unfold domAdd addKey; split
    · split <;> simp
    · omega
  have : ∀ (l : List Fc) (s : List Int), (l.foldl domF s).length ≤ s.length + 3 * l.length := by
    intro l
    induction l with
    | nil => intro s; simp
    | cons f l ih =>
      intro s
      have h1 := ih (domF s f)
      have h2 := ha s f.key.subj
      have h3 := ha (domAdd s f.key.subj) f.key.obj
      have h4 := ha (domAdd (domAdd s f.key.subj) f.key.obj) f.val
      rw [List.foldl_cons, List.length_cons]
      unfold domF at h1 ⊢
      omega
  simpa [domSet] using this l []
theorem fulF_mem (l : List Fc) (D : List Int) (cs : Nat → List Cnd) (x : List Int) : ∀ (k : Nat) (vs : List Int), x ∈ fulF l D cs k vs ↔ ∃ e : List Int, e.length = k ∧ (∀ n ∈ e, n ∈ D) ∧ x = vs ++ e ∧ ∀ i, vs.length ≤ i → i ≤ vs.length + k → (cs i).all (cndJ l (x.take i)) = true
  | 0, vs => by
    unfold fulF
    constructor
    · intro h
      split at h
      · rename_i hc
        obtain rfl := List.mem_singleton.1 h
        refine ⟨[], rfl, by simp, by simp, fun i h1 h2 => ?_⟩
        obtain rfl : i = x.length := by omega
        rwa [List.take_of_length_le (Nat.le_refl _)]
      · cases h
    · rintro ⟨e, he, _, rfl, h⟩
      obtain rfl := List.eq_nil_of_length_eq_zero he
      have := h vs.length (Nat.le_refl _) (by omega)
      simp only [List.append_nil, List.take_length] at this ⊢
      rw [if_pos this]; simp
  | k + 1, vs => by
    unfold fulF
    constructor
    · intro h
      split at h
      · rename_i hc
        obtain ⟨n, hn, h⟩ := List.mem_flatMap.1 h
        obtain ⟨e, he, hD, hx, h2⟩ := (fulF_mem l D cs x k (vs ++ [n])).1 h
        refine ⟨n :: e, by simp [he], fun y hy => ?_, by rw [hx]; simp, fun i h3 h4 => ?_⟩
        · rcases List.mem_cons.1 hy with rfl | hy
          · exact hn
          · exact hD y hy
        · rcases Nat.eq_or_lt_of_le h3 with h5 | h5
          · subst h5
            rw [hx]
            simpa using hc
          · exact h2 i (by simp; omega) (by simp; omega)
      · cases h
    · rintro ⟨e, he, hD, hx, h⟩
      cases e with
      | nil => cases he
      | cons n e =>
        have h0 := h vs.length (Nat.le_refl _) (by omega)
        rw [hx] at h0
        simp only [List.take_left] at h0
        rw [if_pos h0]
        refine List.mem_flatMap.2 ⟨n, hD n (by simp), (fulF_mem l D cs x k (vs ++ [n])).2 ⟨e, by simpa using he, fun y hy => hD y (by simp [hy]), by rw [hx]; simp, fun i h1 h2 => h i (by simp at h1; omega) (by simp at h2; omega)⟩⟩
theorem valJ_take {a : Ar} {x : List Int} {i : Nat} (h : a.var = true → 0 ≤ a.n ∧ a.n < i) : valJ a (x.take i) = valJ a x := by
 unfold valJ
 split
 ·rename_i hv
  have := h hv
  simp only [List.getD_eq_getElem?_getD, List.getElem?_take]
  rw [if_pos (by omega)]
 ·rfl
theorem lvlStep_le (n : Int) (a : Ar) : n ≤ lvlStep n a := by unfold lvlStep; split <;> omega
theorem lvlL_le : ∀ (l : List Ar) (n : Int), n ≤ l.foldl lvlStep n ∧ ∀ a ∈ l, a.var = true → a.n + 1 ≤ l.foldl lvlStep n
  | [], n => ⟨Int.le_refl _, by simp⟩
  | a :: l, n => by
    obtain ⟨h1, h2⟩ := lvlL_le l (lvlStep n a)
    have h3 := lvlStep_le n a
    rw [List.foldl_cons]
    refine ⟨by omega, fun b hb hv => ?_⟩
    rcases List.mem_cons.1 hb with rfl | hb
    · have : b.n + 1 ≤ lvlStep n b := by unfold lvlStep; rw [if_pos hv]; omega
      omega
    · exact h2 b hb hv
theorem lvlL_bd (m : Int) : ∀ (l : List Ar) (n : Int), n ≤ m → (∀ a ∈ l, a.var = true → a.n < m) → l.foldl lvlStep n ≤ m
  | [], n, h, _ => h
  | a :: l, n, h, h2 => by
    rw [List.foldl_cons]
    refine lvlL_bd m l _ ?_ fun b hb => h2 b (by simp [hb])
    unfold lvlStep
    split
    · rename_i hv; have := h2 a (by simp) hv; omega
    · exact h
theorem args_atom {q : Qu} {a : Am} (ha : a ∈ q.atoms) {x : Ar} (hx : x ∈ [a.s, a.o, a.v]) : x ∈ argsJ q := List.mem_append_left _ (List.mem_flatMap.2 ⟨a, ha, hx⟩)
theorem args_test {q : Qu} {t : Te} (ht : t ∈ q.tests) {x : Ar} (hx : x ∈ [t.a, t.b]) : x ∈ argsJ q := List.mem_append_right _ (List.mem_flatMap.2 ⟨t, ht, hx⟩)
theorem atom_take {q : Qu} (hv : VarsOk q) {a : Am} (ha : a ∈ q.atoms) {i : Nat} (hi : lvlA a ≤ i) (l : List Fc) (x : List Int) : atomJ l (x.take i) a = atomJ l x a := by
 have h := (lvlL_le [a.s, a.o, a.v] 0).2
 have e : ∀ y ∈ [a.s, a.o, a.v], valJ y (x.take i) = valJ y x := fun y hy => valJ_take fun hv' => by
  have h1 := h y hy hv'
  have h2 := hv.2.1 y (args_atom ha hy) hv'
  have h3 : y.n + 1 ≤ lvlA a := h1
  omega
 unfold atomJ
 rw [e a.s (by simp), e a.o (by simp), e a.v (by simp)]
theorem test_take {q : Qu} (hv : VarsOk q) {t : Te} (ht : t ∈ q.tests) {i : Nat} (hi : lvlT t ≤ i) (x : List Int) : testJ (x.take i) t = testJ x t := by
 have h := (lvlL_le [t.a, t.b] 0).2
 have e : ∀ y ∈ [t.a, t.b], valJ y (x.take i) = valJ y x := fun y hy => valJ_take fun hv' => by
  have h1 := h y hy hv'
  have h2 := hv.2.1 y (args_test ht hy) hv'
  have h3 : y.n + 1 ≤ lvlT t := h1
  omega
 unfold testJ
 rw [e t.a (by simp), e t.b (by simp)]
theorem cnds_mem {q : Qu} {i : Nat} {c : Cnd} : c ∈ cndsJ q i ↔ (∃ a ∈ q.atoms, lvlA a = i ∧ c = .atom a) ∨ ∃ t ∈ q.tests, lvlT t = i ∧ c = .test t := by
 simp only [cndsJ, cndsA, cndsT, List.mem_append, List.mem_map, List.mem_filter, decide_eq_true_eq]
 constructor
 ·rintro (⟨a, ⟨h1, h2⟩, rfl⟩ | ⟨t, ⟨h1, h2⟩, rfl⟩)
  ·exact .inl ⟨a, h1, h2, rfl⟩
  ·exact .inr ⟨t, h1, h2, rfl⟩
 ·rintro (⟨a, h1, h2, rfl⟩ | ⟨t, h1, h2, rfl⟩)
  ·exact .inl ⟨a, ⟨h1, h2⟩, rfl⟩
  ·exact .inr ⟨t, ⟨h1, h2⟩, rfl⟩
theorem lvlA_bd {q : Qu} (hv : VarsOk q) {a : Am} (ha : a ∈ q.atoms) : 0 ≤ lvlA a ∧ lvlA a ≤ q.names.length :=
 ⟨(lvlL_le _ 0).1, lvlL_bd _ _ _ (by omega) fun x hx hv' => (hv.2.1 x (args_atom ha hx) hv').2⟩
theorem lvlT_bd {q : Qu} (hv : VarsOk q) {t : Te} (ht : t ∈ q.tests) : 0 ≤ lvlT t ∧ lvlT t ≤ q.names.length :=
 ⟨(lvlL_le _ 0).1, lvlL_bd _ _ _ (by omega) fun x hx hv' => (hv.2.1 x (args_test ht hx) hv').2⟩
theorem conds_holds {q : Qu} (hv : VarsOk q) (l : List Fc) (x : List Int) : (∀ i : Nat, i ≤ q.names.length → (cndsJ q i).all (cndJ l (x.take i)) = true) ↔ holdsJ q l x = true := by
 simp only [holdsJ, Bool.and_eq_true, List.all_eq_true]
 constructor
 ·intro h
  refine ⟨fun a ha => ?_, fun t ht => ?_⟩
  ·have hb := lvlA_bd hv ha
   have := h (lvlA a).toNat (by omega) (.atom a) (cnds_mem.2 (.inl ⟨a, ha, by omega, rfl⟩))
   rw [← atom_take hv ha (i := (lvlA a).toNat) (by omega) l x]
   exact this
  ·have hb := lvlT_bd hv ht
   have := h (lvlT t).toNat (by omega) (.test t) (cnds_mem.2 (.inr ⟨t, ht, by omega, rfl⟩))
   rw [← test_take hv ht (i := (lvlT t).toNat) (by omega) x]
   exact this
 ·rintro ⟨h1, h2⟩ i hi c hc
  rcases cnds_mem.1 hc with ⟨a, ha, he, rfl⟩ | ⟨t, ht, he, rfl⟩
  ·show atomJ l (x.take i) a = true
   rw [atom_take hv ha (by omega)]; exact h1 a ha
  ·show testJ (x.take i) t = true
   rw [test_take hv ht (by omega)]; exact h2 t ht
theorem ful_mem {q : Qu} (hv : VarsOk q) (l : List Fc) (x : List Int) : x ∈ fulJ q l ↔ x.length = q.names.length ∧ (∀ n ∈ x, n ∈ domR l) ∧ holdsJ q l x = true := by
 unfold fulJ
 rw [fulF_mem, ← conds_holds hv l x]
 simp only [List.nil_append, List.length_nil, Nat.zero_add, Nat.zero_le, forall_const]
 constructor
 ·rintro ⟨e, h1, h2, rfl, h3⟩; exact ⟨h1, h2, h3⟩
 ·rintro ⟨h1, h2, h3⟩; exact ⟨x, h1, h2, rfl, h3⟩
theorem rowsJ_str (q : Qu) (l : List Fc) : Str lexJ (rowsJ q l) := ordOf_str linX _
theorem fulF_len (l : List Fc) (D : List Int) (cs : Nat → List Cnd) : ∀ (k : Nat) (vs : List Int), (fulF l D cs k vs).length ≤ D.length ^ k
  | 0, vs => by unfold fulF; split <;> simp
  | k + 1, vs => by
    unfold fulF
    split
    · have ih := fun n => fulF_len l D cs k (vs ++ [n])
      have : ∀ E : List Int, (E.flatMap fun n => fulF l D cs k (vs ++ [n])).length ≤ E.length * D.length ^ k := by
        intro E
        induction E with
        | nil => simp
        | cons y E ihE =>
          have := ih y
          rw [List.flatMap_cons, List.length_append, List.length_cons, Nat.succ_mul]
          omega
      have h := this D
      rwa [Nat.pow_succ, Nat.mul_comm] 
    · simp
end
section
open Go.RowKit
end
section
open Go.RowKit
def TotF (l : List Fc) : Prop := ∀ a ∈ l, ∀ b ∈ l, a = b ∨ a.bef b = true ∨ b.bef a = true
theorem bef_iff (a b : Fc) : a.bef b = true ↔ a.known < b.known ∨ (a.known = b.known ∧ a.no < b.no) := by simp [Fc.bef]
theorem bef_trans {a b c : Fc} (h1 : a.bef b = true) (h2 : b.bef c = true) : a.bef c = true := by
 rw [bef_iff] at *; omega
theorem bef_asymm {a b : Fc} (h1 : a.bef b = true) (h2 : b.bef a = true) : False := by
 rw [bef_iff] at *; omega
def BestIs (l : List Fc) (t : Int) : Option Fc → Prop
 | none => ∀ g ∈ l, g.at t = false
 | some f => f ∈ l ∧ f.at t = true ∧ ∀ g ∈ l, g.at t = true → g = f ∨ g.bef f = true
theorem bestF_is (t : Int) (l : List Fc) (h : TotF l) : BestIs l t (bestF l t) := by
  have key : ∀ m : List Fc, TotF m.reverse → BestIs m.reverse t (bestF m.reverse t) := by
    intro m
    induction m with
    | nil => intro _ g hg; cases hg
    | cons f m ih =>
      intro hT
      rw [List.reverse_cons] at hT ⊢
      have ih' := ih fun a ha b hb => hT a (List.mem_append_left _ ha) b (List.mem_append_left _ hb)
      rw [bestF_snoc]
      unfold better
      cases hat : f.at t with
      | false =>
        simp only [Bool.false_eq_true, if_false]
        cases hb : bestF m.reverse t with
        | none =>
          rw [hb] at ih'
          intro g hg
          rcases List.mem_append.1 hg with hg | hg
          · exact ih' g hg
          · rw [List.mem_singleton.1 hg]; exact hat
        | some x =>
          rw [hb] at ih'
          refine ⟨List.mem_append_left _ ih'.1, ih'.2.1, fun g hg hgt => ?_⟩
          rcases List.mem_append.1 hg with hg | hg
          · exact ih'.2.2 g hg hgt
          · rw [List.mem_singleton.1 hg, hat] at hgt; cases hgt
      | true =>
        simp only [if_true]
        cases hb : bestF m.reverse t with
        | none =>
          rw [hb] at ih'
          refine ⟨by simp, hat, fun g hg hgt => ?_⟩
          rcases List.mem_append.1 hg with hg | hg
          · rw [ih' g hg] at hgt; cases hgt
          · exact .inl (List.mem_singleton.1 hg)
        | some x =>
          rw [hb] at ih'
          simp only
          split
          · rename_i hfx
            refine ⟨List.mem_append_left _ ih'.1, ih'.2.1, fun g hg hgt => ?_⟩
            rcases List.mem_append.1 hg with hg | hg
            · exact ih'.2.2 g hg hgt
            · rw [List.mem_singleton.1 hg]; exact .inr hfx
          · rename_i hfx
            refine ⟨by simp, hat, fun g hg hgt => ?_⟩
            have hx : x = f ∨ x.bef f = true := by
              rcases hT x (List.mem_append_left _ ih'.1) f (by simp) with h | h | h
              · exact .inl h
              · exact .inr h
              · exact absurd h hfx
            rcases List.mem_append.1 hg with hg | hg
            · rcases ih'.2.2 g hg hgt with h | h
              · rw [h]; exact hx
              · rcases hx with hx | hx
                · rw [← hx]; exact .inr h
                · exact .inr (bef_trans h hx)
            · exact .inl (List.mem_singleton.1 hg)
  have := key l.reverse
  rw [List.reverse_reverse] at this
  exact this h
theorem bestIs_uniq {l m : List Fc} {t : Int} (hm : ∀ f, f ∈ l ↔ f ∈ m) {a b : Option Fc} (ha : BestIs l t a) (hb : BestIs m t b) : a = b := by
  cases a with
  | none =>
    cases b with
    | none => rfl
    | some y => have := ha y ((hm y).2 hb.1); rw [hb.2.1] at this; cases this
  | some x =>
    cases b with
    | none => have := hb x ((hm x).1 ha.1); rw [ha.2.1] at this; cases this
    | some y =>
      rcases ha.2.2 y ((hm y).2 hb.1) hb.2.1 with h | h
      · rw [h]
      · rcases hb.2.2 x ((hm x).1 ha.1) ha.2.1 with h' | h'
        · rw [h']
        · exact (bef_asymm h h').elim
theorem atF_perm {l m : List Fc} (hT : TotF l) (hm : ∀ f, f ∈ l ↔ f ∈ m) (k : Ky) (t known : Int) : atF l k t known = atF m k t known := by
 have hsub : ∀ f, f ∈ ofF l k known ↔ f ∈ ofF m k known := fun f => by unfold ofF; rw [List.mem_filter, List.mem_filter, hm]
 have hT1 : TotF (ofF l k known) := fun a ha b hb => hT a (List.mem_filter.1 ha).1 b (List.mem_filter.1 hb).1
 have hT2 : TotF (ofF m k known) := fun a ha b hb => hT1 a ((hsub a).2 ha) b ((hsub b).2 hb)
 have := bestIs_uniq hsub (bestF_is t _ hT1) (bestF_is t _ hT2)
 unfold atF; rw [this]
theorem sortedB_tot : ∀ l : List Fc, sortedB l = true → TotF l := by
  have hp : ∀ l : List Fc, sortedB l = true → l.Pairwise fun a b => a.bef b = true := by
    intro l
    induction l with
    | nil => intro _; exact List.Pairwise.nil
    | cons a l ih =>
      intro h
      cases l with
      | nil => simp
      | cons b l =>
        simp only [sortedB, Bool.and_eq_true] at h
        have h2 := ih h.2
        refine List.pairwise_cons.2 ⟨fun c hc => ?_, h2⟩
        rcases List.mem_cons.1 hc with rfl | hc
        · exact h.1
        · exact bef_trans h.1 ((List.pairwise_cons.1 h2).1 c hc)
  intro l h
  have h2 := hp l h
  clear h hp
  revert h2
  induction l with
  | nil => intro _ a ha; cases ha
  | cons x l ih =>
    intro h2
    obtain ⟨h3, h4⟩ := List.pairwise_cons.1 h2
    intro a ha b hb
    rcases List.mem_cons.1 ha with ha1 | ha1
    · subst ha1
      rcases List.mem_cons.1 hb with hb1 | hb1
      · exact .inl hb1.symm
      · exact .inr (.inl (h3 b hb1))
    · rcases List.mem_cons.1 hb with hb1 | hb1
      · subst hb1
        exact .inr (.inr (h3 a ha1))
      · exact ih h4 a ha1 b hb1
theorem checkF_tot {l : List Fc} (h : checkF l = 0) : TotF l := by
 unfold checkF at h
 split at h
 ·split at h
  ·rename_i hs; exact sortedB_tot l hs
  ·cases h
 ·cases h
end
end Go.Proofs.YtbegdcjofnfkiaaGreatDoor
section
namespace Go.Proofs.YtbegdcjofnfkiaaGreatDoor
open Go.RowKit
section
variable {α : Type} {enc : α → List Value} {k base g cap n : Nat} {e : TypeId} {w : World} {P : Program}
def putAt (cs : Array Value) (o : Nat) (vs : List Value) : Array Value := (cs.toList.take o ++ vs ++ cs.toList.drop (o + vs.length)).toArray
theorem run_store_at {t ty : TypeId} {cs : Array Value} {vs : List Value} {o : Nat} (hh : w.heap[g]? = some (.cells cs t (0, 0))) (hi : (P.info? ty).map (·.size) = some vs.length) (hl : o + vs.length ≤ cs.size) (h1 : ∀ v ∈ vs, v.oneCell' = true) :
    (storeVar ty ⟨g, o, none⟩ (.agg vs.toArray)).run P w = .ok () (w.setRow g (putAt cs o vs)) := by
  have hr := run_storeCells_at (P := P) g o t vs 0 cs w hh (by simpa using hl) h1
  cases hq : P.info? ty with
  | none => simp [hq] at hi
  | some i =>
    have hs : i.size = vs.length := by simpa [hq] using hi
    simp only [Nat.add_zero] at hr
    simp [storeVar, sizeOf, typeInfo, hq, Value.cells, hs, hr, putAt]
theorem wpList_store_at {ops : Array Oper} {rest : List Oper} {o : Oper} {a : Act} {Q : Exit → Act → World → Prop} (ty : TypeId) (x y : Operand) (hw : Region.wanted o (yielded ops a.tmps) = true) (ho : o.op = .store ty x y)
  {off : Nat} {t : TypeId} {cs : Array Value} {vs : List Value} (hx : a.eval x = .pointer (some ⟨g, off, none⟩)) (hy : a.eval y = .agg vs.toArray)
  (hh : w.heap[g]? = some (.cells cs t (0, 0))) (hi : (P.info? ty).map (·.size) = some vs.length) (hl : off + vs.length ≤ cs.size) (h1 : ∀ v ∈ vs, v.oneCell' = true)
  (h : wpList P ops Q rest (a.put o.dst undef) (w.setRow g (putAt cs off vs))) : wpList P ops Q (o :: rest) a w :=
 BigFrame.wpList_want hw fun _ hK => by
  unfold Oper.wp execOp
  simp only [ho, hx, hy, Instr.storeAt, Instr.sureAddr, Sem.run_bind, Sem.run_pure, Result.andThen_ok, run_store_at hh hi hl h1]
  exact hK _ _ h
theorem below_setRow {m : Nat} {w0 : World} (hb : Below m w0 w) (hg : m ≤ g) (cs : Array Value) : Below m w0 (w.setRow g cs) :=
 hb.trans ⟨rfl, rfl, rfl, by simp [World.setRow], fun q hq => setRow_other w g q cs (by omega)⟩
end
end Go.Proofs.YtbegdcjofnfkiaaGreatDoor
namespace Go.Proofs.YtbegdcjofnfkiaaGreatDoor
open Go.RowKit
section
variable {α : Type} {enc : α → List Value} {k : Nat}
theorem flat_set_cell (hk : ∀ x, (enc x).length = k) {x x' : α} {j : Nat} {u : Value} (hj : j < k) (he : enc x' = (enc x).set j u) : ∀ (M : List α) (i : Nat), M[i]? = some x → (M.set i x').flatMap enc = (M.flatMap enc).set (i * k + j) u
  | [], i, h => by simp at h
  | y :: M, 0, h => by
    simp at h
    subst h
    simp only [List.set_cons_zero, List.flatMap_cons, Nat.zero_mul, Nat.zero_add]
    rw [List.set_append_left _ _ (by rw [hk]; exact hj), he]
  | y :: M, i + 1, h => by
    have ih := flat_set_cell hk hj he M i (by simpa using h)
    simp only [List.set_cons_succ, List.flatMap_cons]
    rw [ih, List.set_append_right _ _ (by rw [hk, Nat.add_mul]; omega), hk]
    congr 2
    rw [Nat.add_mul]; omega
theorem own_set {w : World} {base n cap g i j : Nat} {e : TypeId} {M : List α} {x x' : α} {u : Value} (hk : ∀ x, (enc x).length = k) (h : w.ownsRow base e k (.slice (some ⟨g, 0, none⟩) n cap) n (M.flatMap enc)) (h0 : 0 < k) (hx : M[i]? = some x) (hj : j < k) (he : enc x' = (enc x).set j u) :
  (w.setCell ⟨g, i * k + j, none⟩ u).ownsRow base e k (.slice (some ⟨g, 0, none⟩) n cap) n ((M.set i x').flatMap enc) := by
 have hlen := own_len hk h0 h
 have hi : i < M.length := (List.getElem?_eq_some_iff.1 hx).1
 obtain ⟨h1, h2⟩ := h
 rcases h2 with ⟨h2, _⟩ | ⟨g', cap', cs, hv, hg, hh, hnc, hcm, hsz, ht⟩
 ·cases h2
 ·injection hv with e1 e2 e3
  injection e1 with e1
  injection e1 with e1
  subst e1 e3
  refine ⟨by rw [flat_len hk, List.length_set, ← hlen], .inr ⟨g, cap, cs.setIfInBounds (i * k + j) u, rfl, hg, ?_, hnc, hcm, by simpa using hsz, ?_⟩⟩
  ·simp [World.setCell, Array.getElem?_modify, hh]
  ·have hik : i * k + k ≤ n * k := by
    have := Nat.mul_le_mul_right k (show i + 1 ≤ n by omega)
    rwa [Nat.add_mul, Nat.one_mul] at this
   rw [flat_set_cell hk hj he M i hx, ← ht, Array.toList_setIfInBounds, List.take_set]
end
end Go.Proofs.YtbegdcjofnfkiaaGreatDoor
namespace Go.Proofs.YtbegdcjofnfkiaaGreatDoor
open Go.RowKit
section
variable {α : Type}
def firstM (p : α → Bool) (l : List α) : Int := match l.findIdx? p with | some i => i | none => -1
theorem firstM_ge (p : α → Bool) (l : List α) : decide (0 ≤ firstM p l) = l.any p := by
  unfold firstM
  cases h : l.findIdx? p with
  | none =>
    rw [List.findIdx?_eq_none_iff] at h
    have : l.any p = false := by rw [List.any_eq_false]; intro x hx; simpa using h x hx
    simp [this]
  | some i =>
    obtain ⟨hi, hp, _⟩ := List.findIdx?_eq_some_iff_getElem.1 h
    have : l.any p = true := by rw [List.any_eq_true]; exact ⟨l[i], List.getElem_mem hi, hp⟩
    simp [this]
theorem firstM_at {p : α → Bool} {l : List α} {k : Nat} {x : α} (hk : l[k]? = some x) (hx : p x = true) (h : (l.take k).all (fun m => !p m) = true) : firstM p l = k := by
 have : l.findIdx? p = some k := by
  obtain ⟨hk', hx'⟩ := List.getElem?_eq_some_iff.1 hk
  rw [List.findIdx?_eq_some_iff_getElem]
  refine ⟨hk', by rw [hx']; exact hx, fun j hj => ?_⟩
  have := List.all_eq_true.1 h l[j] (List.mem_take_iff_getElem.2 ⟨j, by omega, rfl⟩)
  simpa using this
 rw [firstM, this]
theorem firstM_no {p : α → Bool} {l : List α} (h : l.all (fun m => !p m) = true) : firstM p l = -1 := by
 have : l.findIdx? p = none := by
  rw [List.findIdx?_eq_none_iff]
  intro x hx
  simpa using List.all_eq_true.1 h x hx
 rw [firstM, this]
theorem take_eq_step {a b : List α} {k : Nat} {x y : α} (h : a.take k = b.take k) (hx : a[k]? = some x) (hy : b[k]? = some y) (he : x = y) : a.take (k + 1) = b.take (k + 1) := by
 rw [take_snoc hx, take_snoc hy, h, he]
end
theorem heap_set_ne {w : World} {b b' : Nat} {ob : Option Obj} (h : w.heap[b]? = ob) (hne : b ≠ b') (o : Nat) (u : Value) : (w.setCell ⟨b', o, none⟩ u).heap[b]? = ob := (Below.heap_setCell w ⟨b', o, none⟩ u b hne).trans h
end Go.Proofs.YtbegdcjofnfkiaaGreatDoor
end
namespace Go.Proofs.YtbegdcjofnfkiaaGreatDoor
end Go.Proofs.YtbegdcjofnfkiaaGreatDoor
