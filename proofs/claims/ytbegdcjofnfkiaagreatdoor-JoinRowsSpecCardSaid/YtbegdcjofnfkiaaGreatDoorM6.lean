/- Several texts in one: IMap MapV MapA. -/
import Derived.Test.YtbegdcjofnfkiaaGreatDoorM2
import Derived.MapKept
section
/- A map over integers; how far an iterator over a map has come. Over any program. -/
namespace Go.Proofs.YtbegdcjofnfkiaaGreatDoor
open Go.RowKit
section
variable {P : Program} {kt mt : TypeId}
theorem KeyOps.of_int {et : TypeId} (hm : P.underlying mt = some (.map kt et)) (hk : P.underlying kt = some (.int .i64)) : KeyOps P kt mt (fun x : Int => Value.int .i64 x) := by
  refine ⟨⟨et, hm⟩, fun a b h => by injection h, fun a em w => ?_, fun a w => ?_, fun a es w hes => ?_⟩
  · show (Instr.checkKey em (9999 + 1) kt (.int .i64 a)).run P w = .ok () w
    unfold Instr.checkKey
    simp [run_underlying hk]
  · have : Instr.sameBits 10000 (.int .i64 a) (.int .i64 a) = true := by
      show Instr.sameBits (9999 + 1) (.int .i64 a) (.int .i64 a) = true
      simp [Instr.sameBits]
    unfold Instr.keyThatStays
    rw [if_pos this]
    rfl
  · have ask : ∀ (es : List MapEntry) (i : Nat), (∀ e ∈ es, ∃ b : Int, e.key = .int .i64 b) → (Instr.findNow (.int .i64) (.int .i64 a) es i = some none ∧ ∀ e ∈ es, e.key ≠ .int .i64 a) ∨
        ∃ j e, Instr.findNow (.int .i64) (.int .i64 a) es i = some (some (i + j, e.val)) ∧ es[j]? = some e ∧ e.key = .int .i64 a := by
      intro es
      induction es with
      | nil => intro i _; exact .inl ⟨rfl, by simp⟩
      | cons e es ih =>
        intro i h
        obtain ⟨b, hb⟩ := h e (by simp)
        by_cases hab : a = b
        · subst hab
          refine .inr ⟨0, e, ?_, rfl, hb⟩
          simp [Instr.findNow, Instr.sameNow, hb]
        · have hbe : (a == b) = false := by simpa using hab
          rcases ih (i + 1) (fun e' he' => h e' (by simp [he'])) with ⟨h1, h2⟩ | ⟨j, e', h1, h2, h3⟩
          · refine .inl ⟨?_, ?_⟩
            · simp [Instr.findNow, Instr.sameNow, hb, hbe, h1]
            · intro e' he'
              rcases List.mem_cons.1 he' with rfl | he'
              · rw [hb]; intro hh; injection hh with _ hh; exact hab hh.symm
              · exact h2 e' he'
          · refine .inr ⟨j + 1, e', ?_, by simpa using h2, h3⟩
            simp [Instr.findNow, Instr.sameNow, hb, hbe, h1]
            omega
    rcases ask es 0 hes with ⟨h1, h2⟩ | ⟨j, e, h1, h2, h3⟩
    · refine .inl ⟨?_, h2⟩
      simp [Instr.findKey, run_underlying hk, h1]
    · refine .inr ⟨j, e, ?_, h2, h3⟩
      rw [Nat.zero_add] at h1
      simp [Instr.findKey, run_underlying hk, h1]
end
section
variable {α : Type} {K : α → Value}
/-- How many keys the iterator has not yet handed out. -/
def mLeft (W : World) (r n : Nat) : Nat := match W.heap[r]? with
  | some (.mapIter _ _ seen _) => n - seen.size
  | _ => 0
theorem mLeft_eq {W : World} {r b : Nat} {ks : List α} {js : List Nat} (h : KIt K W r b ks js) : mLeft W r ks.length = ks.length - js.length := by
  obtain ⟨es, clock, h1, h2, h3⟩ := h
  simp [mLeft, h2]
theorem nodup_len {n : Nat} {js : List Nat} (h : js.Nodup) (hlt : ∀ j ∈ js, j < n) : js.length ≤ n := by
  have hp := perm_places h hlt
  have := hp.length_eq
  simp at this
  omega
theorem mLeft_lt {W W2 : World} {r b j : Nat} {ks : List α} {js : List Nat} (h : KIt K W r b ks js) (h2 : KIt K W2 r b ks (js ++ [j])) : mLeft W2 r ks.length < mLeft W r ks.length := by
  rw [mLeft_eq h, mLeft_eq h2]
  have := nodup_len h2.js.1 h2.js.2
  simp at this ⊢
  omega
end
end Go.Proofs.YtbegdcjofnfkiaaGreatDoor

end
section
/- A map told by its keys and values; lookups; keys that are strings. Over any program. -/
namespace Go.Proofs.YtbegdcjofnfkiaaGreatDoor
open Go.RowKit
open Go.ChangeMaps (setBlock)
open Go.MapKept (bytes_beq findNow_spec)
section
variable {P : Program} {kt mt : TypeId}
theorem KeyOps.of_string {et : TypeId} (hm : P.underlying mt = some (.map kt et)) (hk : P.underlying kt = some .string) : KeyOps P kt mt (fun s : ByteArray => Value.string s) := by
  refine ⟨⟨et, hm⟩, fun a b h => by injection h, fun a em w => ?_, fun a w => ?_, fun a es w hes => ?_⟩
  · show (Instr.checkKey em (9999 + 1) kt (.string a)).run P w = .ok () w
    unfold Instr.checkKey
    simp [run_underlying hk]
  · have : Instr.sameBits 10000 (.string a) (.string a) = true := by
      show Instr.sameBits (9999 + 1) (.string a) (.string a) = true
      simp [Instr.sameBits]
      exact (bytes_beq a a).2 rfl
    unfold Instr.keyThatStays
    rw [if_pos this]
    rfl
  · rcases findNow_spec (d := .string) (k := .string a) trivial es 0 (fun x hx => by obtain ⟨b, hb⟩ := hes x hx; rw [hb]; trivial) with ⟨h1, h2⟩ | ⟨j, e, h1, h2, h3⟩
    · exact .inl ⟨by simp [Instr.findKey, run_underlying hk, h1], h2⟩
    · rw [Nat.zero_add] at h1
      exact .inr ⟨j, e, by simp [Instr.findKey, run_underlying hk, h1], h2, h3⟩
end
section
variable {α : Type} {P : Program} {kt mt : TypeId} {K : α → Value}
/-- Block b is a map with these keys and values. -/
def KMV (K : α → Value) (W : World) (b : Nat) (kvs : List (α × Value)) : Prop :=
  ∃ es clock, W.heap[b]? = some (.map es clock) ∧ es.toList.map (fun e => (e.key, e.val)) = kvs.map fun p => (K p.1, p.2)
theorem KMV.made (W : World) : KMV K (W.alloc (.map #[] 0)) W.heap.size [] := ⟨#[], 0, World.alloc_heap_new _ _, rfl⟩
theorem KMV.lt {W : World} {b : Nat} {kvs : List (α × Value)} (h : KMV K W b kvs) : b < W.heap.size := by
  obtain ⟨es, clock, h, _⟩ := h; exact lt_of_heap h
theorem KMV.keep {W W' : World} {b : Nat} {kvs : List (α × Value)} (h : KMV K W b kvs) (hb : W'.heap[b]? = W.heap[b]?) : KMV K W' b kvs := by
  obtain ⟨es, clock, h, hr⟩ := h; exact ⟨es, clock, hb.trans h, hr⟩
theorem kmv_push (L : KeyOps P kt mt K) {W : World} {b : Nat} {kvs : List (α × Value)} (h : KMV K W b kvs) {a : α} (ha : ∀ p ∈ kvs, p.1 ≠ a) (v : Value) :
    ∃ w', (Instr.mapUpdate mt (.map (some b)) (K a) v).run P W = .ok () w' ∧ KMV K w' b (kvs ++ [(a, v)]) ∧ W.grownBy w' (some b) ∧ w'.heap.size = W.heap.size := by
  obtain ⟨et, hu⟩ := L.und
  obtain ⟨es, clock, hh, hkeys⟩ := h
  have hg : (getObj b).run P W = .ok (.map es clock) W := by simp [getObj, Sem.run, hh]
  have hs : ∀ o', (setObj b o').run P W = .ok () (setBlock W b o') := fun o' => by simp [setObj, Sem.run, hh, setBlock]
  have hgr : ∀ o', W.grownBy (setBlock W b o') (some b) := fun o' => ⟨rfl, rfl, rfl, by simp [setBlock], fun k hk hne => by
    show (W.heap.setIfInBounds b o')[k]? = _
    rw [Array.getElem?_setIfInBounds_ne (by rintro rfl; exact hne rfl)]⟩
  have hnew : ∀ o', (setBlock W b o').heap[b]? = some o' := fun o' => by
    have := lt_of_heap hh
    show (W.heap.setIfInBounds b o')[b]? = _
    simp [this]
  have hkeyed : ∀ e ∈ es.toList, ∃ p ∈ kvs, e.key = K p.1 ∧ e.val = p.2 := fun e he => by
    have : (e.key, e.val) ∈ kvs.map fun p => (K p.1, p.2) := by rw [← hkeys]; exact List.mem_map_of_mem (f := fun e : MapEntry => (e.key, e.val)) he
    obtain ⟨p, hp, hc⟩ := List.mem_map.1 this
    simp only [Prod.mk.injEq] at hc
    exact ⟨p, hp, hc.1.symm, hc.2.symm⟩
  rcases L.find a es.toList W (fun e he => (hkeyed e he).elim fun p h => ⟨p.1, h.2.1⟩) with ⟨hf, hno⟩ | ⟨j, e, hf, hj, he⟩
  · refine ⟨setBlock W b (.map (es.push { key := K a, val := v, born := clock }) (clock + 1)), ?_, ⟨_, _, hnew _, ?_⟩, hgr _, by simp [setBlock]⟩
    · simp [Instr.mapUpdate, run_underlying hu, hg, L.ck, hf, hs]
    · simp [hkeys]
  · exfalso
    obtain ⟨p, hp, h1, _⟩ := hkeyed e (List.mem_of_getElem? hj)
    exact ha p hp (L.inj _ _ (h1.symm.trans he))
theorem kmv_lookup (L : KeyOps P kt mt K) {et : TypeId} (hu : P.underlying mt = some (.map kt et)) {z : Value} {W : World} (hz : (zeroValue et).run P W = .ok z W) {b : Nat} {kvs : List (α × Value)} (h : KMV K W b kvs) (a : α) :
    ∃ v, (Instr.lookup mt (.map (some b)) (K a) false).run P W = .ok v W ∧ ((∃ p ∈ kvs, p.1 = a ∧ v = p.2) ∨ ((∀ p ∈ kvs, p.1 ≠ a) ∧ v = z)) := by
  obtain ⟨es, clock, hh, hkeys⟩ := h
  have hg : (getObj b).run P W = .ok (.map es clock) W := by simp [getObj, Sem.run, hh]
  have hkeyed : ∀ e ∈ es.toList, ∃ p ∈ kvs, e.key = K p.1 ∧ e.val = p.2 := fun e he => by
    have : (e.key, e.val) ∈ kvs.map fun p => (K p.1, p.2) := by rw [← hkeys]; exact List.mem_map_of_mem (f := fun e : MapEntry => (e.key, e.val)) he
    obtain ⟨p, hp, hc⟩ := List.mem_map.1 this
    simp only [Prod.mk.injEq] at hc
    exact ⟨p, hp, hc.1.symm, hc.2.symm⟩
  rcases L.find a es.toList W (fun e he => (hkeyed e he).elim fun p h => ⟨p.1, h.2.1⟩) with ⟨hf, hno⟩ | ⟨j, e, hf, hj, he⟩
  · refine ⟨z, ?_, .inr ⟨fun p hp hpa => ?_, rfl⟩⟩
    · simp [Instr.lookup, run_underlying hu, hg, L.ck, hf, hz]
    · have : (K p.1, p.2) ∈ es.toList.map fun e => (e.key, e.val) := by rw [hkeys]; exact List.mem_map_of_mem (f := fun p : α × Value => (K p.1, p.2)) hp
      obtain ⟨e, he, hc⟩ := List.mem_map.1 this
      simp only [Prod.mk.injEq] at hc
      exact hno e he (by rw [hc.1, hpa])
  · obtain ⟨p, hp, h1, h2⟩ := hkeyed e (List.mem_of_getElem? hj)
    refine ⟨e.val, ?_, .inl ⟨p, hp, L.inj _ _ (h1.symm.trans he), h2⟩⟩
    simp [Instr.lookup, run_underlying hu, hg, L.ck, hf]
theorem km_lookup [DecidableEq α] (L : KeyOps P kt mt K) {et : TypeId} (hu : P.underlying mt = some (.map kt et)) {W : World} (hz : (zeroValue et).run P W = .ok (.bool false) W) {b : Nat} {ks : List α} (h : KM K W b ks) (a : α) :
    (Instr.lookup mt (.map (some b)) (K a) false).run P W = .ok (.bool (decide (a ∈ ks))) W := by
  obtain ⟨es, clock, hh, hkeys, _, _, _, hval⟩ := h
  have h2 : KMV K W b (ks.map fun k => (k, .bool true)) := by
    refine ⟨es, clock, hh, ?_⟩
    rw [List.map_map]
    apply List.ext_getElem?
    intro i
    have h3 := congrArg (fun l => l[i]?) hkeys
    simp only [List.getElem?_map] at h3 ⊢
    cases hi : es.toList[i]? with
    | none =>
      rw [hi] at h3
      cases hk : ks[i]? with
      | none => rfl
      | some k => rw [hk] at h3; cases h3
    | some e =>
      rw [hi] at h3
      cases hk : ks[i]? with
      | none => rw [hk] at h3; cases h3
      | some k =>
        rw [hk] at h3
        have h4 : e.key = K k := Option.some.inj h3
        have h5 := hval e (List.mem_of_getElem? hi)
        simp [h4, h5]
  obtain ⟨v, hrun, hv⟩ := kmv_lookup L hu hz h2 a
  rw [hrun]
  rcases hv with ⟨p, hp, hpa, rfl⟩ | ⟨hno, rfl⟩
  · obtain ⟨k, hk, rfl⟩ := List.mem_map.1 hp
    rw [decide_eq_true (by rw [← hpa]; exact hk)]
  · have : a ∉ ks := fun ha => hno (a, .bool true) (List.mem_map_of_mem (f := fun k => (k, Value.bool true)) ha) rfl
    rw [decide_eq_false this]
end
end Go.Proofs.YtbegdcjofnfkiaaGreatDoor

end
section
/- A map whose keys are arrays. Over any program. -/
namespace Go.Proofs.YtbegdcjofnfkiaaGreatDoor
open Go.RowKit
section
variable {α : Type} {P : Program} {kt mt : TypeId} {K : α → Value}
/-- A key type that is an array. -/
theorem KeyOps.of_array [DecidableEq α] {et ee : TypeId} {n : Nat} (hm : P.underlying mt = some (.map kt et)) (hk : P.underlying kt = some (.array n ee)) (hinj : ∀ a b, K a = K b → a = b)
    (hck : ∀ a (em : Bool) w, (Instr.checkKey em 10000 kt (K a)).run P w = .ok () w) (hst : ∀ a w, (Instr.keyThatStays (K a) (K a)).run P w = .ok (K a) w)
    (heq : ∀ a b w, (Op.equal kt (K a) (K b)).run P w = .ok (decide (a = b)) w) : KeyOps P kt mt K := by
  refine ⟨⟨et, hm⟩, hinj, hck, hst, fun a es w hes => ?_⟩
  have ask : ∀ (es : List MapEntry) (i : Nat), (∀ e ∈ es, ∃ b, e.key = K b) → ((Instr.findAsking kt (K a) es i).run P w = .ok none w ∧ ∀ e ∈ es, e.key ≠ K a) ∨
      ∃ j e, (Instr.findAsking kt (K a) es i).run P w = .ok (some (i + j, e.val)) w ∧ es[j]? = some e ∧ e.key = K a := by
    intro es
    induction es with
    | nil => intro i _; exact .inl ⟨rfl, by simp⟩
    | cons e es ih =>
      intro i h
      obtain ⟨b, hb⟩ := h e (by simp)
      by_cases hab : a = b
      · subst hab
        refine .inr ⟨0, e, ?_, rfl, hb⟩
        simp [Instr.findAsking, hb, heq]
      · rcases ih (i + 1) (fun e' he' => h e' (by simp [he'])) with ⟨h1, h2⟩ | ⟨j, e', h1, h2, h3⟩
        · refine .inl ⟨?_, ?_⟩
          · simp [Instr.findAsking, hb, heq, hab, h1]
          · intro e' he'
            rcases List.mem_cons.1 he' with rfl | he'
            · rw [hb]; intro hh; exact hab (hinj _ _ hh).symm
            · exact h2 e' he'
        · refine .inr ⟨j + 1, e', ?_, by simpa using h2, h3⟩
          simp [Instr.findAsking, hb, heq, hab, h1]
          omega
  have now : (Instr.findKey kt (K a) es).run P w = (match es with | [] => .ok none w | _ => (Instr.findAsking kt (K a) es).run P w) := by
    cases es with
    | nil => simp [Instr.findKey, run_underlying hk, Instr.findNow]
    | cons e es => simp [Instr.findKey, run_underlying hk, Instr.findNow, Instr.sameNow]
  rw [now]
  cases es with
  | nil => exact .inl ⟨rfl, by simp⟩
  | cons e es =>
    rcases ask (e :: es) 0 hes with h | ⟨j, e', h1, h2, h3⟩
    · exact .inl h
    · exact .inr ⟨j, e', by simpa using h1, h2, h3⟩

end
end Go.Proofs.YtbegdcjofnfkiaaGreatDoor

end
