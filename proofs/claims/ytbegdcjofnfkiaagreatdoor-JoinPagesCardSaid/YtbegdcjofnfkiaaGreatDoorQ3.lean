/- Several texts in one: IMap MapV MapA Rel. -/
import Derived.Test.YtbegdcjofnfkiaaGreatDoorQ2
import Derived.MapKept
import Derived.Test.YtbegdcjofnfkiaaGreatDoorQ1
namespace Go.Proofs.YtbegdcjofnfkiaaGreatDoor
section
open Go.RowKit
section
variable {P : Program} {kt mt : TypeId}
theorem KeyOps.of_int {et : TypeId} (hm : P.underlying mt = some (.map kt et)) (hk : P.underlying kt = some (.int .i64)) : KeyOps P kt mt (fun x : Int => Value.int .i64 x) := by
  refine ⟨⟨et, hm⟩, fun a b h => by injection h, fun a em w => ?_, fun a w => ?_, fun a es w hes => ?_⟩
  · show (Instr.checkKey em (9999 + 1) kt (.int .i64 a)).run P w = .ok () w
    unfold Instr.checkKey
    simp [run_underlying hk]
  · have : Instr.sameBits 10000 (.int .i64 a) (.int .i64 a) = true := by
      show Instr.sameBits (9999 + 1) (.int .i64 a) (.int .i64 a) = true
      simp [Instr.sameBits]
    unfold Instr.keyThatStays
    rw [if_pos this]
    rfl
  · have ask : ∀ (es : List MapEntry) (i : Nat), (∀ e ∈ es, ∃ b : Int, e.key = .int .i64 b) → (Instr.findNow (.int .i64) (.int .i64 a) es i = some none ∧ ∀ e ∈ es, e.key ≠ .int .i64 a) ∨
        ∃ j e, Instr.findNow (.int .i64) (.int .i64 a) es i = some (some (i + j, e.val)) ∧ es[j]? = some e ∧ e.key = .int .i64 a := by
      intro es
      induction es with
      | nil => intro i _; exact .inl ⟨rfl, by simp⟩
      | cons e es ih =>
        intro i h
        obtain ⟨b, hb⟩ := h e (by simp)
        by_cases hab : a = b
        · subst hab
          refine .inr ⟨0, e, ?_, rfl, hb⟩
          simp [Instr.findNow, Instr.sameNow, hb]
        · have hbe : (a == b) = false := by simpa using hab
          rcases ih (i + 1) (fun e' he' => h e' (by simp [he'])) with ⟨h1, h2⟩ | ⟨j, e', h1, h2, h3⟩
          · refine .inl ⟨?_, ?_⟩
            · simp [Instr.findNow, Instr.sameNow, hb, hbe, h1]
            · intro e' he'
              rcases List.mem_cons.1 he' with rfl | he'
              · rw [hb]; intro hh; injection hh with _ hh; exact hab hh.symm
              · exact h2 e' he'
          · refine .inr ⟨j + 1, e', ?_, by simpa using h2, h3⟩
            simp [Instr.findNow, Instr.sameNow, hb, hbe, h1]
            omega
    rcases ask es 0 hes with ⟨h1, h2⟩ | ⟨j, e, h1, h2, h3⟩
    · refine .inl ⟨?_, h2⟩
      simp [Instr.findKey, run_underlying hk, h1]
    · refine .inr ⟨j, e, ?_, h2, h3⟩
      rw [Nat.zero_add] at h1
      simp [Instr.findKey, run_underlying hk, h1]
end
section
variable {α : Type} {K : α → Value}
def mLeft (W : World) (r n : Nat) : Nat := match W.heap[r]? with
 | some (.mapIter _ _ seen _) => n - seen.size
 | _ => 0
theorem mLeft_eq {W : World} {r b : Nat} {ks : List α} {js : List Nat} (h : KIt K W r b ks js) : mLeft W r ks.length = ks.length - js.length := by
 obtain ⟨es, clock, h1, h2, h3⟩ := h
 simp [mLeft, h2]
theorem nodup_len {n : Nat} {js : List Nat} (h : js.Nodup) (hlt : ∀ j ∈ js, j < n) : js.length ≤ n := by
 have hp := perm_places h hlt
 have := hp.length_eq
 simp at this
 omega
theorem mLeft_lt {W W2 : World} {r b j : Nat} {ks : List α} {js : List Nat} (h : KIt K W r b ks js) (h2 : KIt K W2 r b ks (js ++ [j])) : mLeft W2 r ks.length < mLeft W r ks.length := by
 rw [mLeft_eq h, mLeft_eq h2]
 have := nodup_len h2.js.1 h2.js.2
 simp at this ⊢
 omega
end
end
section
open Go.RowKit
open Go.ChangeMaps (setBlock)
open Go.MapKept (bytes_beq findNow_spec)
section
variable {P : Program} {kt mt : TypeId}
theorem KeyOps.of_string {et : TypeId} (hm : P.underlying mt = some (.map kt et)) (hk : P.underlying kt = some .string) : KeyOps P kt mt (fun s : ByteArray => Value.string s) := by
 refine ⟨⟨et, hm⟩, fun a b h => by injection h, fun a em w => ?_, fun a w => ?_, fun a es w hes => ?_⟩
 ·show (Instr.checkKey em (9999 + 1) kt (.string a)).run P w = .ok () w
  unfold Instr.checkKey
  simp [run_underlying hk]
 ·have : Instr.sameBits 10000 (.string a) (.string a) = true := by
   show Instr.sameBits (9999 + 1) (.string a) (.string a) = true
   simp [Instr.sameBits]
   exact (bytes_beq a a).2 rfl
  unfold Instr.keyThatStays
  rw [if_pos this]
  rfl
 ·rcases findNow_spec (d := .string) (k := .string a) trivial es 0 (fun x hx => by obtain ⟨b, hb⟩ := hes x hx; rw [hb]; trivial) with ⟨h1, h2⟩ | ⟨j, e, h1, h2, h3⟩
  ·exact .inl ⟨by simp [Instr.findKey, run_underlying hk, h1], h2⟩
  ·rw [Nat.zero_add] at h1
   exact .inr ⟨j, e, by simp [Instr.findKey, run_underlying hk, h1], h2, h3⟩
end
section
variable {α : Type} {P : Program} {kt mt : TypeId} {K : α → Value}
def KMV (K : α → Value) (W : World) (b : Nat) (kvs : List (α × Value)) : Prop :=
 ∃ es clock, W.heap[b]? = some (.map es clock) ∧ es.toList.map (fun e => (e.key, e.val)) = kvs.map fun p => (K p.1, p.2)
theorem KMV.made (W : World) : KMV K (W.alloc (.map #[] 0)) W.heap.size [] := ⟨#[], 0, World.alloc_heap_new _ _, rfl⟩
theorem KMV.lt {W : World} {b : Nat} {kvs : List (α × Value)} (h : KMV K W b kvs) : b < W.heap.size := by
 obtain ⟨es, clock, h, _⟩ := h; exact lt_of_heap h
theorem KMV.keep {W W' : World} {b : Nat} {kvs : List (α × Value)} (h : KMV K W b kvs) (hb : W'.heap[b]? = W.heap[b]?) : KMV K W' b kvs := by
 obtain ⟨es, clock, h, hr⟩ := h; exact ⟨es, clock, hb.trans h, hr⟩
theorem kmv_push (L : KeyOps P kt mt K) {W : World} {b : Nat} {kvs : List (α × Value)} (h : KMV K W b kvs) {a : α} (ha : ∀ p ∈ kvs, p.1 ≠ a) (v : Value) :
  ∃ w', (Instr.mapUpdate mt (.map (some b)) (K a) v).run P W = .ok () w' ∧ KMV K w' b (kvs ++ [(a, v)]) ∧ W.grownBy w' (some b) ∧ w'.heap.size = W.heap.size := by
 obtain ⟨et, hu⟩ := L.und
 obtain ⟨es, clock, hh, hkeys⟩ := h
 have hg : (getObj b).run P W = .ok (.map es clock) W := by simp [getObj, Sem.run, hh]
 have hs : ∀ o', (setObj b o').run P W = .ok () (setBlock W b o') := fun o' => by simp [setObj, Sem.run, hh, setBlock]
 have hgr : ∀ o', W.grownBy (setBlock W b o') (some b) := fun o' => ⟨rfl, rfl, rfl, by simp [setBlock], fun k hk hne => by
  show (W.heap.setIfInBounds b o')[k]? = _
  rw [Array.getElem?_setIfInBounds_ne (by rintro rfl; exact hne rfl)]⟩
 have hnew : ∀ o', (setBlock W b o').heap[b]? = some o' := fun o' => by
  have := lt_of_heap hh
  show (W.heap.setIfInBounds b o')[b]? = _
  simp [this]
 have hkeyed : ∀ e ∈ es.toList, ∃ p ∈ kvs, e.key = K p.1 ∧ e.val = p.2 := fun e he => by
  have : (e.key, e.val) ∈ kvs.map fun p => (K p.1, p.2) := by rw [← hkeys]; exact List.mem_map_of_mem (f := fun e : MapEntry => (e.key, e.val)) he
  obtain ⟨p, hp, hc⟩ := List.mem_map.1 this
  simp only [Prod.mk.injEq] at hc
  exact ⟨p, hp, hc.1.symm, hc.2.symm⟩
 rcases L.find a es.toList W (fun e he => (hkeyed e he).elim fun p h => ⟨p.1, h.2.1⟩) with ⟨hf, hno⟩ | ⟨j, e, hf, hj, he⟩
 ·refine ⟨setBlock W b (.map (es.push { key := K a, val := v, born := clock }) (clock + 1)), ?_, ⟨_, _, hnew _, ?_⟩, hgr _, by simp [setBlock]⟩
  ·simp [Instr.mapUpdate, run_underlying hu, hg, L.ck, hf, hs]
  ·simp [hkeys]
 ·exfalso
  obtain ⟨p, hp, h1, _⟩ := hkeyed e (List.mem_of_getElem? hj)
  exact ha p hp (L.inj _ _ (h1.symm.trans he))
theorem kmv_lookup (L : KeyOps P kt mt K) {et : TypeId} (hu : P.underlying mt = some (.map kt et)) {z : Value} {W : World} (hz : (zeroValue et).run P W = .ok z W) {b : Nat} {kvs : List (α × Value)} (h : KMV K W b kvs) (a : α) :
  ∃ v, (Instr.lookup mt (.map (some b)) (K a) false).run P W = .ok v W ∧ ((∃ p ∈ kvs, p.1 = a ∧ v = p.2) ∨ ((∀ p ∈ kvs, p.1 ≠ a) ∧ v = z)) := by
 obtain ⟨es, clock, hh, hkeys⟩ := h
 have hg : (getObj b).run P W = .ok (.map es clock) W := by simp [getObj, Sem.run, hh]
 have hkeyed : ∀ e ∈ es.toList, ∃ p ∈ kvs, e.key = K p.1 ∧ e.val = p.2 := fun e he => by
  have : (e.key, e.val) ∈ kvs.map fun p => (K p.1, p.2) := by rw [← hkeys]; exact List.mem_map_of_mem (f := fun e : MapEntry => (e.key, e.val)) he
  obtain ⟨p, hp, hc⟩ := List.mem_map.1 this
  simp only [Prod.mk.injEq] at hc
  exact ⟨p, hp, hc.1.symm, hc.2.symm⟩
 rcases L.find a es.toList W (fun e he => (hkeyed e he).elim fun p h => ⟨p.1, h.2.1⟩) with ⟨hf, hno⟩ | ⟨j, e, hf, hj, he⟩
 ·refine ⟨z, ?_, .inr ⟨fun p hp hpa => ?_, rfl⟩⟩
  ·simp [Instr.lookup, run_underlying hu, hg, L.ck, hf, hz]
  ·have : (K p.1, p.2) ∈ es.toList.map fun e => (e.key, e.val) := by rw [hkeys]; exact List.mem_map_of_mem (f := fun p : α × Value => (K p.1, p.2)) hp
   obtain ⟨e, he, hc⟩ := List.mem_map.1 this
   simp only [Prod.mk.injEq] at hc
   exact hno e he (by rw [hc.1, hpa])
 ·obtain ⟨p, hp, h1, h2⟩ := hkeyed e (List.mem_of_getElem? hj)
  refine ⟨e.val, ?_, .inl ⟨p, hp, L.inj _ _ (h1.symm.trans he), h2⟩⟩
  simp [Instr.lookup, run_underlying hu, hg, L.ck, hf]
theorem km_lookup [DecidableEq α] (L : KeyOps P kt mt K) {et : TypeId} (hu : P.underlying mt = some (.map kt et)) {W : World} (hz : (zeroValue et).run P W = .ok (.bool false) W) {b : Nat} {ks : List α} (h : KM K W b ks) (a : α) :
    (Instr.lookup mt (.map (some b)) (K a) false).run P W = .ok (.bool (decide (a ∈ ks))) W := by
  obtain ⟨es, clock, hh, hkeys, _, _, _, hval⟩ := h
  have h2 : KMV K W b (ks.map fun k => (k, .bool true)) := by
    refine ⟨es, clock, hh, ?_⟩
    rw [List.map_map]
    apply List.ext_getElem?
    intro i
    have h3 := congrArg (fun l => l[i]?) hkeys
    simp only [List.getElem?_map] at h3 ⊢
    cases hi : es.toList[i]? with
    | none =>
      rw [hi] at h3
      cases hk : ks[i]? with
      | none => rfl
      | some k => rw [hk] at h3; cases h3
    | some e =>
      rw [hi] at h3
      cases hk : ks[i]? with
      | none => rw [hk] at h3; cases h3
      | some k =>
        rw [hk] at h3
        have h4 : e.key = K k := Option.some.inj h3
        have h5 := hval e (List.mem_of_getElem? hi)
        simp [h4, h5]
  obtain ⟨v, hrun, hv⟩ := kmv_lookup L hu hz h2 a
  rw [hrun]
  rcases hv with ⟨p, hp, hpa, rfl⟩ | ⟨hno, rfl⟩
  · obtain ⟨k, hk, rfl⟩ := List.mem_map.1 hp
    rw [decide_eq_true (by rw [← hpa]; exact hk)]
  · have : a ∉ ks := fun ha => hno (a, .bool true) (List.mem_map_of_mem (f := fun k => (k, Value.bool true)) ha) rfl
    rw [decide_eq_false this]
end
end
section
open Go.RowKit
section
variable {α : Type} {P : Program} {kt mt : TypeId} {K : α → Value}
theorem KeyOps.of_array [DecidableEq α] {et ee : TypeId} {n : Nat} (hm : P.underlying mt = some (.map kt et)) (hk : P.underlying kt = some (.array n ee)) (hinj : ∀ a b, K a = K b → a = b)
    (hck : ∀ a (em : Bool) w, (Instr.checkKey em 10000 kt (K a)).run P w = .ok () w) (hst : ∀ a w, (Instr.keyThatStays (K a) (K a)).run P w = .ok (K a) w)
    (heq : ∀ a b w, (Op.equal kt (K a) (K b)).run P w = .ok (decide (a = b)) w) : KeyOps P kt mt K := by
  refine ⟨⟨et, hm⟩, hinj, hck, hst, fun a es w hes => ?_⟩
  have ask : ∀ (es : List MapEntry) (i : Nat), (∀ e ∈ es, ∃ b, e.key = K b) → ((Instr.findAsking kt (K a) es i).run P w = .ok none w ∧ ∀ e ∈ es, e.key ≠ K a) ∨
      ∃ j e, (Instr.findAsking kt (K a) es i).run P w = .ok (some (i + j, e.val)) w ∧ es[j]? = some e ∧ e.key = K a := by
    intro es
    induction es with
    | nil => intro i _; exact .inl ⟨rfl, by simp⟩
    | cons e es ih =>
      intro i h
      obtain ⟨b, hb⟩ := h e (by simp)
      by_cases hab : a = b
      · subst hab
        refine .inr ⟨0, e, ?_, rfl, hb⟩
        simp [Instr.findAsking, hb, heq]
      · rcases ih (i + 1) (fun e' he' => h e' (by simp [he'])) with ⟨h1, h2⟩ | ⟨j, e', h1, h2, h3⟩
        · refine .inl ⟨?_, ?_⟩
          · simp [Instr.findAsking, hb, heq, hab, h1]
          · intro e' he'
            rcases List.mem_cons.1 he' with rfl | he'
            · rw [hb]; intro hh; exact hab (hinj _ _ hh).symm
            · exact h2 e' he'
        · refine .inr ⟨j + 1, e', ?_, by simpa using h2, h3⟩
          simp [Instr.findAsking, hb, heq, hab, h1]
          omega
  have now : (Instr.findKey kt (K a) es).run P w = (match es with | [] => .ok none w | _ => (Instr.findAsking kt (K a) es).run P w) := by
    cases es with
    | nil => simp [Instr.findKey, run_underlying hk, Instr.findNow]
    | cons e es => simp [Instr.findKey, run_underlying hk, Instr.findNow, Instr.sameNow]
  rw [now]
  cases es with
  | nil => exact .inl ⟨rfl, by simp⟩
  | cons e es =>
    rcases ask (e :: es) 0 hes with h | ⟨j, e', h1, h2, h3⟩
    · exact .inl h
    · exact .inr ⟨j, e', by simpa using h1, h2, h3⟩
end
end
section
open Go.RowKit
abbrev VT := Value → World → Prop
def VT.Stable (T : VT) : Prop := ∀ v w w', Below w.heap.size w w' → T v w → T v w'
def IsV (x : Value) : VT := fun v _ => v = x
theorem IsV.stable (x : Value) : (IsV x).Stable := fun _ _ _ _ h => h
section
variable {P : Program} {ops : Array Oper} {n : Nat} {wk : Bool} {weak frag : Nat → Bool}
def reach (n : Nat) (weak : Bool) (w : World) : Nat := if weak = true then n else w.heap.size
def relUpon (P : Program) (m : Nat) (w : World) (T : VT) : Result Next → Prop
 | .ok (.value u) w' => Below m w w' ∧ T u w'
 | .ok .skip w' => Below m w w' ∧ T undef w'
 | .ok (.enter f args) w' => Calls P f args w' fun e w'' => ∃ v, e = .returned v ∧ Below m w w'' ∧ T v w''
 | _ => False
def relAt (P : Program) (ops : Array Oper) (n : Nat) (weak : Bool) (T : VT) (o : Oper) (a : Act) (w : World) : Prop :=
 if Region.wanted o (yielded ops a.tmps) = true then relUpon P (reach n weak w) w T ((execOp a.eval o).run P w) else T undef w
def Agree (ops : Array Oper) (o : Oper) (a a' : Act) : Prop := ∀ t ∈ o.looksAt ops, a.tmps[t]? = a'.tmps[t]?
theorem Agree.exec {o : Oper} {a a' : Act} (hs : ∀ cs b, o.op ≠ .select cs b) (h : Agree ops o a a') : execOp a.eval o = execOp a'.eval o := by
  refine execOp_congr o hs fun x hx => ?_
  cases x with
  | tmp t =>
    have := h t (List.mem_append_left _ (List.mem_filterMap.2 ⟨.tmp t, by simpa using hx, rfl⟩))
    simp [Act.eval, this]
  | _ => rfl
theorem Agree.wanted {o : Oper} {a a' : Act} (h : Agree ops o a a') : Region.wanted o (yielded ops a.tmps) = Region.wanted o (yielded ops a'.tmps) := by
  unfold Region.wanted
  cases hg : o.guard with
  | none => rfl
  | some gw =>
    obtain ⟨g, want⟩ := gw
    have hy : yielded ops a.tmps g = yielded ops a'.tmps g := by
      unfold yielded
      cases ht : (ops[g]?).bind (·.dst) with
      | none => rfl
      | some t =>
        have := h t (by simp [Oper.looksAt, hg, ht])
        simp [this]
    simp only [hy]
theorem Agree.rel {T : VT} {o : Oper} {a a' : Act} {w : World} (hs : ∀ cs b, o.op ≠ .select cs b) (h : Agree ops o a a') (hr : relAt P ops n wk T o a w) : relAt P ops n wk T o a' w := by
 unfold relAt at *
 rwa [← h.exec hs, ← h.wanted]
theorem Agree.refl (o : Oper) (a : Act) : Agree ops o a a := fun _ _ => rfl
theorem put_get (a : Act) (d : Tmp) (v : Value) (t : Tmp) : (a.put (some d) v).tmps[t]? = if d = t then (a.tmps[t]?).map (fun _ => v) else a.tmps[t]? := by
 by_cases h : d = t
 ·subst h
  simp [Act.put, Array.getElem?_setIfInBounds]
  split
  ·rename_i hlt; simp [hlt]
  ·rename_i hlt; simp [Array.getElem?_eq_none (Nat.not_lt.1 hlt)]
 ·rw [if_neg h]
  simp [Act.put, Array.getElem?_setIfInBounds_ne h]
theorem Agree.put {o : Oper} {a a' : Act} (h : Agree ops o a a') (d : Option Tmp) (v : Value) : Agree ops o (a.put d v) (a'.put d v) := by
  cases d with
  | none => exact h
  | some d =>
    intro t ht
    rw [put_get, put_get, h t ht]
theorem Agree.put_left {o : Oper} {a a' : Act} (h : Agree ops o a a') {d : Option Tmp} (v : Value) (hd : ∀ x, d = some x → x ∉ o.looksAt ops) : Agree ops o (a.put d v) a' := by
  cases d with
  | none => exact h
  | some d =>
    intro t ht
    rw [put_get, if_neg (by rintro rfl; exact hd _ rfl ht)]
    exact h t ht
def fillL (on : Nat → Bool) (vs : Nat → Value) : Nat → List Oper → Act → Act
 | _, [], a => a
 | k, o :: l, a => fillL on vs (k + 1) l (if on k = true then a.put o.dst (vs k) else a)
theorem fillL_ext {on on' : Nat → Bool} {vs vs' : Nat → Value} : ∀ (l : List Oper) (k : Nat) (a : Act), (∀ j, k ≤ j → j < k + l.length → on j = on' j ∧ (on j = true → vs j = vs' j)) → fillL on vs k l a = fillL on' vs' k l a
  | [], _, _, _ => rfl
  | o :: l, k, a, h => by
    obtain ⟨h1, h2⟩ := h k (Nat.le_refl _) (by simp)
    have ih := fun a => fillL_ext l (k + 1) a (fun j hj hj' => h j (by omega) (by simp; omega))
    unfold fillL
    rw [← h1]
    by_cases hk : on k = true
    · rw [if_pos hk, if_pos hk, h2 hk, ih]
    · rw [if_neg hk, if_neg hk, ih]
theorem fillL_agree {o : Oper} {on on' : Nat → Bool} {vs : Nat → Value} : ∀ (l : List Oper) (k : Nat) (a a' : Act), Agree ops o a a' →
    (∀ j oj, l[j]? = some oj → on (k + j) ≠ on' (k + j) → ∀ x, oj.dst = some x → x ∉ o.looksAt ops) → Agree ops o (fillL on vs k l a) (fillL on' vs k l a')
  | [], _, _, _, h, _ => h
  | oj :: l, k, a, a', h, hd => by
    unfold fillL
    refine fillL_agree l (k + 1) _ _ ?_ (fun j o' hj hne => hd (j + 1) o' (by simpa using hj) (by rwa [show k + (j + 1) = k + 1 + j by omega]))
    have h0 := hd 0 oj (by simp)
    simp only [Nat.add_zero] at h0
    cases hk : on k <;> cases hk' : on' k
    · simpa using h
    · simp only [Bool.false_eq_true, if_false, if_true]
      exact fun t ht => ((Agree.put_left (fun t ht => (h t ht).symm) (vs k) (h0 (by simp [hk, hk']))) t ht).symm
    · simp only [Bool.false_eq_true, if_false, if_true]
      exact h.put_left (vs k) (h0 (by simp [hk, hk']))
    · simpa using h.put _ _
theorem fillL_put {on : Nat → Bool} {vs : Nat → Value} {d : Option Tmp} {v : Value} : ∀ (l : List Oper) (k : Nat) (a : Act), (∀ j oj, l[j]? = some oj → on (k + j) = true → ∀ x, d = some x → oj.dst ≠ some x) →
    (fillL on vs k l a).put d v = fillL on vs k l (a.put d v)
  | [], _, _, _ => rfl
  | oj :: l, k, a, h => by
    unfold fillL
    rw [fillL_put l (k + 1) _ (fun j o' hj hon => h (j + 1) o' (by simpa using hj) (by rwa [show k + (j + 1) = k + 1 + j by omega]))]
    by_cases hk : on k = true
    · rw [if_pos hk, if_pos hk, Act.put_comm]
      intro x hx hx'
      exact h 0 oj (by simp) (by simpa using hk) x hx' hx
    · rw [if_neg hk, if_neg hk]
theorem fillL_set {on : Nat → Bool} {vs : Nat → Value} {v : Value} {i : Nat} {oi : Oper} : ∀ (l : List Oper) (k : Nat) (a : Act), k ≤ i → l[i - k]? = some oi → on i = false →
    (∀ j oj, l[j]? = some oj → i < k + j → on (k + j) = true → ∀ x, oi.dst = some x → oj.dst ≠ some x) →
    (fillL on vs k l a).put oi.dst v = fillL (fun j => j == i || on j) (fun j => if j = i then v else vs j) k l a
  | [], _, _, _, h, _, _ => by simp at h
  | o :: l, k, a, hki, hi, hoff, h => by
    unfold fillL
    by_cases he : k = i
    · subst he
      simp at hi
      subst hi
      rw [hoff]
      simp only [Bool.false_eq_true, if_false, beq_self_eq_true, Bool.true_or, if_true]
      rw [fillL_put l (k + 1) a (fun j oj hj hon => h (j + 1) oj (by simpa using hj) (by omega) (by rwa [show k + (j + 1) = k + 1 + j by omega]))]
      refine fillL_ext l (k + 1) _ fun j hj hj' => ?_
      have hne : j ≠ k := by omega
      simp [hne]
    · have hne : (k == i) = false := by simpa using he
      rw [fillL_set l (k + 1) _ (by omega) (by rw [show i - k = (i - (k + 1)) + 1 by omega] at hi; simpa using hi) hoff
        (fun j oj hj hlt hon => h (j + 1) oj (by simpa using hj) (by omega) (by rwa [show k + (j + 1) = k + 1 + j by omega]))]
      simp only [hne, Bool.false_or, if_neg he]
def relB (ops : Array Oper) : Bool :=
  Region.noSelect ops && (List.range ops.size).all fun j => match ops[j]? with
    | none => true
    | some oj => (oj.after.all fun e => !Region.binds .any e || decide (e.on < j)) && (List.range j).all fun i => match ops[i]? with
      | none => true
      | some oi => oj.after.any (fun e => Region.binds .any e && e.on == i) || oi.apart ops oj
theorem relB_spec (h : relB ops = true) : Region.noSelect ops = true ∧ ∀ j oj, ops[j]? = some oj → (∀ e ∈ oj.after, Region.binds .any e = true → e.on < j) ∧ ∀ i oi, i < j → ops[i]? = some oi → (∃ e ∈ oj.after, Region.binds .any e = true ∧ e.on = i) ∨ oi.apart ops oj = true := by
 simp only [relB, Bool.and_eq_true, List.all_eq_true, List.mem_range] at h
 refine ⟨h.1, fun j oj hj => ?_⟩
 have h1 := h.2 j (Array.getElem?_eq_some_iff.1 hj).1
 simp only [hj, Bool.and_eq_true, Array.all_eq_true_iff_forall_mem, List.all_eq_true, List.mem_range] at h1
 refine ⟨fun e he hb => ?_, fun i oi hij hi => ?_⟩
 ·simpa [hb] using h1.1 e he
 ·have h2 := h1.2 i hij
  simp only [hi, Bool.or_eq_true] at h2
  rcases h2 with h2 | h2
  ·obtain ⟨e, he, hb⟩ := Array.any_eq_true'.1 h2
   simp only [Bool.and_eq_true, beq_iff_eq] at hb
   exact .inl ⟨e, he, hb.1, hb.2⟩
  ·exact .inr h2
def lost (weak frag : Nat → Bool) (m k : Nat) : Bool := frag k && (List.range m).any fun i => weak i && decide (k < i)
def fin (Q : Act → World → Prop) (dead : Nat → Bool) : Nat → List (Oper × VT) → Act → (World → Prop) → Prop
 | _, [], a, H => ∀ w, H w → Q a w
 | k, x :: rest, a, H => ∀ v, fin Q dead (k + 1) rest (a.put x.1.dst v) (fun w => H w ∧ (dead k = false → x.2 v w))
theorem fin_use {Q : Act → World → Prop} {dead : Nat → Bool} (vs : Nat → Value) {w : World} {on : Nat → Bool} : ∀ (done : List (Oper × VT)) (k : Nat) (a : Act) (H : World → Prop), fin Q dead k done a H → H w → (∀ (j : Nat) (x : Oper × VT), done[j]? = some x → on (k + j) = true ∧ (dead (k + j) = false → x.2 (vs (k + j)) w)) →
    Q (fillL on vs k (done.map (·.1)) a) w
  | [], _, _, _, h, hH, _ => h w hH
  | x :: rest, k, a, H, h, hH, hT => by
    unfold fin at h
    have h0 := hT 0 x (by simp)
    simp only [Nat.add_zero] at h0
    simp only [List.map_cons, fillL, h0.1, if_true]
    refine fin_use vs rest (k + 1) _ _ (h (vs k)) ⟨hH, h0.2⟩ fun j y hj => ?_
    have := hT (j + 1) y (by simpa using hj)
    rwa [show k + (j + 1) = k + 1 + j by omega] at this
def unl (n : Nat) (listed : Array Bool) : Nat := ((List.range n).filter fun j => !listed.getD j true).length
theorem filter_less {p q : Nat → Bool} : ∀ (l : List Nat) (i : Nat), l.Nodup → i ∈ l → p i = true → q i = false → (∀ j ∈ l, j ≠ i → q j = p j) → (l.filter q).length + 1 = (l.filter p).length
  | [], _, _, h, _, _, _ => by simp at h
  | x :: l, i, hn, hi, hp, hq, h => by
    rw [List.nodup_cons] at hn
    by_cases hx : x = i
    · subst hx
      have e : l.filter q = l.filter p := List.filter_congr fun j hj => h j (by simp [hj]) (fun e => hn.1 (e ▸ hj))
      rw [List.filter_cons, List.filter_cons, hp, hq, e]
      simp
    · have hil : i ∈ l := by
        rcases List.mem_cons.1 hi with e | e
        · exact absurd e.symm hx
        · exact e
      have ih := filter_less l i hn.2 hil hp hq (fun j hj => h j (by simp [hj]))
      have hxx := h x (by simp) hx
      by_cases hpx : p x = true
      · rw [List.filter_cons_of_pos (by simpa [hxx] using hpx), List.filter_cons_of_pos (by simpa using hpx)]
        simpa using ih
      · rw [List.filter_cons_of_neg (by simpa [hxx] using hpx), List.filter_cons_of_neg (by simpa using hpx)]
        exact ih
theorem unl_set {n : Nat} {listed : Array Bool} {i : Nat} (hs : listed.size = n) (hi : i < n) (h : listed.getD i true = false) : unl n (listed.setIfInBounds i true) + 1 = unl n listed := by
 refine filter_less _ i List.nodup_range (List.mem_range.2 hi) (by simpa using h) ?_ fun j _ hne => by rw [getD_set_ne true (Ne.symm hne)]
 have : i < listed.size := by omega
 simp [this]
def killed (weak frag : Nat → Bool) (m : Nat) (listed : Array Bool) (j : Nat) : Prop := frag j = true ∧ ∃ i, i < m ∧ weak i = true ∧ j < i ∧ listed.getD i false = true
theorem getD_rep (n j : Nat) : (Array.replicate n false).getD j false = false := by
 simp [Array.getElem?_replicate]
 split <;> rfl
variable {C : World → Prop} {Q : Act → World → Prop} {a0 a : Act} {done rest : List (Oper × VT)} {later : List Oper} {o oj : Oper} {T : VT} {H : World → Prop}
theorem fin_mono {dead : Nat → Bool} : ∀ (rest : List (Oper × VT)) (k : Nat) (a : Act) (H H' : World → Prop), (∀ w, H' w → H w) → fin Q dead k rest a H → fin Q dead k rest a H'
 | [], _, _, _, _, hh, h => fun w hw => h w (hh w hw)
 | _ :: rest, k, _, _, _, hh, h => fun v => fin_mono rest (k + 1) _ _ _ (fun w hw => ⟨hh w hw.1, hw.2⟩) (h v)
theorem fin_false {dead : Nat → Bool} : ∀ (rest : List (Oper × VT)) (k : Nat) (a : Act) (H : World → Prop), (∀ w, ¬ H w) → fin Q dead k rest a H
 | [], _, _, _, hh => fun w hw => absurd hw (hh w)
 | _ :: rest, k, _, _, hh => fun _ => fin_false rest (k + 1) _ _ (fun w hw => hh w hw.1)
theorem fin_det {dead : Nat → Bool} {k : Nat} {x : Value} (hd : dead k = false) (h : fin Q dead (k + 1) rest (a.put o.dst x) H) : fin Q dead k ((o, IsV x) :: rest) a H := by
 intro v
 by_cases hv : v = x
 ·subst hv; exact fin_mono _ _ _ _ _ (fun w hw => hw.1) h
 ·exact fin_false _ _ _ _ (fun w hw => hv (hw.2 hd))
theorem fin_var {dead : Nat → Bool} {k : Nat} {T : VT} (hd : dead k = false) (h : ∀ v, fin Q dead (k + 1) rest (a.put o.dst v) (fun w => H w ∧ T v w)) : fin Q dead k ((o, T) :: rest) a H :=
 fun v => fin_mono _ _ _ _ _ (fun _ hw => ⟨hw.1, hw.2 hd⟩) (h v)
theorem fin_dead {dead : Nat → Bool} {k : Nat} {T : VT} (h : ∀ v, fin Q dead (k + 1) rest (a.put o.dst v) H) : fin Q dead k ((o, T) :: rest) a H :=
 fun v => fin_mono _ _ _ _ _ (fun _ hw => hw.1) (h v)
theorem relAt_wanted {w : World} (hw : Region.wanted o (yielded ops a.tmps) = true) (h : relUpon P (reach n wk w) w T ((execOp a.eval o).run P w)) : relAt P ops n wk T o a w := by
 unfold relAt; rw [if_pos hw]; exact h
theorem relAt_not {w : World} (hw : Region.wanted o (yielded ops a.tmps) = false) (h : T undef w) : relAt P ops n wk T o a w := by
 unfold relAt; rw [if_neg (by rw [hw]; decide)]; exact h
end
attribute [go_sem] relUpon
end
end Go.Proofs.YtbegdcjofnfkiaaGreatDoor
