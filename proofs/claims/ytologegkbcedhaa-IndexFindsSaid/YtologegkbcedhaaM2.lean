/- Several texts in one: F22 F23 F26 F27 Shelf F28 P0 P1 F24 F29 F20. -/
import Derived.Test.YtologegkbcedhaaM1
import Derived.Test.YtologegkbcedhaaF8
import Derived.Test.YtologegkbcedhaaClip
import Derived.Test.YtologegkbcedhaaPut
import Derived.Test.YtologegkbcedhaaC0
import Derived.Test.YtologegkbcedhaaKMap
import Derived.Test.YtologegkbcedhaaIterG
import Derived.Test.YtologegkbcedhaaInApp
import Derived.Shelf.SlSortCmp.WholeK
import Derived.Shelf.SlLaysF0
import Derived.Shelf.SlGeneric
import Derived.Ground.SlsfProg
import Derived.Test.YtologegkbcedhaaProg
import Derived.Test.YtologegkbcedhaaSortRow
import Derived.Test.YtologegkbcedhaaG0
import Derived.Test.YtologegkbcedhaaRelT
/- The reference's Keys walked. -/
namespace Go.Proofs.Ytologegkbcedhaa
open Go.RowKit Go.Shelf

/-- How many keys come before. -/
def befK (k : Ky) (ks : List Ky) : Nat := (ks.takeWhile fun x => x.lt k).length
theorem insK_eq : ∀ (k : Ky) (ks : List Ky), insK k ks = if ks[befK k ks]? = some k then ks else ks.take (befK k ks) ++ k :: ks.drop (befK k ks)
  | k, [] => by simp [insK, befK]
  | k, x :: l => by
    by_cases h : x.lt k = true
    · have hb : befK k (x :: l) = befK k l + 1 := by simp [befK, h]
      rw [insK, if_pos h, insK_eq k l, hb]
      by_cases h2 : l[befK k l]? = some k
      · simp [h2]
      · simp [h2]
    · have hb : befK k (x :: l) = 0 := by simp [befK, h]
      rw [insK, if_neg h, hb]
      by_cases h2 : x = k
      · simp [h2]
      · simp [h2]
theorem befK_le (k : Ky) (ks : List Ky) : befK k ks ≤ ks.length := (List.takeWhile_prefix _).length_le
theorem befK_at {k : Ky} {ks : List Ky} {j : Nat} (hj : ∀ i x, i < j → ks[i]? = some x → x.lt k = true) (he : ∀ x, ks[j]? = some x → x.lt k = false) (hl : j ≤ ks.length) : befK k ks = j := by
  induction ks generalizing j with
  | nil => simp at hl; simp [befK, hl]
  | cons y l ih =>
    cases j with
    | zero =>
      have := he y rfl
      simp [befK, this]
    | succ j =>
      have h0 := hj 0 y (by omega) rfl
      have := ih (j := j) (fun i x hi hx => hj (i + 1) x (by omega) (by simpa using hx)) (fun x hx => he x (by simpa using hx)) (by simpa using hl)
      simp only [befK] at this ⊢
      simp [h0, this]
theorem insK_len (k : Ky) (ks : List Ky) : (insK k ks).length ≤ ks.length + 1 := by
  rw [insK_eq]
  split
  · omega
  · have := befK_le k ks
    simp; omega
def keysTo (l : List Fc) (n : Nat) : List Ky := keysF (l.take n)
theorem keysTo_step {l : List Fc} {n : Nat} {x : Fc} (h : l[n]? = some x) : keysTo l (n + 1) = insK x.key (keysTo l n) := by
  rw [keysTo, take_snoc h, keysF, List.foldl_append]; rfl
theorem keysTo_len (l : List Fc) (n : Nat) : (keysTo l n).length ≤ n := by
  have : ∀ (l : List Fc) (a : List Ky), (l.foldl (fun s f => insK f.key s) a).length ≤ a.length + l.length := by
    intro l
    induction l with
    | nil => simp
    | cons x l ih =>
      intro a
      have h1 := ih (insK x.key a)
      have h2 := insK_len x.key a
      simp only [List.foldl_cons, List.length_cons]
      omega
  have h := this (l.take n) []
  rw [keysTo, keysF]
  simp at h ⊢
  omega
theorem insK_found {k : Ky} {ks : List Ky} {q : Nat} (hb : befK k ks = q) (hk : ks[q]? = some k) : insK k ks = ks := by rw [insK_eq, hb, if_pos hk]
theorem insK_new {k : Ky} {ks : List Ky} {q : Nat} (hb : befK k ks = q) (hk : ks[q]? ≠ some k) : insK k ks = ks.take q ++ (k :: ks.drop q) := by rw [insK_eq, hb, if_neg hk]
def KeysPost (l : List Fc) (w : World) (e : Ending) (w' : World) : Prop := ∃ A n c, e = .returned (.slice A n c) ∧ kSl w' w'.heap.size A n c (keysF l) ∧ Below w.heap.size w w'
def LtUp (ks : List Ky) (k : Ky) (q : Nat) : Prop := ∀ (i : Nat) (x : Ky), i < q → ks[i]? = some x → x.lt k = true
theorem LtUp.step {ks : List Ky} {k x : Ky} {q : Nat} (h : LtUp ks k q) (hx : ks[q]? = some x) (hl : x.lt k = true) : LtUp ks k (q + 1) := by
  intro i y hi hy
  rcases Nat.lt_or_ge i q with h1 | h1
  · exact h i y h1 hy
  · obtain rfl : i = q := by omega
    rw [hx] at hy; cases hy; exact hl

end Go.Proofs.Ytologegkbcedhaa

/- Changes in memory, plainly; spans joined. -/
namespace Go.Proofs.Ytologegkbcedhaa
open Go.RowKit Go.Shelf

theorem spansTo_step (l : List Fc) (k : Ky) (b a : Int) (n : Nat) : spansTo l k b a (n + 1) = if diffB l k b a n = true then joinT (spansTo l k b a n) n else spansTo l k b a n := by
  unfold spansTo
  rw [List.range_succ, List.foldl_append]
  rfl
theorem joinT_len (s : List (Int × Int)) (t : Int) : (joinT s t).length ≤ s.length + 1 := by
  unfold joinT
  cases h : s.getLast? with
  | none => simp
  | some x =>
    simp only []
    split
    · simp
    · simp
theorem spansTo_len (l : List Fc) (k : Ky) (b a : Int) (n : Nat) : (spansTo l k b a n).length ≤ n := by
  induction n with
  | zero => simp [spansTo]
  | succ n ih =>
    rw [spansTo_step]
    have := joinT_len (spansTo l k b a n) n
    split <;> omega
theorem joinT_nil (t : Int) : joinT [] t = [(t, t + 1)] := rfl
theorem joinT_up {s : List (Int × Int)} {t : Int} {m : Nat} {x : Int × Int} (hm : s.length = m + 1) (hx : s[m]? = some x) (ht : x.2 = t) : joinT s t = s.set m (x.1, t + 1) := by
  have hl : s.getLast? = some x := by rw [List.getLast?_eq_getElem?, hm]; exact hx
  unfold joinT
  rw [hl]
  simp only []
  rw [if_pos ht]
  have e : s = s.dropLast ++ [x] := by
    obtain ⟨h1, h2⟩ := List.getElem?_eq_some_iff.1 hx
    have hne : s ≠ [] := by intro h; rw [h] at hm; simp at hm
    have := List.dropLast_concat_getLast hne
    rw [List.getLast?_eq_some_getLast hne] at hl
    rw [Option.some.inj hl] at this
    exact this.symm
  conv => rhs; rw [e]
  have hd : s.dropLast.length = m := by simp [hm]
  rw [List.set_append_right _ _ (by omega), hd, Nat.sub_self]
  rfl
theorem joinT_new {s : List (Int × Int)} {t : Int} {m : Nat} {x : Int × Int} (hm : s.length = m + 1) (hx : s[m]? = some x) (ht : x.2 ≠ t) : joinT s t = s ++ [(t, t + 1)] := by
  have hl : s.getLast? = some x := by rw [List.getLast?_eq_getElem?, hm]; exact hx
  unfold joinT
  rw [hl]
  simp only []
  rw [if_neg ht]
def changedTo (l : List Fc) (b a : Int) (ks : List Ky) : List Ch := ks.flatMap (changeOf l b a)
theorem changedTo_snoc (l : List Fc) (b a : Int) (ks : List Ky) (k : Ky) : changedTo l b a (ks ++ [k]) = changedTo l b a ks ++ changeOf l b a k := by simp [changedTo]
theorem changeOf_no {l : List Fc} {b a : Int} {k : Ky} (h : spansF l k b a = []) : changeOf l b a k = [] := by simp [changeOf, h]
theorem changeOf_yes {l : List Fc} {b a : Int} {k : Ky} (h : spansF l k b a ≠ []) : changeOf l b a k = [(k, spansF l k b a)] := by simp [changeOf, h]
theorem changeOf_len (l : List Fc) (b a : Int) (k : Ky) : (changeOf l b a k).length ≤ 1 := by unfold changeOf; split <;> simp
theorem changedTo_len (l : List Fc) (b a : Int) : ∀ ks : List Ky, (changedTo l b a ks).length ≤ ks.length
  | [] => by simp [changedTo]
  | k :: ks => by
    have h1 := changedTo_len l b a ks
    have h2 := changeOf_len l b a k
    simp only [changedTo, List.flatMap_cons, List.length_append, List.length_cons] at h1 ⊢
    omega
end Go.Proofs.Ytologegkbcedhaa

/- The keys of a map that the call has made: an iterator over them. -/
namespace Go.Proofs.Ytologegkbcedhaa
open Go.RowKit Go.Shelf
attribute [local go_sem] Oper.semAt_some

def kV (k : Ky) : Value := .agg #[.int .i64 k.kind, .int .i64 k.subj, .int .i64 k.obj]
theorem k_ops : KeyOps Try.prog 45 84 kV := by
  refine KeyOps.of_struct Try.underlying84 Try.underlying45 ?_ ?_ ?_ ?_
  · intro a b h
    simp [kV] at h
    exact Ky.ext' h.1 h.2.1 h.2.2
  · intro a em w
    have u3 := Try.underlying3
    have uk := Try.underlying45
    have z3 := Try.sizeOf3
    have a3 := Try.isAgg3
    have i3 : ∀ n v w, v = Value.int .i64 a.kind ∨ v = .int .i64 a.subj ∨ v = .int .i64 a.obj → (Instr.checkKey em (n + 1) 3 v).run Try.prog w = .ok () w := by
      rintro n v w (rfl | rfl | rfl) <;> (unfold Instr.checkKey; go_simp)
    show (Instr.checkKey em (9999 + 1) 45 (kV a)).run Try.prog w = .ok () w
    unfold Instr.checkKey kV
    go_simp
  · intro a w
    have : Instr.sameBits 10000 (kV a) (kV a) = true := by
      show Instr.sameBits (9999 + 1) (.agg _) (.agg _) = true
      simp [Instr.sameBits]
    unfold Instr.keyThatStays
    rw [if_pos this]
    rfl
  · intro a b w
    exact k_in 9998 a b w

/-- How many keys the iterator has not yet handed out. -/
def itLeft (W : World) (r n : Nat) : Nat := match W.heap[r]? with
  | some (.mapIter _ _ seen _) => n - seen.size
  | _ => 0
theorem itLeft_eq {W : World} {r b : Nat} {ks : List Ky} {js : List Nat} (h : KIt kV W r b ks js) : itLeft W r ks.length = ks.length - js.length := by
  obtain ⟨es, clock, h1, h2, h3⟩ := h
  simp [itLeft, h2]
theorem nodup_lt_len {n : Nat} {js : List Nat} (h : js.Nodup) (hlt : ∀ j ∈ js, j < n) : js.length ≤ n := by
  have hp := perm_places h hlt
  have := hp.length_eq
  simp at this
  omega
theorem itLeft_lt {W W2 : World} {r b j : Nat} {ks : List Ky} {js : List Nat} (h : KIt kV W r b ks js) (h2 : KIt kV W2 r b ks (js ++ [j])) : itLeft W2 r ks.length < itLeft W r ks.length := by
  rw [itLeft_eq h, itLeft_eq h2]
  have := nodup_lt_len h2.js.1 h2.js.2
  simp at this ⊢
  omega

set_option maxRecDepth 100000 in
set_option maxHeartbeats 2000000 in
theorem keys1_seq (Bm b : Nat) (ks : List Ky) (w : World) (hBm : w.cell? ⟨Bm, 0, none⟩ = some (.map (some b))) (hkm : KM kV w b ks) :
    SeqG Try.prog 64 #[.pointer (some ⟨Bm, 0, none⟩)] (fun x : Ky => #[.agg #[.int .i64 x.kind, .int .i64 x.subj, .int .i64 x.obj]]) (fun xs => xs.Perm ks) (fun q => q = Bm ∨ q = b) w := by
  intro li J Jx C W hS hC hJ hJx hY h0
  refine (callsIn_wide (n := 0)).1 (callsIn_of_wp Try.func64 rfl trivial ?_ rfl)
  simp only [Try.ntmps64, List.size_toArray, List.length_cons, List.length_nil, Nat.reduceAdd, Nat.reduceSub, Array.replicate_succ, Array.replicate_zero, List.push_toArray, List.append_toArray, List.nil_append, List.cons_append]
  have HY := hidp hY
  have HJ := hidp hJ
  have HJx := hidp hJx
  clear hY hJ hJx
  have hBW := (SeqSt.start hS hC).cell (b := Bm) (o := 0) (.inl rfl)
  rw [hBm] at hBW
  have hkW : KM kV W b ks := hkm.keep ((SeqSt.start hS hC).reads b (.inr rfl)).2.1
  obtain ⟨w1, hrg, hit0, hb1, hz1⟩ := km_range (P := Try.prog) Try.underlying84 hkW
  have hJ1 := HJ.out _ _ _ _ h0 (kept_of_below (M := fun q => W.heap.size ≤ q ∧ ¬ C q) hb1 (fun q h1 h2 => by omega))
  have hst0 : SeqSt (fun q => q = Bm ∨ q = b) w W C w1 := (SeqSt.start hS hC).own (M := fun q => W.heap.size ≤ q) (kept_of_below (M := fun q => W.heap.size ≤ q) hb1 (fun q h1 h2 => by omega)) fun _ h => h
  have hCr : ¬ C W.heap.size := fun h => by have := hC _ h; omega
  have HCR := hidp hCr
  have HIT := hidp hit0
  have HJ1 := hidp hJ1
  clear hit0 hJ1 hCr hkW h0
  gi_wp2
  gi_loopw [3] (fun _ wr => ∃ (js : List Nat) (C1 : Nat → Prop), KIt kV wr W.heap.size b ks js ∧ ¬ C1 W.heap.size ∧ J (picks ks js) C1 wr ∧ SeqSt (fun q => q = Bm ∨ q = b) w W C1 wr)
    (fun _ wr => itLeft wr W.heap.size ks.length)
  case atStart => exact ⟨[], C, HIT.out, HCR.out, HJ1.out, hst0⟩
  case round =>
    obtain ⟨js, C1, hit, hC1, hJr, hst⟩ := hrel
    have HC1 := hidp hC1
    have HR := hidp hit.lt.2
    clear hC1 hst0 hS
    rcases km_next (P := Try.prog) hit 0 with ⟨hall, hnx⟩ | ⟨j, x, w2, hnj, hj, hnx, hit2, hk2, hz2⟩
    · have HA := hidp hall
      have HIT2 := hidp hit
      clear hall hit
      gi_wp2
      go_end0
      exact ⟨⟨_, rfl⟩, C1, .inl ⟨_, picks_perm HIT2.out.js.1 HIT2.out.js.2 HA.out, hJr⟩⟩
    · have hne := km_entry (P := Try.prog) hit2 hj
      have HJP := hidp (picks_next hit.js.1 hit.js.2 hnj hj)
      have hMe : Hid (ks.length - (js ++ [j]).length < itLeft wr W.heap.size ks.length) := by
        show _ < _; rw [← itLeft_eq hit2]; exact itLeft_lt hit hit2
      have hst2 : SeqSt (fun q => q = Bm ∨ q = b) w W C1 w2 := hst.own hk2 fun q h => by omega
      have hst3 := hst2.alloc (.cells #[.int .i64 x.kind, .int .i64 x.subj, .int .i64 x.obj] 45)
      have hJ2 := HJ.out _ _ _ _ hJr ((hk2.mono (M' := fun q => W.heap.size ≤ q ∧ ¬ C1 q) fun q _ h => ⟨by omega, by rw [h]; exact HC1.out⟩).alloc (.cells #[.int .i64 x.kind, .int .i64 x.subj, .int .i64 x.obj] 45))
      have hit3 : KIt kV (w2.alloc (.cells #[.int .i64 x.kind, .int .i64 x.subj, .int .i64 x.obj] 45)) W.heap.size b ks (js ++ [j]) := hit2.keep (Below.heap_alloc _ _ _ hit2.lt.1) (Below.heap_alloc _ _ _ hit2.lt.2)
      have HX := hidp hj
      clear hit hit2 hst hJr hk2 hst2 hz2 hj
      simp only [kV] at hnx hne
      obtain ⟨suf, hsuf⟩ := HJP.out
      obtain ⟨fn, tmps, assign, body, hy, hR⟩ := HY.out 0 _ _ _ _ _ hsuf hJ2
      have HPS : Hid (picks ks (js ++ [j]) = picks ks js ++ [x]) := picks_snoc HX.out
      clear hsuf hJ2 HJP
      gi_wp2
      refine ⟨rfl, hR.mono ?_⟩
      rintro e W3 ⟨C3, hk3, hC3, (⟨rfl, hJ3⟩ | ⟨rfl, hJx3⟩)⟩
      · gi_wp2
        go_roundw
        case rel =>
          have hlt3 := hit3.lt
          refine ⟨js ++ [j], C3, hit3.keep (hk3.block _ hlt3.1 (hst3.reads b (.inr rfl)).2.2) (hk3.block _ hlt3.2 HC1.out), fun h => ?_, by rw [HPS.out]; exact hJ3, hst3.round hk3 hC3⟩
          rcases (hC3 _ h).2 with h | h
          · exact HC1.out h
          · omega
        case measure =>
          have hlt3 := hit3.lt
          rw [itLeft_eq (hit3.keep (hk3.block _ hlt3.1 (hst3.reads b (.inr rfl)).2.2) (hk3.block _ hlt3.2 HC1.out))]
          exact hMe.out
      · gi_wp2
        refine bodyPost_ret (results_none rfl _ _ _) rfl ?_
        exact ⟨⟨_, rfl⟩, C3, .inr hJx3⟩

set_option maxHeartbeats 400000 in
theorem keys_any (b : Nat) (w : World) :
    Calls Try.prog 43 #[.map (some b)] w fun e w' => e = .returned (.func (.func 64) #[] #[.pointer (some ⟨w.heap.size, 0, none⟩)]) ∧ w.alloc (.cells #[.map (some b)] 84) = w' := by
  go_enter Try.func43, Try.ntmps43
  go_wp2
  go_ret
  exact ⟨rfl, rfl⟩
end Go.Proofs.Ytologegkbcedhaa

/- slices.AppendSeq, slices.Collect at keys, over whatever iterator. -/
namespace Go.Proofs.Ytologegkbcedhaa
open Go.RowKit Go.Shelf
attribute [local go_sem] Oper.semAt_some

def AppKPost (R : List Ky → Prop) (w : World) (e : Ending) (w' : World) : Prop := ∃ v xs, e = .returned v ∧ R xs ∧ w'.ownsRow w.heap.size 45 3 v xs.length (xs.flatMap kEnc) ∧ Below w.heap.size w w'
def CApp (Bs : Nat) (v : Value) : Nat → Prop := fun b => b = Bs ∨ v.ownBlock = some b

set_option maxRecDepth 100000 in
set_option maxHeartbeats 2000000 in
theorem appSeqK_any (gf : Nat) (lb : Array Value) (eg : ∀ args w, (callFunc gf args).run Try.prog w = .ok (.enter gf args) w) (R : List Ky → Prop) (S : Nat → Prop) (w : World)
    (hseq : SeqG Try.prog gf lb (fun x : Ky => #[.agg #[.int .i64 x.kind, .int .i64 x.subj, .int .i64 x.obj]]) R S w) (hS : ∀ b, S b → b < w.heap.size) (hR : ∀ xs, R xs → xs.length ≤ 1000000) :
    Calls Try.prog 73 #[.slice none 0 0, .func (.func gf) #[] lb] w (AppKPost R w) := by
  obtain ⟨i0, hi, hz, hs, hbb⟩ := info_parts kInfo
  refine calls_of_wp_marks Try.func73 rfl ?_
  simp only [Try.ntmps73, List.size_toArray, List.length_cons, List.length_nil, Nat.reduceAdd, Nat.reduceSub, Array.replicate_succ, Array.replicate_zero, List.push_toArray, List.append_toArray, List.nil_append, List.cons_append]
  obtain ⟨W0, hW0⟩ : ∃ W0, w.alloc (.cells #[.slice none 0 0] 87) = W0 := ⟨_, rfl⟩
  have hBW : Below w.heap.size w W0 := by rw [← hW0]; exact (Below.refl _ w).alloc (Nat.le_refl _) _
  have hz0 : W0.heap.size = w.heap.size + 1 := by rw [← hW0]; simp
  have g1 : W0.heap[w.heap.size]? = some (.cells #[.slice none 0 0] 87 (0, 0)) := by rw [← hW0]; exact World.alloc_heap_new _ _
  have HW0 := hidp hW0
  have G1 := hidp g1
  have HSq := hidp (hseq.later fun b hb => hBW.block b (hS b hb))
  have HR := hidp hR
  have HS := hidp hS
  clear hW0 g1 hseq hR hS
  go_wp2_with fail
  rw [HW0.out]
  refine wp_rangeG (gf := gf) (lb := lb) rfl eg HSq.out (CApp w.heap.size (.slice none 0 0)) ?S (fun _ => rfl) ?M
    (fun pre C W => ∃ v, C = CApp w.heap.size v ∧ W.heap[w.heap.size]? = some (.cells #[v] 87 (0, 0)) ∧ W.ownsRow (w.heap.size + 1) 45 3 v pre.length (pre.flatMap kEnc) ∧ Below w.heap.size w W)
    (fun _ _ _ => False)
    ?hI ?hIx ?h0 (fun ll pre x C a' W => ∃ (B5 : Nat) (v : Value), C = CApp w.heap.size v ∧ W.heap[w.heap.size]? = some (.cells #[v] 87 (0, 0)) ∧ W.ownsRow (w.heap.size + 1) 45 3 v pre.length (pre.flatMap kEnc) ∧ Below w.heap.size w W ∧
        B5 ≠ ll ∧ w.heap.size < B5 ∧ W.heap[B5]? = some (.cells #[.int .i64 x.kind, .int .i64 x.subj, .int .i64 x.obj] 45 (0, 0)) ∧
        a' = { tmps := #[.slice none 0 0, .func (.func gf) #[] lb, .pointer (some ⟨w.heap.size, 0, none⟩), undef, .slice none 0 0, .pointer (some ⟨B5, 0, none⟩), .func (.func gf) #[] lb, .agg #[.int .i64 x.kind, .int .i64 x.subj, .int .i64 x.obj], undef, undef, undef, undef, undef], defers := [] })
    ⟨?hAx, ?assign, ?body⟩ ?done ?stop
  case S =>
    intro b hb
    have := HS.out b hb
    refine ⟨by omega, rfl, ?_⟩
    rintro (h | h)
    · omega
    · simp [Value.ownBlock] at h
  case M =>
    rintro b (h | h)
    · omega
    · simp [Value.ownBlock] at h
  case hI =>
    rintro pre C1 W1 W2 ⟨v, rfl, h2, h3, h4⟩ hk
    have hk' : ∀ b, b < W1.heap.size → CApp w.heap.size v b → W2.heap[b]? = W1.heap[b]? := fun b hb hc => hk.block b hb fun h => h.2 hc
    exact ⟨v, rfl, (hk' _ (lt_of_heap h2) (.inl rfl)).trans h2, own_keepB h3 fun g hg => hk' g (h3.lt g hg).2 (.inr hg), h4.trans (hk.toBelow h4.size (fun b hb h => by omega))⟩
  case hIx => rintro cd C1 W1 W2 h; exact h.elim
  case h0 => exact ⟨_, rfl, G1.out, World.ownsRow_nil _ _ _ _, hBW⟩
  case hAx =>
    rintro ll pre x C1 a' W2 W3 hll hnl ⟨B5, v, rfl, h2, h3, h4, h5, h6, h7, rfl⟩ _ hk
    have hk' : ∀ b, b < W2.heap.size → CApp w.heap.size v b → W3.heap[b]? = W2.heap[b]? := fun b hb hc => hk.block b hb fun h => hnl (h ▸ hc)
    exact ⟨B5, v, rfl, (hk' _ (lt_of_heap h2) (.inl rfl)).trans h2, own_keepB h3 fun g hg => hk' g (h3.lt g hg).2 (.inr hg), h4.trans (hk.toBelow h4.size (fun b hb h => by omega)), h5, h6, (hk.block _ (lt_of_heap h7) h5).trans h7, rfl⟩
  case assign =>
    rintro ll m pre x suf C1 W1 K hll hlt hnl _ ⟨v, rfl, h2, h3, h4⟩ _ hK
    have l2 := lt_of_heap h2
    have H3 := hidp h3
    clear h3
    gi_wp2
    exact hK _ _ ((Kept.refl _ _).alloc _) ⟨W1.heap.size, v, rfl, (Below.heap_alloc _ _ _ l2).trans h2, H3.out.alloc _, h4.alloc h4.size _, by omega, by omega, World.alloc_heap_new _ _, rfl⟩
  case body =>
    rintro ll m pre x suf C1 a' W2 hll hnl hxs ⟨B5, v, rfl, h2, h3, h4, h5, h6, h7, rfl⟩ _ hCl
    have hlen := HR.out _ hxs
    simp only [List.length_append, List.length_cons] at hlen
    obtain ⟨v', w5, hrun, hown', hg, hat⟩ := run_append_one (P := Try.prog) (ty := 87) (l := pre) (enc := kEnc) (w := W2) (base := w.heap.size + 1) Try.underlying87 hi hz hs hbb rfl kEnc_len (by decide) kEnc_one h3 x (by omega) (by omega) (by have := h4.size; have := lt_of_heap h2; omega)
    obtain ⟨A5, c5, rfl, _⟩ := own_rows kEnc_len (by decide) hown'
    have hvB : ∀ g, v.ownBlock = some g → w.heap.size + 1 ≤ g ∧ g < W2.heap.size := fun g hg => h3.lt g hg
    have l2 := lt_of_heap h2
    have l7 := lt_of_heap h7
    have e5 : w5.heap[w.heap.size]? = some (.cells #[v] 87 (0, 0)) := (hg.block _ (by simp; omega) (fun e => by have := hvB _ e.symm; omega)).trans ((Below.heap_alloc _ _ _ l2).trans h2)
    have hb5 : Below w.heap.size w w5 := (h4.alloc h4.size _).grown hg (by have := h4.size; simp; omega) (fun g e => by have := hvB _ e; omega)
    have hk5 : Kept (CApp w.heap.size v) W2 w5 := ((Kept.refl _ _).alloc _).grown hg fun g e => .inl (.inr e)
    have hz5 : W2.heap.size + 1 ≤ w5.heap.size := by have := hg.size; simpa using this
    have c2 := cell_of_heap (o := 0) h2
    have x0 := cell_of_heap (o := 0) h7
    have x1 := cell_of_heap (o := 1) h7
    have x2 := cell_of_heap (o := 2) h7
    have s5 := frozen_of_heap (o := 0) e5
    simp only [List.getElem?_toArray, List.getElem?_cons_zero, List.getElem?_cons_succ] at c2 x0 x1 x2
    have l5 := lt_of_heap e5
    have hd5 : w5.cell? ⟨w.heap.size, 0, none⟩ = some v := by rw [cell_of_heap e5]; rfl
    have HR0 := hidp hrun
    have HO' := hidp hown'
    have E5 := hidp e5
    have HVB := hidp hvB
    have HAT := hidp hat
    have HZ5 := hidp hz5
    clear h2 h3 h7 hrun hown' e5 hvB hat hg hxs hCl hz5
    gi_wp2_with (gi_at_builtin; refine wpListIn_append_known rfl (.tmp 8) (.tmp 10) 87 rfl rfl rfl HR0.out ?_)
    refine ⟨CApp w.heap.size (.slice A5 (pre.length + 1) c5), hk5.setCell (.inl (.inl rfl)) _, ?_, _, rfl, heap_set1 E5.out _, ?_, hb5.setCell (Nat.le_refl _) _⟩
    · have hlo := HO'.out.lt
      have hz := HZ5.out
      rintro b (h | h)
      · subst h
        exact ⟨by simpa [World.setCell] using l5, .inl (.inl rfl)⟩
      · refine ⟨by simpa [World.setCell] using (hlo b h).2, ?_⟩
        rcases HAT.out with h' | h'
        · exact .inl (.inr (by rw [← h', h]))
        · rw [h'] at h
          injection h with h
          exact .inr (by omega)
    · rw [List.length_append]
      exact own_keepB HO'.out fun g hg => heap_set_ne rfl (by have := (HO'.out.lt g hg).1; omega) _ _
  case done =>
    rintro xs D C' W hRx hD hlt hnD ⟨v, rfl, h2, h3, h4⟩ hk
    obtain ⟨A5, c5, rfl, _⟩ := own_rows kEnc_len (by decide) h3
    have c2 := cell_of_heap (o := 0) h2
    simp only [List.getElem?_toArray, List.getElem?_cons_zero] at c2
    have HK := hidp hk
    have H3 := hidp h3
    have l2 := lt_of_heap h2
    have hkD : Kept (fun b => b = D) W (W.putObj D (.deferred none)) := (Kept.refl (fun b => b = D) W).putObj (r := D) (.inl rfl) (.deferred none)
    have hBD := h4.trans (hkD.toBelow h4.size (by omega))
    have hOD := own_keepB h3 fun g hg => hkD.block g (h3.lt g hg).2 fun e => hnD (e ▸ .inr hg)
    have HOD := hidp (own_monoB hOD (Nat.le_succ _))
    have HRx := hidp hRx
    clear hk h2 h3 hnD hOD hRx
    go_wp2
    refine leave_mark (.inl rfl) (D := D) HK.out rfl (v := .slice A5 xs.length c5) ?_ ⟨_, xs, rfl, HRx.out, HOD.out, hBD⟩
    simp [results, Try.f73, go_sem]
  case stop => rintro D cd C' W hD hlt hnD h; exact h.elim
end Go.Proofs.Ytologegkbcedhaa

/-
  DERIVED: THE SHELF's CONTRACTS AT THIS DUMP, IN PLAIN WORDS (tools/lay-plain.mjs out of 'YtologegkbcedhaaShelf.lean', which tools/lay-shelf.mjs wrote): THE SAME DECLARATIONS UNDER THE SAME NAMES: 'import', 'namespace', 'open', 'def', 'theorem' AND NOTHING ELSE: no command of the shelf's: FOR A HAND-IN. Each laying: the table of numbers ('.._ren') and one theorem, a field a fact of the dump's own or the kernel's comparison; each contract: ONE APPLICATION.
-/
namespace Go.Proofs
open Go.Shelf
def Try.sortK_ren : Go.Shelf.Ren := ⟨fun | 6 => 63 | 15 => 68 | 14 => 74 | 28 => 84 | 29 => 85 | 20 => 95 | 21 => 96 | 22 => 97 | 23 => 98 | 24 => 99 | 25 => 100 | 26 => 101 | 27 => 102 | 46 => 111 | 47 => 104 | 48 => 105 | 49 => 112 | 50 => 113 | 57 => 116 | n => n, fun | 22 => 87 | 24 => 45 | 25 => 92 | 3 => 3 | 39 => 50 | 0 => 0 | 53 => 136 | 55 => 138 | 4 => 4 | 46 => 129 | 45 => 128 | 50 => 133 | 5 => 5 | 9 => 9 | 66 => 150 | 70 => 154 | 76 => 160 | 77 => 161 | n => n, fun | n => n⟩
theorem Try.sortK : Go.Proofs.SlLaysF0.n6 Try.prog Try.sortK_ren := {
  mixed := by kernel_rfl
  f6 := ⟨Try.f63.name, by decide, Try.func63.trans (congrArg some (by kernel_rfl))⟩
  f14 := ⟨Try.f74.name, by decide, Try.func74.trans (congrArg some (by kernel_rfl))⟩
  f15 := Try.func68.trans (congrArg some (by kernel_rfl))
  f20 := ⟨Try.f95.name, by decide, Try.func95.trans (congrArg some (by kernel_rfl))⟩
  f21 := ⟨Try.f96.name, by decide, Try.func96.trans (congrArg some (by kernel_rfl))⟩
  f22 := ⟨Try.f97.name, by decide, Try.func97.trans (congrArg some (by kernel_rfl))⟩
  f23 := ⟨Try.f98.name, by decide, Try.func98.trans (congrArg some (by kernel_rfl))⟩
  f24 := ⟨Try.f99.name, by decide, Try.func99.trans (congrArg some (by kernel_rfl))⟩
  f25 := ⟨Try.f100.name, by decide, Try.func100.trans (congrArg some (by kernel_rfl))⟩
  f26 := ⟨Try.f101.name, by decide, Try.func101.trans (congrArg some (by kernel_rfl))⟩
  f27 := ⟨Try.f102.name, by decide, Try.func102.trans (congrArg some (by kernel_rfl))⟩
  f28 := Try.func84.trans (congrArg some (by kernel_rfl))
  f29 := Try.func85.trans (congrArg some (by kernel_rfl))
  f46 := ⟨Try.f111.name, by decide, Try.func111.trans (congrArg some (by kernel_rfl))⟩
  f47 := Try.func104.trans (congrArg some (by kernel_rfl))
  f48 := Try.func105.trans (congrArg some (by kernel_rfl))
  f49 := ⟨Try.f112.name, by decide, Try.func112.trans (congrArg some (by kernel_rfl))⟩
  f50 := ⟨Try.f113.name, by decide, Try.func113.trans (congrArg some (by kernel_rfl))⟩
  f57 := ⟨Try.f116.name, by decide, Try.func116.trans (congrArg some (by kernel_rfl))⟩
  t0 := Try.underlying0
  a0 := Try.isAgg0
  z0 := Try.sizeOf0
  v0 := Try.zeroValue0
  t3 := Try.underlying3
  a3 := Try.isAgg3
  z3 := Try.sizeOf3
  v3 := Try.zeroValue3
  t4 := Try.underlying4
  a4 := Try.isAgg4
  z4 := Try.sizeOf4
  v4 := Try.zeroValue4
  t5 := Try.underlying5
  a5 := Try.isAgg5
  z5 := Try.sizeOf5
  v5 := Try.zeroValue5
  t9 := Try.underlying9
  a9 := Try.isAgg9
  z9 := Try.sizeOf9
  v9 := Try.zeroValue9
  t22 := Try.underlying87
  a22 := Try.isAgg87
  z22 := Try.sizeOf87
  v22 := Try.zeroValue87
  t25 := Try.underlying92
  a25 := Try.isAgg92
  z25 := Try.sizeOf92
  v25 := Try.zeroValue92
  t39 := Try.underlying50
  a39 := Try.isAgg50
  z39 := Try.sizeOf50
  v39 := Try.zeroValue50
  t45 := Try.underlying128
  a45 := Try.isAgg128
  z45 := Try.sizeOf128
  v45 := Try.zeroValue128
  t46 := Try.underlying129
  a46 := Try.isAgg129
  z46 := Try.sizeOf129
  v46 := Try.zeroValue129
  t50 := Try.underlying133
  a50 := Try.isAgg133
  z50 := Try.sizeOf133
  v50 := Try.zeroValue133
  t53 := Try.underlying136
  a53 := Try.isAgg136
  z53 := Try.sizeOf136
  v53 := Try.zeroValue136
  t55 := Try.underlying138
  a55 := Try.isAgg138
  z55 := Try.sizeOf138
  v55 := Try.zeroValue138
  t66 := Try.underlying150
  a66 := Try.isAgg150
  z66 := Try.sizeOf150
  v66 := Try.zeroValue150
  t70 := Try.underlying154
  a70 := Try.isAgg154
  z70 := Try.sizeOf154
  v70 := Try.zeroValue154
  t76 := Try.underlying160
  a76 := Try.isAgg160
  z76 := Try.sizeOf160
  v76 := Try.zeroValue160
  t77 := Try.underlying161
  a77 := Try.isAgg161
  z77 := Try.sizeOf161
  v77 := Try.zeroValue161 }
end Go.Proofs

/- slices.Collect, slices.SortFunc, slices.SortedFunc at keys. -/
namespace Go.Proofs.Ytologegkbcedhaa
open Go.RowKit Go.Shelf Go.Sort

set_option maxHeartbeats 400000 in
theorem collectK_any (gf : Nat) (lb : Array Value) (eg : ∀ args w, (callFunc gf args).run Try.prog w = .ok (.enter gf args) w) (R : List Ky → Prop) (S : Nat → Prop) (w : World)
    (hseq : SeqG Try.prog gf lb (fun x : Ky => #[.agg #[.int .i64 x.kind, .int .i64 x.subj, .int .i64 x.obj]]) R S w) (hS : ∀ b, S b → b < w.heap.size) (hR : ∀ xs, R xs → xs.length ≤ 1000000) :
    Calls Try.prog 62 #[.func (.func gf) #[] lb] w (AppKPost R w) := by
  go_enter Try.func62, Try.ntmps62
  go_wp2_with fail
  refine (appSeqK_any gf lb eg R S w hseq hS hR).mono ?_
  rintro e w1 ⟨v, xs, rfl, h1, h2, h3⟩
  go_wp2_with fail
  go_ret
  exact ⟨v, xs, rfl, h1, h2, h3⟩

set_option maxRecDepth 100000 in
set_option maxHeartbeats 1000000 in
theorem lenK0 (w : World) : Calls Try.prog 68 #[.int .u64 0] w fun e w' => e = .returned (.int .i64 0) ∧ w = w' := by
  go_enter Try.func68, Try.ntmps68
  go_wp2
  go_ret
  exact ⟨ret_int (by kernel_rfl), rfl⟩
set_option maxRecDepth 100000 in
set_option maxHeartbeats 1000000 in
theorem insK_nil (p : Option Addr) (cap : Nat) (fv : Value) (w : World) : Calls Try.prog 95 #[.slice p 0 cap, .int .i64 0, .int .i64 0, fv] w fun e w' => e = .returned (.tuple #[]) ∧ w = w' := by
  go_enter Try.func95, Try.ntmps95
  go_wp2_with fail
  go_loopw [8, 9] (fun i _ wr => i = .int .i64 1 ∧ w = wr) (fun _ _ _ => 0)
  case atStart => exact ⟨rfl, rfl⟩
  case round =>
    obtain ⟨rfl, rfl⟩ := hrel
    go_wp2_with fail
    go_end0
    exact ⟨rfl, rfl⟩
set_option maxRecDepth 100000 in
set_option maxHeartbeats 1000000 in
theorem pdqK_nil (p : Option Addr) (cap : Nat) (fv : Value) (w : World) : Calls Try.prog 74 #[.slice p 0 cap, .int .i64 0, .int .i64 0, .int .i64 0, fv] w fun e w' => e = .returned (.tuple #[]) ∧ w = w' := by
  go_enter Try.func74, Try.ntmps74
  go_wp2_with fail
  refine wp_loop_rounds 1 ?_
  rw [rounds_succ]
  go_wp2_with (go_at_call 95; refine (insK_nil p cap fv _).mono ?_; rintro e w1 ⟨rfl, rfl⟩)
  refine bodyPost_ret (results_none rfl _ _ _) rfl ?_
  exact ⟨rfl, rfl⟩
set_option maxRecDepth 100000 in
set_option maxHeartbeats 1000000 in
theorem sortK_nil (p : Option Addr) (cap : Nat) (fv : Value) (w : World) : Calls Try.prog 63 #[.slice p 0 cap, fv] w fun e w' => e = .returned (.tuple #[]) ∧ w = w' := by
  go_enter Try.func63, Try.ntmps63
  go_wp2_with fail
  refine (lenK0 _).mono ?_
  rintro e w1 ⟨rfl, rfl⟩
  go_wp2_with fail
  refine (pdqK_nil _ _ _ _).mono ?_
  rintro e w1 ⟨rfl, rfl⟩
  go_wp2_with fail
  go_end0
  exact ⟨rfl, rfl⟩

theorem ltOfK (a b : Ky) : ltOf cmpK a b = a.lt b := by
  rw [Bool.eq_iff_iff, ← cmpK_lt]
  simp [ltOf]
theorem swoK : SWO (ltOf cmpK) := by
  refine ⟨fun x => by rw [ltOfK]; exact Ky.lt_irrefl x, fun x y z => ?_, fun x y z => ?_⟩
  · rw [ltOfK, ltOfK, ltOfK]; exact Ky.lt_trans
  · rw [ltOfK, ltOfK, ltOfK]
    intro h1 h2
    rcases h : x.lt z with _ | _
    · rfl
    · rcases Ky.lt_tri x y with h3 | rfl | h3
      · rw [h3] at h1; cases h1
      · rw [h] at h2; cases h2
      · rw [Ky.lt_trans h3 h] at h2; cases h2
theorem aggK (w : World) : (isAgg 45).run Try.prog w = .ok true w := by
  simp [isAgg, run_underlying Try.underlying45]
theorem sizeK (w : World) : (Go.sizeOf 45).run Try.prog w = .ok 3 w := by
  obtain ⟨i0, hi, _, hs, _⟩ := info_parts kInfo
  simp [Go.sizeOf, typeInfo, hi, hs]
theorem sortK_own (base n : Nat) (v : Value) (l : List Ky) (w : World) (hown : w.ownsRow base 45 3 v n (l.flatMap kEnc)) (hn : n < 4611686018427387904) :
    Calls Try.prog 63 #[v, .func (.func 44) #[] #[]] w fun e w' => e = .returned (.tuple #[]) ∧ ∃ d : List Ky, d.Perm l ∧ d.Pairwise (fun x y => ¬ cmpK y x < 0) ∧ w'.ownsRow base 45 3 v n (d.flatMap kEnc) ∧ Below base w w' := by
  have hlen := own_len kEnc_len (by decide) hown
  rcases hown.2 with ⟨rfl, rfl⟩ | ⟨G, cap, _, rfl, _⟩
  · have hl : l = [] := List.eq_nil_of_length_eq_zero hlen.symm
    subst hl
    exact (sortK_nil _ _ _ _).mono fun e w' ⟨he, hb⟩ => by subst hb; exact ⟨he, [], List.Perm.nil, List.Pairwise.nil, World.ownsRow_nil _ _ _ _, Below.refl _ _⟩
  · exact sortFunc_own (ρ := Try.sortK_ren) Try.sortK aggK sizeK kEnc_len kEnc_one cmpK swoK 44 #[] (enters_of Try.func44 (by kernel_rfl) rfl) l hown (by decide) (fun W x y => (fcmpKeys_any x y W).mono fun e w' ⟨he, hb⟩ => ⟨he, hb.grown⟩) hn

def SortedK (d : List Ky) : Prop := d.Pairwise fun x y => y.lt x = false
def SortedKPost (R : List Ky → Prop) (w : World) (e : Ending) (w' : World) : Prop := ∃ (v : Value) (xs d : List Ky), e = .returned v ∧ R xs ∧ d.Perm xs ∧ SortedK d ∧ w'.ownsRow w.heap.size 45 3 v d.length (d.flatMap kEnc) ∧ Below w.heap.size w w'
set_option maxHeartbeats 400000 in
theorem sortedK_any (gf : Nat) (lb : Array Value) (eg : ∀ args w, (callFunc gf args).run Try.prog w = .ok (.enter gf args) w) (R : List Ky → Prop) (S : Nat → Prop) (w : World)
    (hseq : SeqG Try.prog gf lb (fun x : Ky => #[.agg #[.int .i64 x.kind, .int .i64 x.subj, .int .i64 x.obj]]) R S w) (hS : ∀ b, S b → b < w.heap.size) (hR : ∀ xs, R xs → xs.length ≤ 1000000) :
    Calls Try.prog 42 #[.func (.func gf) #[] lb, .func (.func 44) #[] #[]] w (SortedKPost R w) := by
  go_enter Try.func42, Try.ntmps42
  go_wp2_with fail
  refine (collectK_any gf lb eg R S w hseq hS hR).mono ?_
  rintro e w1 ⟨v, xs, rfl, h1, h2, h3⟩
  have H1 := hidp h1
  have H2 := hidp h2
  have hx := hR xs h1
  clear h1 h2
  go_wp2_with fail
  refine (sortK_own _ _ v xs _ H2.out (by omega)).mono ?_
  rintro e w2 ⟨rfl, d, hp, hs, ho, hb⟩
  have HP := hidp hp
  have HS : Hid (SortedK d) := hs.imp fun {x y} h => by
    rcases hl : y.lt x with _ | _
    · rfl
    · exact absurd ((cmpK_lt y x).2 hl) h
  have HO := hidp ho
  clear hp hs ho
  go_wp2_with fail
  go_ret
  exact ⟨v, xs, d, rfl, H1.out, HP.out, HS.out, by rw [HP.out.length_eq]; exact HO.out, h3.trans hb⟩

/-- The keys of facts, each once, in the order in which they come first. -/
def addKeys (l : List Fc) : List Ky := l.foldl (fun ks f => addKey ks f.key) []
theorem addKeys_step {l : List Fc} {n : Nat} {x : Fc} (h : l[n]? = some x) : addKeys (l.take (n + 1)) = addKey (addKeys (l.take n)) x.key := by
  rw [addKeys, take_snoc h, List.foldl_append]; rfl
theorem addKey_mem (ks : List Ky) (a k : Ky) : k ∈ addKey ks a ↔ k ∈ ks ∨ k = a := by
  unfold addKey
  split
  · rename_i h
    constructor
    · exact .inl
    · rintro (h' | rfl)
      · exact h'
      · exact h
  · simp
theorem addKeys_len (l : List Fc) : (addKeys l).length ≤ l.length := by
  have : ∀ (l : List Fc) (a : List Ky), (l.foldl (fun ks f => addKey ks f.key) a).length ≤ a.length + l.length := by
    intro l
    induction l with
    | nil => simp
    | cons x l ih =>
      intro a
      have h1 := ih (addKey a x.key)
      have h2 : (addKey a x.key).length ≤ a.length + 1 := by unfold addKey; split <;> simp
      simp only [List.foldl_cons, List.length_cons]
      omega
  have := this l []
  simpa [addKeys] using this
theorem addKeys_mem (l : List Fc) (k : Ky) : k ∈ addKeys l ↔ ∃ f ∈ l, f.key = k := by
  have : ∀ (l : List Fc) (a : List Ky), k ∈ l.foldl (fun ks f => addKey ks f.key) a ↔ k ∈ a ∨ ∃ f ∈ l, f.key = k := by
    intro l
    induction l with
    | nil => simp
    | cons x l ih =>
      intro a
      simp only [List.foldl_cons, ih, addKey_mem, List.mem_cons, exists_eq_or_imp]
      constructor
      · rintro ((h | rfl) | h)
        · exact .inl h
        · exact .inr (.inl rfl)
        · exact .inr (.inr h)
      · rintro (h | h | h)
        · exact .inl (.inl h)
        · exact .inl (.inr h.symm)
        · exact .inr h
  simpa [addKeys] using this l []
theorem addKeys_nodup (l : List Fc) : (addKeys l).Nodup := by
  have : ∀ (l : List Fc) (a : List Ky), a.Nodup → (l.foldl (fun ks f => addKey ks f.key) a).Nodup := by
    intro l
    induction l with
    | nil => intro a h; exact h
    | cons x l ih =>
      intro a h
      refine ih _ ?_
      show (addKey a x.key).Nodup
      unfold addKey
      split
      · exact h
      · rename_i hn
        rw [List.nodup_append]
        refine ⟨h, by simp, fun y hy z hz => ?_⟩
        simp at hz
        subst hz
        rintro rfl
        exact hn hy
  exact this l [] List.nodup_nil
theorem insK_mem (k : Ky) : ∀ (ks : List Ky) (x : Ky), x ∈ insK k ks ↔ x = k ∨ x ∈ ks
  | [], x => by simp [insK]
  | y :: l, x => by
    unfold insK
    split
    · rw [List.mem_cons, insK_mem k l x, List.mem_cons]
      constructor
      · rintro (h | h | h)
        · exact .inr (.inl h)
        · exact .inl h
        · exact .inr (.inr h)
      · rintro (h | h | h)
        · exact .inr (.inl h)
        · exact .inl h
        · exact .inr (.inr h)
    · split
      · rename_i _ h
        subst h
        simp
      · simp
theorem insK_sorted (k : Ky) : ∀ (ks : List Ky), ks.Pairwise (fun x y => x.lt y = true) → (insK k ks).Pairwise (fun x y => x.lt y = true)
  | [], _ => by simp [insK]
  | y :: l, h => by
    obtain ⟨h1, h2⟩ := List.pairwise_cons.1 h
    unfold insK
    split
    · rename_i hyk
      refine List.pairwise_cons.2 ⟨fun z hz => ?_, insK_sorted k l h2⟩
      rcases (insK_mem k l z).1 hz with rfl | hz
      · exact hyk
      · exact h1 z hz
    · rename_i hyk
      split
      · exact h
      · rename_i hne
        have hky : k.lt y = true := by
          rcases Ky.lt_tri k y with h' | h' | h'
          · exact h'
          · exact absurd h'.symm hne
          · exact absurd h' hyk
        refine List.pairwise_cons.2 ⟨fun z hz => ?_, h⟩
        rcases List.mem_cons.1 hz with rfl | hz
        · exact hky
        · exact Ky.lt_trans hky (h1 z hz)
theorem keysF_mem (l : List Fc) (k : Ky) : k ∈ keysF l ↔ ∃ f ∈ l, f.key = k := by
  have : ∀ (l : List Fc) (a : List Ky), k ∈ l.foldl (fun ks f => insK f.key ks) a ↔ k ∈ a ∨ ∃ f ∈ l, f.key = k := by
    intro l
    induction l with
    | nil => simp
    | cons x l ih =>
      intro a
      simp only [List.foldl_cons, ih, insK_mem, List.mem_cons, exists_eq_or_imp]
      constructor
      · rintro ((rfl | h) | h)
        · exact .inr (.inl rfl)
        · exact .inl h
        · exact .inr (.inr h)
      · rintro (h | h | h)
        · exact .inl (.inr h)
        · exact .inl (.inl h.symm)
        · exact .inr h
  simpa [keysF] using this l []
theorem keysF_sorted (l : List Fc) : (keysF l).Pairwise (fun x y => x.lt y = true) := by
  have : ∀ (l : List Fc) (a : List Ky), a.Pairwise (fun x y => x.lt y = true) → (l.foldl (fun ks f => insK f.key ks) a).Pairwise (fun x y => x.lt y = true) := by
    intro l
    induction l with
    | nil => intro a h; exact h
    | cons x l ih => intro a h; exact ih _ (insK_sorted _ _ h)
  exact this l [] List.Pairwise.nil
theorem sorted_keys {l : List Fc} {xs d : List Ky} (h1 : xs.Perm (addKeys l)) (h2 : d.Perm xs) (h3 : SortedK d) : d = keysF l := by
  have hk := keysF_sorted l
  have hn : (keysF l).Nodup := hk.imp fun {a b} h => by rintro rfl; rw [Ky.lt_irrefl] at h; cases h
  have hp : d.Perm (keysF l) := h2.trans (h1.trans ((List.perm_ext_iff_of_nodup (addKeys_nodup l) hn).2 fun k => by rw [addKeys_mem, keysF_mem]))
  refine List.Perm.eq_of_pairwise (le := fun x y => y.lt x = false) (fun a b _ _ h1 h2 => ?_) (show d.Pairwise (fun x y => y.lt x = false) from h3) (hk.imp fun {a b} h => lt_asymm h) hp
  rcases Ky.lt_tri a b with h | h | h
  · rw [h] at h2; cases h2
  · exact h
  · rw [h] at h1; cases h1
end Go.Proofs.Ytologegkbcedhaa

/- A read is alike exactly if no change touches it: plain (as F39). -/
namespace Go.Proofs.Ytologegkbcedhaa
open Go.RowKit Go.Shelf

theorem ofF_gone {l : List Fc} {k : Ky} (h : k ∉ keysF l) (t : Int) : ofF l k t = [] := by
  rw [ofF, List.filter_eq_nil_iff]
  intro f hf
  have : f.key ≠ k := fun e => h ((keysF_mem l k).2 ⟨f, hf, e⟩)
  simp [this]
section
variable {l : List Fc} {k : Ky} {b a : Int}
def inSp (S : List (Int × Int)) (t : Int) : Prop := ∃ s ∈ S, s.1 ≤ t ∧ t < s.2
structure SpOk (l : List Fc) (k : Ky) (b a : Int) (n : Nat) (S : List (Int × Int)) : Prop where
  bd : ∀ s ∈ S, 0 ≤ s.1 ∧ s.1 < s.2 ∧ s.2 ≤ (n : Int)
  apart : S.Pairwise fun s s' => s.2 < s'.1
  sp : ∀ t : Nat, t < n → (inSp S t ↔ diffB l k b a t = true)
theorem joinT_cases (S : List (Int × Int)) (t : Int) : joinT S t = S ++ [(t, t + 1)] ∧ (∀ D x, S = D ++ [x] → x.2 ≠ t) ∨ ∃ D x, S = D ++ [x] ∧ x.2 = t ∧ joinT S t = D ++ [(x.1, t + 1)] := by
  rcases List.eq_nil_or_concat S with rfl | ⟨D, x, rfl⟩
  · exact .inl ⟨rfl, fun D x h => by simp at h⟩
  · simp only [List.concat_eq_append]
    unfold joinT
    simp only [List.getLast?_append, List.getLast?_singleton, Option.some_or, List.dropLast_concat]
    by_cases h : x.2 = t
    · exact .inr ⟨D, x, rfl, h, by simp [h]⟩
    · refine .inl ⟨by simp [h], fun D' x' e => ?_⟩
      have := List.append_inj' e rfl
      have h2 : x = x' := by simpa using this.2
      rw [← h2]; exact h
theorem spans_ok (n : Nat) : SpOk l k b a n (spansTo l k b a n) := by
  induction n with
  | zero => exact ⟨fun s h => by simp [spansTo] at h, List.Pairwise.nil, fun t h => by omega⟩
  | succ n ih =>
    obtain ⟨i1, i2, i3⟩ := ih
    rw [spansTo_step]
    generalize spansTo l k b a n = S at *
    cases hd : diffB l k b a n with
    | false =>
      rw [if_neg (by simp)]
      refine ⟨fun s hs => by have := i1 s hs; omega, i2, fun t ht => ?_⟩
      rcases Nat.lt_or_ge t n with h | h
      · exact i3 t h
      · obtain rfl : t = n := by omega
        rw [hd]
        simp only [Bool.false_eq_true, iff_false]
        rintro ⟨s, hs, h1, h2⟩
        have := i1 s hs
        omega
    | true =>
      rw [if_pos rfl]
      rcases joinT_cases S n with ⟨hj, hne⟩ | ⟨D, x, rfl, hx, hj⟩
      · rw [hj]
        have hlt : ∀ s ∈ S, s.2 < (n : Int) := by
          intro s hs
          rcases List.eq_nil_or_concat S with rfl | ⟨D, x, rfl⟩
          · cases hs
          · simp only [List.concat_eq_append] at *
            have hxn : x.2 ≠ (n : Int) := hne D x rfl
            have hxb := i1 x (by simp)
            rcases List.mem_append.1 hs with hs | hs
            · have := (List.pairwise_append.1 i2).2.2 s hs x (by simp)
              omega
            · simp at hs
              subst hs
              omega
        refine ⟨fun s hs => ?_, List.pairwise_append.2 ⟨i2, by simp, fun s hs s' hs' => ?_⟩, fun t ht => ?_⟩
        · rcases List.mem_append.1 hs with hs | hs
          · have := i1 s hs; omega
          · simp at hs; subst hs; simp; omega
        · simp at hs'; subst hs'; exact hlt s hs
        · rcases Nat.lt_or_ge t n with h | h
          · rw [← i3 t h]
            constructor
            · rintro ⟨s, hs, h1, h2⟩
              rcases List.mem_append.1 hs with hs | hs
              · exact ⟨s, hs, h1, h2⟩
              · simp at hs; subst hs; simp at h1; omega
            · rintro ⟨s, hs, h1, h2⟩; exact ⟨s, by simp [hs], h1, h2⟩
          · obtain rfl : t = n := by omega
            rw [hd]
            simp only [iff_true]
            exact ⟨((t : Int), (t : Int) + 1), by simp, by simp, by simp; omega⟩
      · rw [hj]
        have i2' := List.pairwise_append.1 i2
        have hxb := i1 x (by simp)
        refine ⟨fun s hs => ?_, List.pairwise_append.2 ⟨i2'.1, by simp, fun s hs s' hs' => ?_⟩, fun t ht => ?_⟩
        · rcases List.mem_append.1 hs with hs | hs
          · have := i1 s (by simp [hs]); omega
          · simp at hs; subst hs; simp; omega
        · simp at hs'; subst hs'; exact i2'.2.2 s hs x (by simp)
        · rcases Nat.lt_or_ge t n with h | h
          · rw [← i3 t h]
            constructor
            · rintro ⟨s, hs, h1, h2⟩
              rcases List.mem_append.1 hs with hs | hs
              · exact ⟨s, by simp [hs], h1, h2⟩
              · simp at hs; subst hs; exact ⟨x, by simp, h1, by omega⟩
            · rintro ⟨s, hs, h1, h2⟩
              rcases List.mem_append.1 hs with hs | hs
              · exact ⟨s, by simp [hs], h1, h2⟩
              · simp at hs; subst hs; exact ⟨(s.1, (n : Int) + 1), by simp, h1, by simp; omega⟩
          · obtain rfl : t = n := by omega
            rw [hd]
            simp only [iff_true]
            exact ⟨(x.1, (t : Int) + 1), by simp, by simp; omega, by simp; omega⟩

/-- Points are alike exactly if all terms are. -/
theorem pointsTo_lt {k : Ky} {a z known : Int} {p : Int × Int} (h : p ∈ pointsTo l k a z known) : p.1 < z := by
  rw [pointsTo_eq] at h
  obtain ⟨n, hn, hp⟩ := List.mem_flatMap.1 h
  have := List.mem_range.1 hn
  unfold ptAt at hp
  split at hp
  · simp at hp; subst hp; simp; omega
  · cases hp
theorem pointsTo_alike (k : Ky) (x y c : Int) (n : Nat) : pointsTo l k c (c + n) x = pointsTo l k c (c + n) y ↔ ∀ t, c ≤ t → t < c + n → atF l k t x = atF l k t y := by
  induction n with
  | zero =>
    rw [pointsTo_start _ _ _ _ _ (by simp), pointsTo_start _ _ _ _ _ (by simp)]
    simp only [true_iff]
    intro t h1 h2
    simp at h2
    omega
  | succ n ih =>
    rw [show c + ((n + 1 : Nat) : Int) = (c + n) + 1 by omega, pointsTo_step _ _ _ _ _ (by omega), pointsTo_step _ _ _ _ _ (by omega)]
    constructor
    · intro h
      have key : pointsTo l k c (c + n) x = pointsTo l k c (c + n) y ∧ ptAt l k (c + n) x = ptAt l k (c + n) y := by
        rcases hx : atF l k (c + n) x with _ | v <;> rcases hy : atF l k (c + n) y with _ | u
        · rw [ptAt_no hx, ptAt_no hy] at *; simpa using h
        · rw [ptAt_no hx, ptAt_yes hy] at h
          rw [List.append_nil] at h
          have : ((c + n, u) : Int × Int) ∈ pointsTo l k c (c + n) x := by rw [h]; simp
          have := pointsTo_lt this
          simp at this
        · rw [ptAt_yes hx, ptAt_no hy] at h
          rw [List.append_nil] at h
          have : ((c + n, v) : Int × Int) ∈ pointsTo l k c (c + n) y := by rw [← h]; simp
          have := pointsTo_lt this
          simp at this
        · rw [ptAt_yes hx, ptAt_yes hy] at *
          exact List.append_inj' h rfl
      intro t h1 h2
      rcases Int.lt_or_le t (c + n) with h3 | h3
      · exact ih.1 key.1 t h1 h3
      · obtain rfl : t = c + n := by omega
        have h4 := key.2
        unfold ptAt at h4
        cases hx : atF l k (c + n) x <;> cases hy : atF l k (c + n) y <;> simp [hx, hy] at h4 ⊢
        exact h4
    · intro h
      rw [ih.2 fun t h1 h2 => h t h1 (by omega)]
      unfold ptAt
      rw [h (c + n) (by omega) (by omega)]
theorem pointsF_alike (k : Ky) (f t x y : Int) : pointsF l k f t x = pointsF l k f t y ↔ ∀ z, max 0 f ≤ z → z < min t 1024 → atF l k z x = atF l k z y := by
  unfold pointsF
  rcases Int.lt_or_le (max 0 f) (min t 1024) with h | h
  · obtain ⟨n, hn⟩ : ∃ n : Nat, min t 1024 = max 0 f + n := ⟨(min t 1024 - max 0 f).toNat, by omega⟩
    rw [hn]
    exact pointsTo_alike k x y _ n
  · rw [pointsTo_start _ _ _ _ _ h, pointsTo_start _ _ _ _ _ h]
    simp only [true_iff]
    intro z h1 h2
    omega

/-- Does a change touch the read? -/
def touchSK (r : Rd) (key : Ky) (s : Int × Int) : Bool := decide (key = r.1) && decide (max r.2.1 s.1 < min r.2.2 s.2)
def touchCK (r : Rd) (ch : Ch) : Bool := ch.2.any (touchSK r ch.1)
theorem changed_mem {k : Ky} {S : List (Int × Int)} : (k, S) ∈ changedF l b a ↔ k ∈ keysF l ∧ spansF l k b a = S ∧ S ≠ [] := by
  unfold changedF
  rw [List.mem_flatMap]
  constructor
  · rintro ⟨k', hk, h⟩
    by_cases he : spansF l k' b a = []
    · rw [changeOf_no he] at h; cases h
    · rw [changeOf_yes he, List.mem_singleton, Prod.mk.injEq] at h
      obtain ⟨rfl, hS⟩ := h
      exact ⟨hk, hS.symm, by rw [hS]; exact he⟩
  · rintro ⟨h1, h2, h3⟩
    refine ⟨k, h1, ?_⟩
    rw [changeOf_yes (by rw [h2]; exact h3), h2]
    exact List.mem_singleton.2 rfl
theorem diff_iff (t : Int) : diffB l k b a t = true ↔ atF l k t b ≠ atF l k t a := by simp [diffB]
theorem read_law (l : List Fc) (r : Rd) (b a : Int) : alikeF l [r] b a = !(changedF l b a).any (touchCK r) := by
  have h1 : alikeF l [r] b a = decide (pointsF l r.1 r.2.1 r.2.2 b = pointsF l r.1 r.2.1 r.2.2 a) := by simp [alikeF]
  rw [h1]
  have key : (changedF l b a).any (touchCK r) = true ↔ ¬ pointsF l r.1 r.2.1 r.2.2 b = pointsF l r.1 r.2.1 r.2.2 a := by
    rw [pointsF_alike, List.any_eq_true]
    constructor
    · rintro ⟨⟨kk, S⟩, hch, ht⟩ hall
      obtain ⟨h2, h3, _⟩ := changed_mem.1 hch
      unfold touchCK at ht
      rw [List.any_eq_true] at ht
      obtain ⟨s, hs, hts⟩ := ht
      have hs : s ∈ S := hs
      unfold touchSK at hts
      simp only [Bool.and_eq_true, decide_eq_true_eq] at hts
      obtain ⟨hk, hm⟩ := hts
      have hk : kk = r.1 := hk
      have ok := spans_ok (l := l) (k := r.1) (b := b) (a := a) 1024
      have h3' : spansTo l r.1 b a 1024 = S := by rw [← h3, spansF, hk]
      rw [h3'] at ok
      have hbd := ok.bd s hs
      obtain ⟨n, hn⟩ : ∃ n : Nat, max r.2.1 s.1 = n := ⟨(max r.2.1 s.1).toNat, by omega⟩
      have hd := (ok.sp n (by omega)).1 ⟨s, hs, by omega, by omega⟩
      rw [diff_iff] at hd
      exact hd (hall n (by omega) (by omega))
    · intro hn
      obtain ⟨z, hz⟩ := Classical.not_forall.1 hn
      obtain ⟨hz1, hz⟩ := Classical.not_imp.1 hz
      obtain ⟨hz2, hz⟩ := Classical.not_imp.1 hz
      obtain ⟨n, rfl⟩ : ∃ n : Nat, z = n := ⟨z.toNat, by omega⟩
      have ok := spans_ok (l := l) (k := r.1) (b := b) (a := a) 1024
      obtain ⟨s, hs, h2, h3⟩ := (ok.sp n (by omega)).2 ((diff_iff _).2 hz)
      have hkey : r.1 ∈ keysF l := by
        rcases Classical.em (r.1 ∈ keysF l) with h | h
        · exact h
        · exfalso
          apply hz
          rw [atF, atF, ofF_gone h, ofF_gone h]
      obtain ⟨S, hS⟩ : ∃ S, spansF l r.1 b a = S := ⟨_, rfl⟩
      have hs' : s ∈ S := by rw [← hS, spansF]; exact hs
      refine ⟨(r.1, S), changed_mem.2 ⟨hkey, hS, ?_⟩, ?_⟩
      · rintro rfl
        cases hs'
      · unfold touchCK
        rw [List.any_eq_true]
        refine ⟨s, hs', ?_⟩
        unfold touchSK
        simp only [Bool.and_eq_true, decide_eq_true_eq]
        exact ⟨trivial, by omega⟩
  cases h : (changedF l b a).any (touchCK r) with
  | true => rw [decide_eq_false (key.1 h)]; rfl
  | false =>
    rw [decide_eq_true]
    · rfl
    · rcases Classical.em (pointsF l r.1 r.2.1 r.2.2 b = pointsF l r.1 r.2.1 r.2.2 a) with h2 | h2
      · exact h2
      · rw [key.2 h2] at h; cases h
/-- Each span of a change is in order, apart from the one before, and differs. -/
theorem change_ok {kk : Ky} {S : List (Int × Int)} (h : (kk, S) ∈ changedF l b a) {j : Nat} {s : Int × Int} (hs : S[j]? = some s) : 0 ≤ s.1 ∧ s.1 < s.2 ∧ s.2 ≤ 1024 ∧ atF l kk s.1 b ≠ atF l kk s.1 a ∧ ∀ p, 0 < j → S[j - 1]? = some p → p.2 < s.1 := by
  obtain ⟨h2, h3, _⟩ := changed_mem.1 h
  have ok := spans_ok (l := l) (k := kk) (b := b) (a := a) 1024
  have h3' : spansTo l kk b a 1024 = S := by rw [← h3, spansF]
  rw [h3'] at ok
  clear h3 h3'
  have hm : s ∈ S := List.mem_of_getElem? hs
  have hbd := ok.bd s hm
  refine ⟨hbd.1, hbd.2.1, by omega, ?_, fun p hj hp => ?_⟩
  · obtain ⟨n, hn⟩ : ∃ n : Nat, s.1 = n := ⟨s.1.toNat, by omega⟩
    rw [hn]
    exact (diff_iff _).1 ((ok.sp n (by omega)).1 ⟨s, hm, by omega, by omega⟩)
  · obtain ⟨e1, e2⟩ := List.getElem?_eq_some_iff.1 hp
    obtain ⟨e3, e4⟩ := List.getElem?_eq_some_iff.1 hs
    have := List.pairwise_iff_getElem.1 ok.apart (j - 1) j e1 e3 (by omega)
    rw [e2, e4] at this
    exact this
end
end Go.Proofs.Ytologegkbcedhaa

/- IndexFinds: the plain law. -/
namespace Go.Proofs.Ytologegkbcedhaa
open Go.RowKit

theorem touch_eq (r : Rd) (ch : Ky × List (Int × Int)) : touchCK r ch = touchC r ch := by
  unfold touchCK touchC touchSK touchS
  by_cases h : r.1 = ch.1
  · simp [h]
  · have h' : ¬ ch.1 = r.1 := fun e => h e.symm
    simp [h, h']
theorem alike_all (l : List Fc) (rs : List Rd) (b a : Int) : alikeF l rs b a = rs.all fun r => !(changedF l b a).any (touchC r) := by
  have h : ∀ r, (!(changedF l b a).any (touchC r)) = alikeF l [r] b a := fun r => by
    rw [read_law]
    congr 2
    funext ch
    exact (touch_eq r ch).symm
  simp only [h]
  simp [alikeF]
theorem finds_mem (l : List Fc) (ds : List (List Rd)) (b a : Int) (v : Int) : v ∈ affL (buildL ds) (changedF l b a) ↔ ∃ i : Nat, i < ds.length ∧ v = i ∧ alikeF l (ds.getD i []) b a = false := by
  rw [affL, ordOf_mem, hitL]
  simp only [List.mem_map, List.mem_filter]
  constructor
  · rintro ⟨x, ⟨hx, hh⟩, rfl⟩
    rw [buildL, ordL, ordOf_mem, allTo] at hx
    simp only [List.mem_flatMap, List.mem_range, linksOf, List.mem_map] at hx
    obtain ⟨i, hi, r, hr, rfl⟩ := hx
    refine ⟨i, hi, rfl, ?_⟩
    rw [alike_all, List.all_eq_false]
    exact ⟨r, hr, by simpa using hh⟩
  · rintro ⟨i, hi, rfl, h⟩
    rw [alike_all, List.all_eq_false] at h
    obtain ⟨r, hr, hh⟩ := h
    refine ⟨(r, (i : Int)), ⟨?_, by simpa using hh⟩, rfl⟩
    rw [buildL, ordL, ordOf_mem, allTo]
    simp only [List.mem_flatMap, List.mem_range, linksOf, List.mem_map]
    exact ⟨i, hi, r, hr, rfl⟩
/-- T up to n lies before i, the rest not. -/
def Upto (T : List Int) (i n : Nat) : Prop := n ≤ T.length ∧ (∀ (j : Nat) (v : Int), j < n → T[j]? = some v → v < i) ∧ ∀ (j : Nat) (v : Int), n ≤ j → T[j]? = some v → (i : Int) ≤ v
theorem Upto.zero {T : List Int} (h : ∀ v ∈ T, 0 ≤ v) : Upto T 0 0 := ⟨Nat.zero_le _, fun j v hj => by omega, fun j v _ hv => by have := h v (List.mem_of_getElem? hv); omega⟩
theorem Upto.hit {T : List Int} {i n : Nat} (hs : Str (fun a b : Int => decide (a < b)) T) (h : Upto T i n) (hi : (i : Int) ∈ T) : T[n]? = some (i : Int) := by
  obtain ⟨j, hj⟩ := List.mem_iff_getElem?.1 hi
  rcases Nat.lt_trichotomy j n with h1 | rfl | h1
  · have := h.2.1 j i h1 hj; omega
  · exact hj
  · obtain ⟨e1, e2⟩ := List.getElem?_eq_some_iff.1 hj
    have hn : T[n]? = some T[n] := List.getElem?_eq_getElem (by omega)
    have h2 := h.2.2 n _ (Nat.le_refl _) hn
    have h3 := List.pairwise_iff_getElem.1 hs n j (by omega) e1 h1
    have h4 : T[n] < T[j] := of_decide_eq_true h3
    rw [e2] at h4
    omega
theorem Upto.yes {T : List Int} {i n : Nat} (hs : Str (fun a b : Int => decide (a < b)) T) (h : Upto T i n) (hn : T[n]? = some (i : Int)) : Upto T (i + 1) (n + 1) := by
  obtain ⟨e1, e2⟩ := List.getElem?_eq_some_iff.1 hn
  refine ⟨by omega, fun j v hj hv => ?_, fun j v hj hv => ?_⟩
  · rcases Nat.lt_or_ge j n with h1 | h1
    · have := h.2.1 j v h1 hv; omega
    · obtain rfl : j = n := by omega
      rw [hn] at hv
      cases hv
      omega
  · obtain ⟨e3, e4⟩ := List.getElem?_eq_some_iff.1 hv
    have h3 := List.pairwise_iff_getElem.1 hs n j e1 e3 (by omega)
    have h4 : T[n] < T[j] := of_decide_eq_true h3
    rw [e2, e4] at h4
    omega
theorem Upto.no {T : List Int} {i n : Nat} (h : Upto T i n) (hi : (i : Int) ∉ T) : Upto T (i + 1) n := by
  refine ⟨h.1, fun j v hj hv => by have := h.2.1 j v hj hv; omega, fun j v hj hv => ?_⟩
  have h1 := h.2.2 j v hj hv
  have h2 : v ≠ i := by rintro rfl; exact hi (List.mem_of_getElem? hv)
  omega
theorem Upto.done {T : List Int} {i n : Nat} (h : Upto T i n) (hT : ∀ v ∈ T, v < i) : n = T.length := by
  rcases Nat.lt_or_ge n T.length with h1 | h1
  · have h2 := h.2.2 n _ (Nat.le_refl _) (List.getElem?_eq_getElem h1)
    have h3 := hT _ (List.getElem_mem h1)
    omega
  · have := h.1
    omega
end Go.Proofs.Ytologegkbcedhaa

/- The reference's Changed walked. -/
namespace Go.Proofs.Ytologegkbcedhaa
open Go.RowKit Go.Shelf

theorem rows_keep_blk {α : Type} {k : Nat} {enc : α → List Value} {W W' : World} {n₀ n₁ : Nat} {A : Option Addr} {n c : Nat} {l : List α} (h : Rows k (Rep.flat enc) W n₀ A n c l) (hn : n₀ ≤ n₁) (hb : ∀ ad, A = some ad → ad.block < n₀ → W'.heap[ad.block]? = W.heap[ad.block]?) : Rows k (Rep.flat enc) W' n₁ A n c l := by
  refine ⟨h.1, h.2.1, h.2.2.1, fun hn' => ?_⟩
  obtain ⟨b, off, e, hlt, hx⟩ := h.2.2.2 hn'
  refine ⟨b, off, e, by omega, fun i x hi => ?_⟩
  obtain ⟨cs, h1, h2⟩ := hx i x hi
  have hblk : W'.heap[b]? = W.heap[b]? := hb _ e hlt
  exact ⟨cs, h1, fun j u hj => (World.cell?_of_block (w := W) (w' := W') (a := ⟨b, _, none⟩) hblk).trans (h2 j u hj)⟩
/-- The slices of the changes lie apart from the block of their own list. -/
def ChApart (out : Value) (raw : List Cr) : Prop := ∀ r ∈ raw, ∀ ad, r.2.1 = some ad → out.ownBlock ≠ some ad.block
theorem ChOks.grown {W W' : World} {raw : List Cr} {chs : List Ch} {row : Option Nat} (h : ChOks W raw chs) (hg : W.grownBy W' row) (hne : ∀ r ∈ raw, ∀ ad, r.2.1 = some ad → row ≠ some ad.block) : ChOks W' raw chs :=
  ⟨h.1, fun i r ch h1 h2 => ⟨(h.2 i r ch h1 h2).1, rows_keep_blk (h.2 i r ch h1 h2).2 hg.size fun ad e hlt => hg.block _ hlt fun e' => hne r (List.mem_of_getElem? h1) ad e e'.symm⟩⟩
theorem ChOks.lt {W : World} {raw : List Cr} {chs : List Ch} {r : Cr} {ad : Addr} (h : ChOks W raw chs) (hr : r ∈ raw) (ha : r.2.1 = some ad) (hn : 0 < r.2.2.1) : ad.block < W.heap.size := by
  obtain ⟨i, hi⟩ := List.mem_iff_getElem?.1 hr
  have hl : i < chs.length := by rw [← h.1]; exact (List.getElem?_eq_some_iff.1 hi).1
  obtain ⟨b, off, e, hlt, _⟩ := (h.2 i r _ hi (List.getElem?_eq_getElem hl)).2.2.2.2 hn
  rw [ha] at e
  cases e
  exact hlt
theorem below_setCell {m : Nat} {w0 w : World} {a : Addr} (hb : Below m w0 w) (hg : m ≤ a.block) (v : Value) : Below m w0 (w.setCell a v) :=
  hb.trans ⟨rfl, rfl, rfl, by simp [World.setCell], fun q hq => by simp [World.setCell, Array.getElem?_modify, show a.block ≠ q by omega]⟩
theorem own_at {w : World} {base n m cap b off k : Nat} {e : TypeId} {cs : List Value} (h : w.ownsRow base e k (.slice (some ⟨b, off, none⟩) n cap) m cs) : off = 0 ∧ base ≤ b ∧ ∃ r, w.heap[b]? = some (.cells r e (0, 0)) := by
  rcases h.2 with ⟨h, _⟩ | ⟨g, cap, cs, hv, hg, hh, _⟩
  · cases h
  · injection hv with e1
    injection e1 with e1
    injection e1 with e1 e2
    subst e1 e2
    exact ⟨rfl, hg, _, hh⟩

end Go.Proofs.Ytologegkbcedhaa

/- facts.Changed walked. -/
namespace Go.Proofs.Ytologegkbcedhaa
open Go.RowKit Go.Shelf Go.Sort

theorem diffB_val (l : List Fc) (k : Ky) (b a t : Int) : diffB l k b a t = !(valF l k t b == valF l k t a) := by
  unfold diffB valF
  rcases h1 : atF l k t b with _ | v <;> rcases h2 : atF l k t a with _ | u
  · simp
  · have := atF_nonneg h2
    simp; omega
  · have := atF_nonneg h1
    simp; omega
  · simp
    by_cases h : v = u <;> simp [h]
def rowPtr (n : Nat) : VT := fun v w => ∃ B, v = .pointer (some ⟨B, 0, none⟩) ∧ n ≤ B ∧ w.heap[B]? = some (.cells Try.zeroCells94 94 (0, 0))
theorem rowPtr_stable (n : Nat) : (rowPtr n).Stable := by
  rintro v w w' hb ⟨B, rfl, h1, h2⟩
  exact ⟨B, rfl, h1, (hb.block _ (lt_of_heap h2)).trans h2⟩
set_option maxRecDepth 100000 in
set_option maxHeartbeats 2000000 in
theorem fChanged_any (A : Option Addr) (n c : Nat) (l : List Fc) (before after : Int) (w : World) (hl : fSl w w.heap.size A n c l) (hn : n ≤ 1000000) :
    Calls Try.prog 24 #[.slice A n c, .int .i64 before, .int .i64 after] w (ChPost (changedF l before after) w) := by
  obtain ⟨i0, hi, hz, hs, hbb⟩ := info_parts cInfo
  obtain ⟨j0, hji, hjz, hjs, hjb⟩ := info_parts sInfo
  have hmm := @run_makeMap Try.prog
  obtain ⟨W0, hW0⟩ : ∃ W0, w.alloc (.map #[] 0) = W0 := ⟨_, rfl⟩
  have hkm0 : KM kV W0 w.heap.size ([] : List Ky) := hW0 ▸ KM.made w
  have hb0 : Below w.heap.size w W0 := hW0 ▸ (Below.refl _ w).alloc (Nat.le_refl _) _
  have HW0 := hidp hW0
  have hlen := hl.2.1
  have hcap := hl.2.2.1
  have HN := hidp hl.1
  clear hW0
  go_enter Try.func24, Try.ntmps24
  go_wp2_with fail
  rw [HW0.out]
  go_loopw [9, 20] (fun _ i wr => ∃ k : Nat, k ≤ n ∧ i = .int .i64 k ∧ KM kV wr w.heap.size (addKeys (l.take k)) ∧ Below w.heap.size w wr) (fun _ i _ => n - (intOf i).toNat)
  case atStart => exact ⟨0, by omega, rfl, hkm0, hb0⟩
  case round =>
    obtain ⟨k, hk, rfl, hkm, hbe⟩ := hrel
    have HKM := hidp hkm
    clear hkm hkm0 hb0
    by_cases hlt : k < n
    · obtain ⟨b, off, x, rfl, hb, hzk, c0, c1, c2, c3, c4, c5, c6, c7⟩ := fSl.get (hl.keep fStable (Nat.le_refl _) hbe.block) hlt
      have HZ := hidp hzk
      have hkn : (k : Int) < n := by omega
      have hbl := lt_of_cell c0
      have hkm2 : KM kV (wr.alloc (.cells #[.int .i64 x.key.kind, .int .i64 x.key.subj, .int .i64 x.key.obj, .int .i64 x.val, .int .i64 x.fr, .int .i64 x.to, .int .i64 x.known, .int .i64 x.no] 86)) w.heap.size (addKeys (l.take k)) := HKM.out.keep (Below.heap_alloc _ _ _ HKM.out.lt)
      obtain ⟨w2, hup, hkm3, hg, hsz⟩ := km_update (P := Try.prog) k_ops hkm2 x.key
      have hb2 : Below w.heap.size w w2 := (hbe.alloc hbe.size _).grown hg (by have := hbe.size; simp; omega) (fun g e => by cases e; exact Nat.le_refl _)
      have HKM3 := hidp hkm3
      have HTk : Hid (addKeys (l.take (k + 1)) = addKey (addKeys (l.take k)) x.key) := addKeys_step hzk
      clear hzk hkm2 hkm3 hg hsz
      simp only [kV] at hup
      go_wp2_with fail
      go_roundw
      case rel => exact ⟨k + 1, by omega, by go_num, by rw [HTk.out]; exact HKM3.out, hb2⟩
      case measure => simp [intOf]; omega
    · obtain rfl : n = k := by omega
      have HT : Hid (l.take n = l) := List.take_of_length_le (by rw [← HN.out]; omega)
      have HKM2 : Hid (KM kV wr w.heap.size (addKeys l)) := by have := HKM.out; rw [HT.out] at this; exact this
      clear HKM
      go_wp2_with fail
      refine (keys_any _ _).mono ?_
      rintro e w1 ⟨rfl, hw1⟩
      have hm1 : w1.heap[wr.heap.size]? = some (.cells #[.map (some w.heap.size)] 84 (0, 0)) := by rw [← hw1]; exact World.alloc_heap_new _ _
      have hkm1 : KM kV w1 w.heap.size (addKeys l) := by rw [← hw1]; exact HKM2.out.keep (Below.heap_alloc _ _ _ HKM2.out.lt)
      have hbw1 : Below w.heap.size w w1 := by rw [← hw1]; exact hbe.alloc hbe.size _
      have hlm := lt_of_heap hm1
      have hlk := hkm1.lt
      have hseq := keys1_seq wr.heap.size w.heap.size (addKeys l) w1 (cell_of_heap hm1) hkm1
      have HSq := hidp hseq
      clear hw1 hm1 hkm1 hseq
      go_wp2_with fail
      refine (sortedK_any 64 _ (enters_of Try.func64 (by kernel_rfl) rfl) _ _ w1 HSq.out (fun q h => by rcases h with h | h <;> omega) (fun xs h => by rw [h.length_eq]; have := addKeys_len l; have := HN.out; omega)).mono ?_
      rintro e w2 ⟨v, xs, d, rfl, hx, hp, hsd, ho, hb2⟩
      have hd : d = keysF l := sorted_keys hx hp hsd
      subst hd
      obtain ⟨ks, hkse⟩ : ∃ ks, keysF l = ks := ⟨_, rfl⟩
      have HKS := hidp hkse
      rw [hkse] at ho
      have hmk : ks.length ≤ 1000000 := by rw [← hkse, hp.length_eq, hx.length_eq]; have := addKeys_len l; have := HN.out; omega
      obtain ⟨mk, hmke⟩ : ∃ mk, ks.length = mk := ⟨_, rfl⟩
      rw [hmke] at ho hmk
      obtain ⟨AK, ck, rfl, hks⟩ := own_rows kEnc_len (by decide) ho
      have hB2 : Below w.heap.size w w2 := hbw1.trans (hb2.mono hbw1.size)
      have hlk2 := hks.2.1
      have hck2 := hks.2.2.1
      have HKs := hidp hks
      have HM := hidp hmke
      clear ho hkse hx hp hsd hb2 hlm hlk HSq HKM2 hbe hbw1 hks hmke hmm
      go_wp2_with fail
      go_loopw [6, 32] (fun out i wr => ∃ (k mo : Nat) (raw : List Cr), k ≤ mk ∧ i = .int .i64 k ∧ mo ≤ k ∧ wr.ownsRow w.heap.size 63 4 out mo (raw.flatMap cEnc) ∧ ChApart out raw ∧ (∀ r ∈ raw, 0 < r.2.2.1) ∧ ChOks wr raw (changedTo l before after (ks.take k)) ∧ kSl wr wr.heap.size AK mk ck ks ∧ (0 < mk → ∀ ad, AK = some ad → out.ownBlock ≠ some ad.block) ∧ Below w.heap.size w wr) (fun _ i _ => mk - (intOf i).toNat)
      case atStart => exact ⟨0, 0, [], by omega, rfl, by omega, World.ownsRow_nil _ _ _ _, fun r h => by simp at h, fun r h => by simp at h, ChOks.nil _, HKs.out, fun _ _ _ h => by simp [Value.ownBlock] at h, hB2⟩
      case round =>
        obtain ⟨k, mo, raw, hk, rfl, hmo, hown, hap, hpos, hchs, hksr, hke, hbe⟩ := hrel
        have HO := hidp hown
        have HA := hidp hap
        have HP := hidp hpos
        have HC := hidp hchs
        have HE := hidp hke
        clear hown hap hpos hchs hke hB2 HKs
        by_cases hlt : k < mk
        · obtain ⟨bk, ok, key, rfl, hbk, hzk, d0, d1, d2⟩ := kSl.get hksr hlt
          have HK := hidp hzk
          have hkn : (k : Int) < mk := by omega
          have hbkl := hbk
          clear hzk
          obtain ⟨wk, hwk⟩ : ∃ wk, wr.alloc (.cells #[.int .i64 key.kind, .int .i64 key.subj, .int .i64 key.obj] 45) = wk := ⟨_, rfl⟩
          have hbk1 : Below wr.heap.size wr wk := hwk ▸ (Below.refl _ wr).alloc (Nat.le_refl _) _
          have hkb : wk.heap[wr.heap.size]? = some (.cells #[.int .i64 key.kind, .int .i64 key.subj, .int .i64 key.obj] 45 (0, 0)) := hwk ▸ World.alloc_heap_new _ _
          have hwz : wr.heap.size < wk.heap.size := lt_of_heap hkb
          have hlk1 : ∀ W, Below wk.heap.size wk W → fSl W W.heap.size A n c l := fun W hW => (hl.keep fStable hbe.size hbe.block).keep fStable (Nat.le_trans hbk1.size hW.size) fun b hb => (hW.block b (by omega)).trans (hbk1.block b hb)
          have hkc : ∀ W, Below wk.heap.size wk W → W.cell? ⟨wr.heap.size, 0, none⟩ = some (.int .i64 key.kind) ∧ W.cell? ⟨wr.heap.size, 1, none⟩ = some (.int .i64 key.subj) ∧ W.cell? ⟨wr.heap.size, 2, none⟩ = some (.int .i64 key.obj) := fun W hW => by
            have h := (hW.block _ hwz).trans hkb
            exact ⟨cell_of_heap h, cell_of_heap h, cell_of_heap h⟩
          have HLK := hidp hlk1
          have HKC := hidp hkc
          have HBK := hidp hbk1
          have HKB := hidp hkb
          have HWK := hidp hwk
          clear hlk1 hkc hbk1 hkb hwk
          go_wp2_with fail
          clear d0 d1 d2
          rw [HWK.out]
          go_step3
          go_wp2_with fail
          refine wp_region_tail wk.heap.size 10 (fun j => j == 8 || j == 9) (Nat.le_refl _) (by kernel_rfl) (by kernel_rfl) (by kernel_rfl) ?_
          dsimp only [List.take, List.drop]
          refine relT_det (x := .slice A n c) ?_ ?_
          · intro w9 h9
            refine relAt_wanted (by rfl) ?_
            go_simp
            exact ⟨Below.refl _ _, rfl, by simp⟩
          try dsimp only [List.nil_append, List.cons_append]
          refine relT_det (x := .agg #[.int .i64 key.kind, .int .i64 key.subj, .int .i64 key.obj]) ?_ ?_
          · refine oblT_skip (by kernel_rfl) ?_
            intro w9 h9
            obtain ⟨e0, e1, e2⟩ := HKC.out w9 h9
            refine relAt_wanted (by rfl) ?_
            go_simp
            exact ⟨Below.refl _ _, rfl, by simp⟩
          try dsimp only [List.nil_append, List.cons_append]
          refine relT_det (x := .int .i64 before) ?_ ?_
          · iterate 2 refine oblT_skip (by kernel_rfl) ?_
            intro w9 h9
            refine relAt_wanted (by rfl) ?_
            go_simp
            exact ⟨Below.refl _ _, rfl, by simp⟩
          try dsimp only [List.nil_append, List.cons_append]
          refine relT_det (x := .agg (rowV l key before)) ?_ ?_
          · iterate 3 refine oblT_det (by kernel_rfl) ?_
            intro w9 h9
            refine relAt_wanted (by rfl) ?_
            go_simp
            refine (fvalues_any A n c l key before _ (HLK.out _ h9)).mono ?_
            rintro e w3 ⟨rfl, hb3⟩
            exact ⟨_, rfl, hb3, rfl, by simp⟩
          try dsimp only [List.nil_append, List.cons_append]
          refine relT_det (x := .slice A n c) ?_ ?_
          · iterate 4 refine oblT_skip (by kernel_rfl) ?_
            intro w9 h9
            refine relAt_wanted (by rfl) ?_
            go_simp
            exact ⟨Below.refl _ _, rfl, by simp⟩
          try dsimp only [List.nil_append, List.cons_append]
          refine relT_det (x := .agg #[.int .i64 key.kind, .int .i64 key.subj, .int .i64 key.obj]) ?_ ?_
          · iterate 5 refine oblT_skip (by kernel_rfl) ?_
            intro w9 h9
            obtain ⟨e0, e1, e2⟩ := HKC.out w9 h9
            refine relAt_wanted (by rfl) ?_
            go_simp
            exact ⟨Below.refl _ _, rfl, by simp⟩
          try dsimp only [List.nil_append, List.cons_append]
          refine relT_det (x := .int .i64 after) ?_ ?_
          · iterate 6 refine oblT_skip (by kernel_rfl) ?_
            intro w9 h9
            refine relAt_wanted (by rfl) ?_
            go_simp
            exact ⟨Below.refl _ _, rfl, by simp⟩
          try dsimp only [List.nil_append, List.cons_append]
          refine relT_det (x := .agg (rowV l key after)) ?_ ?_
          · iterate 4 refine oblT_skip (by kernel_rfl) ?_
            iterate 3 refine oblT_det (by kernel_rfl) ?_
            intro w9 h9
            refine relAt_wanted (by rfl) ?_
            go_simp
            refine (fvalues_any A n c l key after _ (HLK.out _ h9)).mono ?_
            rintro e w3 ⟨rfl, hb3⟩
            exact ⟨_, rfl, hb3, rfl, by simp⟩
          try dsimp only [List.nil_append, List.cons_append]
          refine relT_any (rowPtr wk.heap.size) (rowPtr_stable _) ?_ ?_
          · iterate 8 refine oblT_skip (by kernel_rfl) ?_
            intro w9 h9
            refine relAt_wanted (by rfl) ?_
            go_simp
            exact ⟨(Below.refl _ _).alloc (Nat.le_refl _) _, ⟨_, rfl, h9.size, World.alloc_heap_new _ _⟩, fun _ => ⟨_, rfl, Nat.le_refl _, by simp⟩⟩
          try dsimp only [List.nil_append, List.cons_append]
          refine relT_any (rowPtr wk.heap.size) (rowPtr_stable _) ?_ ?_
          · iterate 9 refine oblT_skip (by kernel_rfl) ?_
            intro w9 h9
            refine relAt_wanted (by rfl) ?_
            go_simp
            exact ⟨(Below.refl _ _).alloc (Nat.le_refl _) _, ⟨_, rfl, h9.size, World.alloc_heap_new _ _⟩, fun _ => ⟨_, rfl, Nat.le_refl _, by simp⟩⟩
          try dsimp only [List.nil_append, List.cons_append]
          iterate 8 refine finT_det (by rfl) ?_
          refine finT_fresh (by rfl) fun v12 => ?_
          refine finT_fresh (by rfl) fun v13 => ?_
          rintro w5 ⟨⟨hb5, ⟨B12, rfl, g12, h12⟩, -⟩, ⟨B13, rfl, g13, h13⟩, hne⟩
          have hne' : B13 ≠ B12 := by rintro rfl; simp at hne
          go_frame
          obtain ⟨R1, hR1⟩ : ∃ R, rowV l key before = R := ⟨_, rfl⟩
          obtain ⟨R2, hR2⟩ : ∃ R, rowV l key after = R := ⟨_, rfl⟩
          have hz1 := rowV_size l key before
          have hz2 := rowV_size l key after
          have ho1 := rowV_one l key before
          have ho2 := rowV_one l key after
          have ha1 := fun j hj => rowV_at l key before (j := j) hj
          have ha2 := fun j hj => rowV_at l key after (j := j) hj
          rw [hR1] at hz1 ho1 ha1
          rw [hR2] at hz2 ho2 ha2
          rw [hR1, hR2]
          have p1 : putAt Try.zeroCells94 0 R1.toList = R1 := by rw [putAt_all (by rw [zeros_row.1, Array.length_toList, hz1])]
          have p2 : putAt Try.zeroCells94 0 R2.toList = R2 := by rw [putAt_all (by rw [zeros_row.1, Array.length_toList, hz2])]
          have h13' : (w5.setRow B12 R1).heap[B13]? = some (.cells Try.zeroCells94 94 (0, 0)) := (setRow_other w5 B12 B13 R1 hne').trans h13
          refine wpList_store_at (vs := R1.toList) 94 (.tmp 12) (.tmp 39) rfl rfl rfl rfl h12 (by rw [Array.length_toList, hz1]; exact rowInfo) (by rw [Array.length_toList, hz1, zeros_row.1]; omega) ho1 ?_
          rw [p1]
          refine wpList_store_at (vs := R2.toList) 94 (.tmp 13) (.tmp 43) rfl rfl rfl rfl h13' (by rw [Array.length_toList, hz2]; exact rowInfo) (by rw [Array.length_toList, hz2, zeros_row.1]; omega) ho2 ?_
          rw [p2]
          have k12 : ((w5.setRow B12 R1).setRow B13 R2).heap[B12]? = some (.cells R1 94 (0, 0)) := (setRow_other _ B13 B12 R2 (by omega)).trans (setRow_heap _ _ _ _ _ _ h12)
          have k13 : ((w5.setRow B12 R1).setRow B13 R2).heap[B13]? = some (.cells R2 94 (0, 0)) := setRow_heap _ _ _ _ _ _ h13'
          have hb6 : Below wk.heap.size wk ((w5.setRow B12 R1).setRow B13 R2) := below_setRow (below_setRow hb5 g12 _) g13 _
          generalize ((w5.setRow B12 R1).setRow B13 R2) = wo at k12 k13 hb6 ⊢
          have hbo : Below w.heap.size w wo := hbe.trans ((HBK.out.trans (hb6.mono HBK.out.size)).mono hbe.size)
          have hbro : Below wr.heap.size wr wo := HBK.out.trans (hb6.mono HBK.out.size)
          have HK12 := hidp k12
          have HK13 := hidp k13
          have HA1 := hidp ha1
          have HA2 := hidp ha2
          have HB6 := hidp hb6
          have HBO := hidp hbo
          have HBRO := hidp hbro
          clear hR1 hR2 hz1 hz2 ho1 ho2 ha1 ha2 p1 p2 h13' h12 h13 k12 k13 hb6 hbo hbro hb5 hne hne' g12 g13
          go_wp2_with fail
          go_step3
          go_wp2_with fail
          go_loopw [14, 44] (fun tm t w2 => ∃ (z mt : Nat), z ≤ 1024 ∧ t = .int .i64 z ∧ mt = (spansTo l key before after z).length ∧ w2.ownsRow wo.heap.size 60 2 tm mt ((spansTo l key before after z).flatMap pEnc) ∧ Below wo.heap.size wo w2) (fun _ t _ => 1024 - (intOf t).toNat)
          case atStart => exact ⟨0, 0, by omega, rfl, rfl, World.ownsRow_nil _ _ _ _, Below.refl _ _⟩
          case round =>
            obtain ⟨z, mt, hzz, rfl, hmt, hown2, hb2⟩ := hrel
            have HT := hidp hmt
            have HO3 := hidp hown2
            have hmz : mt ≤ z := by rw [hmt]; exact spansTo_len _ _ _ _ _
            clear hmt hown2
            by_cases hlz : z < 1024
            · have hzl : (z : Int) < 1024 := by omega
              have hc1 : ∀ W, Below wo.heap.size wo W → W.cell? ⟨B12, z, none⟩ = some (.int .i64 (valF l key z before)) ∧ W.cell? ⟨B13, z, none⟩ = some (.int .i64 (valF l key z after)) := fun W hW =>
                ⟨(cell_of_heap ((hW.block _ (lt_of_heap HK12.out)).trans HK12.out)).trans (HA1.out z hlz), (cell_of_heap ((hW.block _ (lt_of_heap HK13.out)).trans HK13.out)).trans (HA2.out z hlz)⟩
              have HC1 := hidp hc1
              obtain ⟨V1, hV1⟩ : ∃ V, valF l key z before = V := ⟨_, rfl⟩
              obtain ⟨V2, hV2⟩ : ∃ V, valF l key z after = V := ⟨_, rfl⟩
              have HD : Hid (diffB l key before after z = !(V1 == V2)) := by show _ = _; rw [diffB_val, hV1, hV2]
              obtain ⟨eq, heq⟩ : ∃ b, (V1 == V2) = b := ⟨_, rfl⟩
              rw [hV1, hV2] at HC1
              have HE2 := hidp heq
              clear hV1 hV2 hc1
              go_wp2_with fail
              refine wp_region_below wr.heap.size (by kernel_rfl) (by kernel_rfl) ?_
              repeat
                refine q_step (by rfl) ?_
                apply Exists.intro
                refine ⟨fun w9 h9 => ?_, ?_⟩
                · obtain ⟨e1, e2⟩ := HC1.out w9 (hb2.trans (h9.mono hb2.size))
                  go_simp
                  first | done | rfl
                go_simp
              refine wpQuiet_nil ?_
              intro w3 hb3
              have hb23 := hb2.trans (hb3.mono hb2.size)
              have hown3 := own_stable _ _ _ _ _ _ _ _ hb3 HO3.out
              have HO4 := hidp hown3
              have hws := hb23.size
              clear hown3 hb3 heq
              cases eq
              · have HS : Hid (spansTo l key before after (z + 1) = joinT (spansTo l key before after z) z) := by show _ = _; rw [spansTo_step, HD.out, HE2.out]; rfl
                obtain ⟨S, hS⟩ : ∃ S, spansTo l key before after z = S := ⟨_, rfl⟩
                rw [hS] at HT HO4 HS
                obtain ⟨At, ct, rfl, rt⟩ := own_rows pEnc_len (by decide) HO4.out
                have hcapt := rt.2.2.1
                have hlent := rt.2.1
                obtain ⟨v', w5, hrun, hown', hg, hat⟩ := run_append_one (P := Try.prog) (ty := 61) (l := S) (enc := pEnc) (w := w3) (base := wo.heap.size) Try.underlying61 hji hjz hjs hjb rfl pEnc_len (by decide) pEnc_one HO4.out ((z : Int), (z : Int) + 1) (by omega) (by omega) hws
                have HO' := hidp hown'
                have HR0 := hidp hrun
                have hb5 : Below wo.heap.size wo w5 := (hb23.alloc hws _).grown hg (by simp; omega) (fun g e => (HO4.out.lt g e).1)
                have HB5 := hidp hb5
                clear hown' hg hat hrun hb5
                rcases Nat.eq_zero_or_pos mt with h0 | h0
                · subst h0
                  have HS0 : Hid (joinT S z = S ++ [((z : Int), (z : Int) + 1)]) := by
                    show _ = _; rw [List.eq_nil_of_length_eq_zero HT.out.symm]; rfl
                  go_wp2_with (at_builtin; refine wpList_append_known rfl (.tmp 77) (.tmp 82) 61 rfl rfl rfl HR0.out ?_)
                  go_roundw
                  case rel => exact ⟨z + 1, 0 + 1, by omega, by go_num, by rw [HS.out, HS0.out, List.length_append, ← HT.out]; rfl, by rw [HS.out, HS0.out]; exact HO'.out, HB5.out⟩
                  case measure => simp [intOf]; omega
                · obtain ⟨gt, offt, x, rfl, hgt, hxt, x0, x1⟩ := sSl.get rt (k := mt - 1) (by omega)
                  have hpd : decide (0 < mt) = true := by simpa using h0
                  have hpos : (1 : Int) ≤ mt := by omega
                  have hin1 : (mt : Int) - 1 < mt := by omega
                  have hwrap : IntKind.i64.wrap ((mt : Int) - 1) = (mt : Int) - 1 := IntWalk.i64_in _ (by omega)
                  have hto : ((mt : Int) - 1).toNat = mt - 1 := by omega
                  by_cases hx : x.2 = z
                  · have HS1 : Hid (joinT S z = S.set (mt - 1) (x.1, (z : Int) + 1)) := joinT_up (by rw [← HT.out]; omega) hxt hx
                    have HX := hidp hxt
                    obtain ⟨h00, hgw, rr, hrr⟩ := own_at HO4.out
                    have hfz := frozen_of_heap (o := offt + (mt - 1) * 2 + 1) hrr
                    have H00 := hidp h00
                    clear hxt hrr h00
                    go_wp2_with fail
                    go_roundw
                    case rel =>
                      obtain rfl := H00.out
                      rw [Nat.zero_add]
                      have hset := own_set pEnc_len HO4.out (by decide) HX.out (j := 1) (x' := (x.1, (z : Int) + 1)) (u := .int .i64 ((z : Int) + 1)) (by decide) rfl
                      refine ⟨z + 1, mt, by omega, by go_num, by rw [HS.out, HS1.out, List.length_set]; exact HT.out, by rw [HS.out, HS1.out]; exact hset, below_setCell hb23 hgw _⟩
                    case measure => simp [intOf]; omega
                  · have HS1 : Hid (joinT S z = S ++ [((z : Int), (z : Int) + 1)]) := joinT_new (by rw [← HT.out]; omega) hxt hx
                    clear hxt
                    go_wp2_with (at_builtin; refine wpList_append_known rfl (.tmp 77) (.tmp 82) 61 rfl rfl rfl HR0.out ?_)
                    go_roundw
                    case rel => exact ⟨z + 1, mt + 1, by omega, by go_num, by rw [HS.out, HS1.out, List.length_append, ← HT.out]; rfl, by rw [HS.out, HS1.out]; exact HO'.out, HB5.out⟩
                    case measure => simp [intOf]; omega
              · have HS : Hid (spansTo l key before after (z + 1) = spansTo l key before after z) := by show _ = _; rw [spansTo_step, HD.out, HE2.out]; rfl
                go_wp2_with fail
                go_roundw
                case rel => exact ⟨z + 1, mt, by omega, by go_num, by rw [HS.out]; exact HT.out, by rw [HS.out]; exact HO4.out, hb23⟩
                case measure => simp [intOf]; omega
            · obtain rfl : z = 1024 := by omega
              obtain ⟨S, hS⟩ : ∃ S, spansTo l key before after 1024 = S := ⟨_, rfl⟩
              have HS := hidp (show spansF l key before after = S from hS)
              rw [hS] at HT HO3
              clear hS
              obtain ⟨At, ct, rfl, rt⟩ := own_rows pEnc_len (by decide) HO3.out
              have hcapt := rt.2.2.1
              have hlent := rt.2.1
              have hbw := HBO.out.trans (hb2.mono HBO.out.size)
              have hob := HBRO.out.trans (hb2.mono HBRO.out.size)
              have hosz := HBRO.out.size
              have hownw := own_stable _ _ _ _ _ _ _ _ hob HO.out
              have HOw := hidp hownw
              have HCw := hidp (HC.out.below hob)
              have hksw := hksr.keep kStable hob.size hob.block
              clear hownw
              rcases Nat.eq_zero_or_pos mt with h0 | h0
              · subst h0
                have HTk : Hid (changedTo l before after (ks.take (k + 1)) = changedTo l before after (ks.take k)) := by
                  show _ = _; rw [take_snoc HK.out, changedTo_snoc, changeOf_no (by rw [HS.out]; exact List.eq_nil_of_length_eq_zero HT.out.symm), List.append_nil]
                go_wp2_with fail
                go_roundw
                case rel => exact ⟨k + 1, mo, raw, by omega, by go_num, by omega, HOw.out, HA.out, HP.out, by rw [HTk.out]; exact HCw.out, hksw, HE.out, hbw⟩
                case measure => simp [intOf]; omega
              · have HTk : Hid (changedTo l before after (ks.take (k + 1)) = changedTo l before after (ks.take k) ++ [(key, S)]) := by
                  show _ = _; rw [take_snoc HK.out, changedTo_snoc, changeOf_yes (by rw [HS.out]; intro h; have := HT.out; rw [h] at this; simp at this; omega), HS.out]
                obtain ⟨gt, offt, x, rfl, hgt, _⟩ := sSl.get rt (k := 0) h0
                obtain ⟨rfl, hgw, _⟩ := own_at HO3.out
                obtain ⟨e0, e1, e2⟩ := HKC.out wr (HB6.out.trans (hb2.mono HB6.out.size))
                have hws := hob.size
                obtain ⟨v', w5, hrun, hown', hg, hat⟩ := run_append_one (P := Try.prog) (ty := 41) (l := raw) (enc := cEnc) (w := wr) (base := w.heap.size) Try.underlying41 hi hz hs hbb rfl cEnc_len (by decide) cEnc_one HOw.out (key, some ⟨gt, 0, none⟩, mt, ct) (by omega) (by omega) hbw.size
                have hlu := fun g e => (HO.out.lt g e).2
                have hch5 : ChOks w5 (raw ++ [(key, some ⟨gt, 0, none⟩, mt, ct)]) (changedTo l before after (ks.take k) ++ [(key, S)]) := by
                  refine ((HCw.out.below ((Below.refl _ wr).alloc (Nat.le_refl _) _)).grown hg fun r hr ad e => HA.out r hr ad e).snoc ⟨rfl, ?_⟩
                  refine rows_keep_blk (rt.keep sStable (by simp) (fun b hb => Below.heap_alloc _ _ _ hb)) hg.size fun ad e hlt => hg.block _ hlt fun e' => ?_
                  cases e
                  have := hlu _ e'.symm
                  simp at this
                  omega
                have hap5 : ChApart v' (raw ++ [(key, some ⟨gt, 0, none⟩, mt, ct)]) := by
                  intro r hr ad e
                  rcases List.mem_append.1 hr with hr | hr
                  · rcases hat with h | h
                    · rw [h]; exact HA.out r hr ad e
                    · rw [h]
                      intro e'
                      injection e' with e'
                      have := HC.out.lt hr e (HP.out r hr)
                      omega
                  · simp at hr
                    subst hr
                    cases e
                    rcases hat with h | h
                    · rw [h]; intro e'; have := hlu _ e'; simp at this; omega
                    · rw [h]; intro e'; injection e' with e'; simp at e'; omega
                have hb5 : Below w.heap.size w w5 := (hbw.alloc hbw.size _).grown hg (by have := hbw.size; simp; omega) (fun g e => (HOw.out.lt g e).1)
                have hks5 : kSl w5 w5.heap.size (some ⟨bk, ok, none⟩) mk ck ks := by
                  refine rows_keep_blk (hksw.keep kStable (by simp) (fun b hb => Below.heap_alloc _ _ _ hb)) hg.size fun ad e hlt => hg.block _ hlt fun e' => ?_
                  exact HE.out (by omega) ad e e'.symm
                have hke5 : 0 < mk → ∀ ad, some (⟨bk, ok, none⟩ : Addr) = some ad → v'.ownBlock ≠ some ad.block := by
                  intro h0 ad e
                  rcases hat with h | h
                  · rw [h]; exact HE.out h0 ad e
                  · rw [h]; intro e'; injection e' with e'; cases e; simp at e'; omega
                have HE5 := hidp hke5
                have HO' := hidp hown'
                have HR0 := hidp hrun
                have HCH := hidp hch5
                have HAP := hidp hap5
                have HB5 := hidp hb5
                have HK5 := hidp hks5
                clear hown' hrun hch5 hap5 hb5 hks5 hke5 hg hat
                go_wp2_with (at_builtin; refine wpList_append_known rfl (.tmp 88) (.tmp 92) 41 rfl rfl rfl HR0.out ?_)
                go_roundw
                case rel => 
                  refine ⟨k + 1, mo + 1, raw ++ [(key, some ⟨gt, 0, none⟩, mt, ct)], by omega, by go_num, by omega, HO'.out, HAP.out, ?_, by rw [HTk.out]; exact HCH.out, HK5.out, HE5.out, HB5.out⟩
                  intro r hr
                  rcases List.mem_append.1 hr with hr | hr
                  · exact HP.out r hr
                  · simp at hr; subst hr; exact h0
                case measure => simp [intOf]; omega
        · obtain rfl : k = mk := by omega
          have HT : Hid (ks.take k = ks) := List.take_of_length_le (by rw [HM.out]; omega)
          obtain ⟨A5, c5, rfl, r5⟩ := own_rows cEnc_len (by decide) HO.out
          go_wp2_with fail
          go_ret
          refine ⟨A5, mo, c5, raw, rfl, r5, ?_, hbe⟩
          have := HC.out
          rw [HT.out, ← HKS.out] at this
          exact this
end Go.Proofs.Ytologegkbcedhaa

/- facts.Alike walked, and the reference's. -/
namespace Go.Proofs.Ytologegkbcedhaa
open Go.RowKit Go.Shelf

theorem all_stepF {α : Type} {l : List α} {k : Nat} {x : α} {p : α → Bool} (h : (l.take k).all p = true) (hx : l[k]? = some x) (hp : p x = true) : (l.take (k + 1)).all p = true := by
  rw [take_snoc hx, List.all_append, h]; simp [hp]
theorem all_no {α : Type} {l : List α} {k : Nat} {x : α} {p : α → Bool} (hx : l[k]? = some x) (hp : p x = false) : l.all p = false := by
  rw [List.all_eq_false]
  exact ⟨x, List.mem_of_getElem? hx, by rw [hp]; simp⟩
def rdAlike (l : List Fc) (before after : Int) (r : Rd) : Bool := decide (pointsF l r.1 r.2.1 r.2.2 before = pointsF l r.1 r.2.1 r.2.2 after)
theorem rdAlike_eq (l : List Fc) (before after : Int) (x : Rd) : decide (pointsF l x.1 x.2.1 x.2.2 before = pointsF l x.1 x.2.1 x.2.2 after) = rdAlike l before after x := rfl
theorem alikeF_eq (l : List Fc) (reads : List Rd) (before after : Int) : alikeF l reads before after = reads.all (rdAlike l before after) := rfl

set_option maxRecDepth 100000 in
set_option maxHeartbeats 2000000 in
theorem fAlike_any (A B : Option Addr) (n c m cb : Nat) (l : List Fc) (reads : List Rd) (before after : Int) (w : World) (hl : fSl w w.heap.size A n c l) (hr : RdSl w w.heap.size B m cb reads) :
    Calls Try.prog 25 #[.slice A n c, .slice B m cb, .int .i64 before, .int .i64 after] w fun e w' => e = .returned (.bool (alikeF l reads before after)) ∧ Below w.heap.size w w' := by
  have HN := hidp hr.1
  have hcap := hr.2.2.1
  have hlen := hr.2.1
  obtain ⟨z, hz⟩ : ∃ z, alikeF l reads before after = z := ⟨_, rfl⟩
  have HR := hidp hz
  rw [hz]
  clear hz
  go_enter Try.func25, Try.ntmps25
  go_wp2_with fail
  go_loopw [10, 13] (fun _ i wr => ∃ k : Nat, k ≤ m ∧ i = .int .i64 k ∧ (reads.take k).all (rdAlike l before after) = true ∧ Below w.heap.size w wr) (fun _ i _ => m - (intOf i).toNat)
  case atStart => exact ⟨0, by omega, rfl, rfl, Below.refl _ _⟩
  case round =>
    obtain ⟨k, hk, rfl, hno, hbe⟩ := hrel
    have HA := hidp hno
    clear hno
    by_cases hlt : k < m
    · obtain ⟨b, off, x, rfl, hb, hzx, c0, c1, c2, c3, c4⟩ := RdSl.get (hr.below rdStable hbe) hlt
      have HX := hidp hzx
      clear hzx
      have hwb := lt_of_cell c0
      have hBn : Below w.heap.size w (wr.alloc (.cells #[.int .i64 x.1.kind, .int .i64 x.1.subj, .int .i64 x.1.obj, .int .i64 x.2.1, .int .i64 x.2.2] 47)) := hbe.alloc hbe.size _
      have hnew := World.alloc_heap_new wr (.cells #[.int .i64 x.1.kind, .int .i64 x.1.subj, .int .i64 x.1.obj, .int .i64 x.2.1, .int .i64 x.2.2] 47)
      have HNew := hidp hnew
      clear hnew
      obtain ⟨zx, hzx⟩ : ∃ z, rdAlike l before after x = z := ⟨_, rfl⟩
      have HV := hidp hzx
      clear hzx
      go_wp2_with fail
      obtain ⟨W1, hW1⟩ : ∃ W1, wr.alloc (.cells #[.int .i64 x.1.kind, .int .i64 x.1.subj, .int .i64 x.1.obj, .int .i64 x.2.1, .int .i64 x.2.2] 47) = W1 := ⟨_, rfl⟩
      have hBn1 : Below w.heap.size w W1 := hW1 ▸ hBn
      have hn1 : W1.heap[wr.heap.size]? = some (.cells #[.int .i64 x.1.kind, .int .i64 x.1.subj, .int .i64 x.1.obj, .int .i64 x.2.1, .int .i64 x.2.2] 47 (0, 0)) := hW1 ▸ HNew.out
      rw [hW1]
      clear hW1 hBn c0 c1 c2 c3 c4 HNew
      have l1 := lt_of_heap hn1
      have HN1 := hidp hn1
      clear hn1
      have hcell : ∀ w9, Below W1.heap.size W1 w9 → w9.cell? ⟨wr.heap.size, 0, none⟩ = some (.int .i64 x.1.kind) ∧ w9.cell? ⟨wr.heap.size, 1, none⟩ = some (.int .i64 x.1.subj) ∧ w9.cell? ⟨wr.heap.size, 2, none⟩ = some (.int .i64 x.1.obj) ∧ w9.cell? ⟨wr.heap.size, 3, none⟩ = some (.int .i64 x.2.1) ∧ w9.cell? ⟨wr.heap.size, 4, none⟩ = some (.int .i64 x.2.2) := by
        intro w9 h9
        have i1 := (h9.block _ l1).trans HN1.out
        exact ⟨cell_of_heap i1, cell_of_heap i1, cell_of_heap i1, cell_of_heap i1, cell_of_heap i1⟩
      have hl1 := hl.keep fStable hBn1.size hBn1.block
      have HC := hidp hcell
      clear hcell
      refine wp_region_rel W1.heap.size (fun _ => false) (fun _ => true) (Nat.le_refl _) (by kernel_rfl) (by kernel_rfl) (by kernel_rfl) ?_
      try dsimp only [List.nil_append, List.cons_append]
      apply rel_det
      · skip
        intro w9 hw9
        refine relAt_wanted (by rfl) ?_
        obtain ⟨c1, c2, c3, c4, c5⟩ := HC.out w9 hw9
        have hl9 := Nat.lt_of_lt_of_le l1 hw9.size
        go_simp
        exact ⟨Below.refl _ _, rfl⟩
      try dsimp only [List.nil_append, List.cons_append]
      apply rel_det
      · skip
        refine obl_skip (by kernel_rfl) ?_
        intro w9 hw9
        refine relAt_wanted (by rfl) ?_
        obtain ⟨c1, c2, c3, c4, c5⟩ := HC.out w9 hw9
        have hl9 := Nat.lt_of_lt_of_le l1 hw9.size
        go_simp
        exact ⟨Below.refl _ _, rfl⟩
      try dsimp only [List.nil_append, List.cons_append]
      apply rel_det
      · skip
        refine obl_skip (by kernel_rfl) ?_
        refine obl_det (by kernel_rfl) ?_
        intro w9 hw9
        refine relAt_wanted (by rfl) ?_
        obtain ⟨c1, c2, c3, c4, c5⟩ := HC.out w9 hw9
        have hl9 := Nat.lt_of_lt_of_le l1 hw9.size
        go_simp
        exact ⟨Below.refl _ _, rfl⟩
      try dsimp only [List.nil_append, List.cons_append]
      apply rel_det
      · skip
        iterate 3 refine obl_skip (by kernel_rfl) ?_
        intro w9 hw9
        refine relAt_wanted (by rfl) ?_
        obtain ⟨c1, c2, c3, c4, c5⟩ := HC.out w9 hw9
        have hl9 := Nat.lt_of_lt_of_le l1 hw9.size
        go_simp
        exact ⟨Below.refl _ _, rfl⟩
      try dsimp only [List.nil_append, List.cons_append]
      apply rel_det
      · skip
        iterate 3 refine obl_skip (by kernel_rfl) ?_
        refine obl_det (by kernel_rfl) ?_
        intro w9 hw9
        refine relAt_wanted (by rfl) ?_
        obtain ⟨c1, c2, c3, c4, c5⟩ := HC.out w9 hw9
        have hl9 := Nat.lt_of_lt_of_le l1 hw9.size
        go_simp
        exact ⟨Below.refl _ _, rfl⟩
      try dsimp only [List.nil_append, List.cons_append]
      apply rel_det
      · skip
        iterate 5 refine obl_skip (by kernel_rfl) ?_
        intro w9 hw9
        refine relAt_wanted (by rfl) ?_
        obtain ⟨c1, c2, c3, c4, c5⟩ := HC.out w9 hw9
        have hl9 := Nat.lt_of_lt_of_le l1 hw9.size
        go_simp
        exact ⟨Below.refl _ _, rfl⟩
      try dsimp only [List.nil_append, List.cons_append]
      apply rel_det
      · skip
        iterate 5 refine obl_skip (by kernel_rfl) ?_
        refine obl_det (by kernel_rfl) ?_
        intro w9 hw9
        refine relAt_wanted (by rfl) ?_
        obtain ⟨c1, c2, c3, c4, c5⟩ := HC.out w9 hw9
        have hl9 := Nat.lt_of_lt_of_le l1 hw9.size
        go_simp
        exact ⟨Below.refl _ _, rfl⟩
      try dsimp only [List.nil_append, List.cons_append]
      apply rel_det
      · skip
        iterate 7 refine obl_skip (by kernel_rfl) ?_
        intro w9 hw9
        refine relAt_wanted (by rfl) ?_
        obtain ⟨c1, c2, c3, c4, c5⟩ := HC.out w9 hw9
        have hl9 := Nat.lt_of_lt_of_le l1 hw9.size
        go_simp
        exact ⟨Below.refl _ _, rfl⟩
      try dsimp only [List.nil_append, List.cons_append]
      refine rel_any (fun v w => ∃ A c, v = .slice A (pointsF l x.1 x.2.1 x.2.2 before).length c ∧ pSl w w.heap.size A (pointsF l x.1 x.2.1 x.2.2 before).length c (pointsF l x.1 x.2.1 x.2.2 before)) rfl (rows_stable pStable _ _) ?_ ?_
      · skip
        refine obl_det (by kernel_rfl) ?_
        refine obl_skip (by kernel_rfl) ?_
        refine obl_det (by kernel_rfl) ?_
        refine obl_skip (by kernel_rfl) ?_
        refine obl_det (by kernel_rfl) ?_
        refine obl_skip (by kernel_rfl) ?_
        refine obl_det (by kernel_rfl) ?_
        refine obl_det (by kernel_rfl) ?_
        intro w9 hw9
        refine relAt_wanted (by rfl) ?_
        go_simp
        refine (fPoints_any _ n c l x.1 x.2.1 x.2.2 before w9 (hl1.keep fStable hw9.size hw9.block)).mono ?_
        rintro e w2 ⟨A5, n5, c5, rfl, r5, hb5⟩
        obtain rfl := r5.1
        exact ⟨_, rfl, hb5, A5, c5, rfl, r5⟩
      try dsimp only [List.nil_append, List.cons_append]
      apply rel_det
      · skip
        iterate 9 refine obl_skip (by kernel_rfl) ?_
        intro w9 hw9
        refine relAt_wanted (by rfl) ?_
        obtain ⟨c1, c2, c3, c4, c5⟩ := HC.out w9 hw9
        have hl9 := Nat.lt_of_lt_of_le l1 hw9.size
        go_simp
        exact ⟨Below.refl _ _, rfl⟩
      try dsimp only [List.nil_append, List.cons_append]
      apply rel_det
      · skip
        iterate 10 refine obl_skip (by kernel_rfl) ?_
        intro w9 hw9
        refine relAt_wanted (by rfl) ?_
        obtain ⟨c1, c2, c3, c4, c5⟩ := HC.out w9 hw9
        have hl9 := Nat.lt_of_lt_of_le l1 hw9.size
        go_simp
        exact ⟨Below.refl _ _, rfl⟩
      try dsimp only [List.nil_append, List.cons_append]
      apply rel_det
      · skip
        iterate 10 refine obl_skip (by kernel_rfl) ?_
        refine obl_det (by kernel_rfl) ?_
        intro w9 hw9
        refine relAt_wanted (by rfl) ?_
        obtain ⟨c1, c2, c3, c4, c5⟩ := HC.out w9 hw9
        have hl9 := Nat.lt_of_lt_of_le l1 hw9.size
        go_simp
        exact ⟨Below.refl _ _, rfl⟩
      try dsimp only [List.nil_append, List.cons_append]
      apply rel_det
      · skip
        iterate 12 refine obl_skip (by kernel_rfl) ?_
        intro w9 hw9
        refine relAt_wanted (by rfl) ?_
        obtain ⟨c1, c2, c3, c4, c5⟩ := HC.out w9 hw9
        have hl9 := Nat.lt_of_lt_of_le l1 hw9.size
        go_simp
        exact ⟨Below.refl _ _, rfl⟩
      try dsimp only [List.nil_append, List.cons_append]
      apply rel_det
      · skip
        iterate 12 refine obl_skip (by kernel_rfl) ?_
        refine obl_det (by kernel_rfl) ?_
        intro w9 hw9
        refine relAt_wanted (by rfl) ?_
        obtain ⟨c1, c2, c3, c4, c5⟩ := HC.out w9 hw9
        have hl9 := Nat.lt_of_lt_of_le l1 hw9.size
        go_simp
        exact ⟨Below.refl _ _, rfl⟩
      try dsimp only [List.nil_append, List.cons_append]
      apply rel_det
      · skip
        iterate 14 refine obl_skip (by kernel_rfl) ?_
        intro w9 hw9
        refine relAt_wanted (by rfl) ?_
        obtain ⟨c1, c2, c3, c4, c5⟩ := HC.out w9 hw9
        have hl9 := Nat.lt_of_lt_of_le l1 hw9.size
        go_simp
        exact ⟨Below.refl _ _, rfl⟩
      try dsimp only [List.nil_append, List.cons_append]
      apply rel_det
      · skip
        iterate 14 refine obl_skip (by kernel_rfl) ?_
        refine obl_det (by kernel_rfl) ?_
        intro w9 hw9
        refine relAt_wanted (by rfl) ?_
        obtain ⟨c1, c2, c3, c4, c5⟩ := HC.out w9 hw9
        have hl9 := Nat.lt_of_lt_of_le l1 hw9.size
        go_simp
        exact ⟨Below.refl _ _, rfl⟩
      try dsimp only [List.nil_append, List.cons_append]
      apply rel_det
      · skip
        iterate 16 refine obl_skip (by kernel_rfl) ?_
        intro w9 hw9
        refine relAt_wanted (by rfl) ?_
        obtain ⟨c1, c2, c3, c4, c5⟩ := HC.out w9 hw9
        have hl9 := Nat.lt_of_lt_of_le l1 hw9.size
        go_simp
        exact ⟨Below.refl _ _, rfl⟩
      try dsimp only [List.nil_append, List.cons_append]
      refine rel_any (fun v w => ∃ A c, v = .slice A (pointsF l x.1 x.2.1 x.2.2 after).length c ∧ pSl w w.heap.size A (pointsF l x.1 x.2.1 x.2.2 after).length c (pointsF l x.1 x.2.1 x.2.2 after)) rfl (rows_stable pStable _ _) ?_ ?_
      · skip
        iterate 9 refine obl_skip (by kernel_rfl) ?_
        refine obl_det (by kernel_rfl) ?_
        refine obl_skip (by kernel_rfl) ?_
        refine obl_det (by kernel_rfl) ?_
        refine obl_skip (by kernel_rfl) ?_
        refine obl_det (by kernel_rfl) ?_
        refine obl_skip (by kernel_rfl) ?_
        refine obl_det (by kernel_rfl) ?_
        refine obl_det (by kernel_rfl) ?_
        intro w9 hw9
        refine relAt_wanted (by rfl) ?_
        go_simp
        refine (fPoints_any _ n c l x.1 x.2.1 x.2.2 after w9 (hl1.keep fStable hw9.size hw9.block)).mono ?_
        rintro e w2 ⟨A5, n5, c5, rfl, r5, hb5⟩
        obtain rfl := r5.1
        exact ⟨_, rfl, hb5, A5, c5, rfl, r5⟩
      try dsimp only [List.nil_append, List.cons_append]
      refine rel_det (x := .bool zx) ?_ ?_
      · skip
        iterate 8 refine obl_skip (by kernel_rfl) ?_
        refine obl_var (by kernel_rfl) fun _ => ?_
        iterate 8 refine obl_skip (by kernel_rfl) ?_
        refine obl_var (by kernel_rfl) fun _ => ?_
        rintro w9 ⟨⟨hw9, A5, c5, rfl, r5⟩, A6, c6, rfl, r6⟩
        refine relAt_wanted (by rfl) ?_
        go_simp
        refine (pEqual_any _ _ _ _ _ _ _ _ w9 r5 r6).mono ?_
        rintro e w2 ⟨rfl, hb5⟩
        refine ⟨_, rfl, hb5, ?_⟩
        show Value.bool _ = Value.bool _
        rw [rdAlike_eq, HV.out]
      try dsimp only [List.nil_append, List.cons_append]
      apply rel_det
      · skip
        iterate 18 refine obl_skip (by kernel_rfl) ?_
        refine obl_det (by kernel_rfl) ?_
        intro w9 hw9
        refine relAt_wanted (by rfl) ?_
        go_simp
        exact ⟨Below.refl _ _, rfl⟩
      try dsimp only [List.nil_append, List.cons_append]
      iterate 19 refine fin_dead fun _ => ?_
      refine fin_det rfl ?_
      rintro w4 hb4
      go_frame
      have hbz := hBn1.trans (hb4.mono hBn1.size)
      clear HC hl1
      cases zx
      · go_wp2_with fail
        go_ret
        exact ⟨ret_bool (by rw [← HR.out, alikeF_eq, all_no HX.out HV.out]), hbz⟩
      · go_wp2_with fail
        go_roundw
        case rel => exact ⟨k + 1, by omega, by go_num, all_stepF HA.out HX.out HV.out, hbz⟩
        case measure => simp [intOf]; omega
    · obtain rfl : k = m := by omega
      have HT : Hid (reads.take k = reads) := List.take_of_length_le (by rw [← HN.out]; omega)
      go_wp2_with fail
      go_ret
      exact ⟨ret_bool (by rw [← HR.out, alikeF_eq, ← HA.out, HT.out]), hbe⟩
end Go.Proofs.Ytologegkbcedhaa

