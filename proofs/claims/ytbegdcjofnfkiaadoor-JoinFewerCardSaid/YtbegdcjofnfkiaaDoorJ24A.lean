/- The law's normal: what lies in memory while it runs. -/
import Derived.Test.YtbegdcjofnfkiaaDoorJ23
import Derived.Test.YtbegdcjofnfkiaaDoorJ17A
import Derived.Test.YtbegdcjofnfkiaaDoorRelQ
namespace Go.Proofs.YtbegdcjofnfkiaaDoor
open Go.RowKit Go.Shelf Go.Sort

/-! Plainly. -/
theorem plN_ren (o : List Int) (a : Ar) : (⟨a.var, plN o a⟩ : Ar) = renA (plO o a) a := by
  unfold plN renA plO
  cases h : a.var with
  | true => simp
  | false => cases a; simp_all
theorem ordStep_prefix (o : List Int) (n : Int) : ∃ t, ordStep o n = o ++ t := by
  unfold ordStep; split
  · exact ⟨[], by simp⟩
  · exact ⟨[n], rfl⟩
theorem ordStep_has (o : List Int) (n : Int) : n ∈ ordStep o n := by
  unfold ordStep; split
  · assumption
  · simp
theorem plO_prefix (o : List Int) (a : Ar) : ∃ t, plO o a = o ++ t := by
  unfold plO; split
  · exact ordStep_prefix o a.n
  · exact ⟨[], by simp⟩
theorem plO_has {o : List Int} {a : Ar} (h : a.var = true) : a.n ∈ plO o a := by
  unfold plO; rw [if_pos h]; exact ordStep_has _ _
theorem ren_mono {o t : List Int} {n : Int} (h : n ∈ o) : ren (o ++ t) n = ren o n := ixB_append h
theorem renA_mono {o t : List Int} {a : Ar} (h : a.var = true → a.n ∈ o) : renA (o ++ t) a = renA o a := by
  unfold renA; split
  · rename_i hv; rw [ren_mono (h hv)]
  · rfl
theorem plO_len (o : List Int) (a : Ar) : (plO o a).length ≤ o.length + 1 := by
  unfold plO ordStep; split
  · split <;> simp
  · omega
def ordS (x : Qu) (i : Nat) : List Int := (x.shows.take i).foldl ordStep []
def ordA (x : Qu) (j : Nat) : List Int := (varsA (argsA (x.atoms.take j))).foldl ordStep (ordS x x.shows.length)
def ordT (x : Qu) (k : Nat) : List Int := (varsA (argsT (x.tests.take k))).foldl ordStep (ordA x x.atoms.length)
theorem varsA_append (l m : List Ar) : varsA (l ++ m) = varsA l ++ varsA m := by simp [varsA]
theorem varsA_one (a : Ar) (o : List Int) : (varsA [a]).foldl ordStep o = plO o a := by
  unfold varsA plO
  cases h : a.var <;> simp [h]
theorem ordT_all (x : Qu) : ordT x x.tests.length = orderJ (varsJ x) := by
  unfold ordT ordA ordS orderJ varsJ argsJ
  rw [List.take_of_length_le (Nat.le_refl _), List.take_of_length_le (Nat.le_refl _), List.take_of_length_le (Nat.le_refl _), varsA_append, List.foldl_append, List.foldl_append]
  rfl
theorem ordS_step {x : Qu} {i : Nat} {n : Int} (h : x.shows[i]? = some n) : ordS x (i + 1) = ordStep (ordS x i) n := by
  unfold ordS; rw [take_snoc h, List.foldl_append]; rfl
theorem argsA_one (a : Am) : argsA [a] = [a.s] ++ [a.o] ++ [a.v] := by simp [argsA]
theorem argsT_one (t : Te) : argsT [t] = [t.a] ++ [t.b] := by simp [argsT]
theorem argsA_append (l m : List Am) : argsA (l ++ m) = argsA l ++ argsA m := by simp [argsA]
theorem argsT_append (l m : List Te) : argsT (l ++ m) = argsT l ++ argsT m := by simp [argsT]
theorem ordA_step {x : Qu} {j : Nat} {a : Am} (h : x.atoms[j]? = some a) : ordA x (j + 1) = plO (plO (plO (ordA x j) a.s) a.o) a.v := by
  unfold ordA
  rw [take_snoc h, argsA_append, varsA_append, List.foldl_append, argsA_one, varsA_append, varsA_append, List.foldl_append, List.foldl_append, varsA_one, varsA_one, varsA_one]
theorem ordT_step {x : Qu} {k : Nat} {t : Te} (h : x.tests[k]? = some t) : ordT x (k + 1) = plO (plO (ordT x k) t.a) t.b := by
  unfold ordT
  rw [take_snoc h, argsT_append, varsA_append, List.foldl_append, argsT_one, varsA_append, List.foldl_append, varsA_one, varsA_one]
theorem ordS_zero (x : Qu) : ordS x 0 = [] := by simp [ordS]
theorem ordA_zero (x : Qu) : ordA x 0 = ordS x x.shows.length := by simp [ordA, argsA, varsA]
theorem ordT_zero (x : Qu) : ordT x 0 = ordA x x.atoms.length := by simp [ordT, argsT, varsA]
theorem ordA_more (x : Qu) (j : Nat) : ∃ t, ordA x j = ordS x x.shows.length ++ t := ord_prefix _ _
theorem ordT_more (x : Qu) (k : Nat) : ∃ t, ordT x k = ordA x x.atoms.length ++ t := ord_prefix _ _
theorem foldl_len : ∀ (l s : List Int), (l.foldl ordStep s).length ≤ s.length + l.length
  | [], s => by simp
  | a :: l, s => by
    have h1 := foldl_len l (ordStep s a)
    have h2 : (ordStep s a).length ≤ s.length + 1 := by unfold ordStep; split <;> simp
    rw [List.foldl_cons, List.length_cons]; omega
theorem varsA_len (l : List Ar) : (varsA l).length ≤ l.length := by
  unfold varsA; rw [List.length_map]; exact List.length_filter_le _ _
theorem argsA_len : ∀ l : List Am, (argsA l).length = 3 * l.length
  | [] => rfl
  | a :: l => by
    have := argsA_len l
    unfold argsA at this ⊢
    rw [List.flatMap_cons, List.length_append, this]; simp; omega
theorem argsT_len : ∀ l : List Te, (argsT l).length = 2 * l.length
  | [] => rfl
  | a :: l => by
    have := argsT_len l
    unfold argsT at this ⊢
    rw [List.flatMap_cons, List.length_append, this]; simp; omega
theorem ordS_len (x : Qu) (i : Nat) : (ordS x i).length ≤ x.shows.length := by
  have h1 := foldl_len (x.shows.take i) []
  have h2 := List.length_take_le i x.shows
  have h3 : (x.shows.take i).length ≤ x.shows.length := by rw [List.length_take]; omega
  unfold ordS; simp only [List.length_nil] at h1; omega
theorem ordA_len (x : Qu) (j : Nat) : (ordA x j).length ≤ x.shows.length + 3 * x.atoms.length := by
  have h1 := foldl_len (varsA (argsA (x.atoms.take j))) (ordS x x.shows.length)
  have h2 := varsA_len (argsA (x.atoms.take j))
  have h3 := argsA_len (x.atoms.take j)
  have h4 : (x.atoms.take j).length ≤ x.atoms.length := by rw [List.length_take]; omega
  have h5 := ordS_len x x.shows.length
  unfold ordA; omega
theorem ordT_len (x : Qu) (k : Nat) : (ordT x k).length ≤ x.shows.length + 3 * x.atoms.length + 2 * x.tests.length := by
  have h1 := foldl_len (varsA (argsT (x.tests.take k))) (ordA x x.atoms.length)
  have h2 := varsA_len (argsT (x.tests.take k))
  have h3 := argsT_len (x.tests.take k)
  have h4 : (x.tests.take k).length ≤ x.tests.length := by rw [List.length_take]; omega
  have h5 := ordA_len x x.atoms.length
  unfold ordT; omega
theorem set_mid {α : Type} (L R : List α) (a b : α) : (L ++ a :: R).set L.length b = L ++ b :: R := by
  rw [List.set_append_right _ _ (Nat.le_refl _), Nat.sub_self]; rfl
/-! So far renamed. -/
def shI (x : Qu) (i : Nat) : List Int := (x.shows.take i).map (ren (ordS x i)) ++ x.shows.drop i
def amI (x : Qu) (j : Nat) : List Am := (x.atoms.take j).map (renM (ordA x j)) ++ x.atoms.drop j
def teI (x : Qu) (k : Nat) : List Te := (x.tests.take k).map (renT (ordT x k)) ++ x.tests.drop k
theorem shI_zero (x : Qu) : shI x 0 = x.shows := by simp [shI]
theorem amI_zero (x : Qu) : amI x 0 = x.atoms := by simp [amI]
theorem teI_zero (x : Qu) : teI x 0 = x.tests := by simp [teI]
theorem mid_get {α : Type} {L R : List α} {a : α} {i : Nat} (h : L.length = i) : (L ++ a :: R)[i]? = some a := by subst h; simp
theorem take_len {α : Type} {l : List α} {i : Nat} {a : α} (h : l[i]? = some a) : (l.take i).length = i := by
  have := (List.getElem?_eq_some_iff.1 h).1
  rw [List.length_take]; omega
theorem shI_get {x : Qu} {i : Nat} {n : Int} (h : x.shows[i]? = some n) : (shI x i)[i]? = some n := by
  unfold shI; rw [drop_cons h]; exact mid_get (by rw [List.length_map, take_len h])
theorem amI_get {x : Qu} {i : Nat} {n : Am} (h : x.atoms[i]? = some n) : (amI x i)[i]? = some n := by
  unfold amI; rw [drop_cons h]; exact mid_get (by rw [List.length_map, take_len h])
theorem teI_get {x : Qu} {i : Nat} {n : Te} (h : x.tests[i]? = some n) : (teI x i)[i]? = some n := by
  unfold teI; rw [drop_cons h]; exact mid_get (by rw [List.length_map, take_len h])
theorem ordS_mem {x : Qu} {i : Nat} {n : Int} (h : n ∈ x.shows.take i) : n ∈ ordS x i := (ord_mem _ _ _).2 (.inr h)
theorem ordA_mem {x : Qu} {j : Nat} {a : Am} (h : a ∈ x.atoms.take j) {g : Ar} (hg : g ∈ [a.s, a.o, a.v]) (hv : g.var = true) : g.n ∈ ordA x j :=
  (ord_mem _ _ _).2 (.inr (varsA_mem.2 ⟨g, List.mem_flatMap.2 ⟨a, h, hg⟩, hv, rfl⟩))
theorem ordT_mem {x : Qu} {k : Nat} {t : Te} (h : t ∈ x.tests.take k) {g : Ar} (hg : g ∈ [t.a, t.b]) (hv : g.var = true) : g.n ∈ ordT x k :=
  (ord_mem _ _ _).2 (.inr (varsA_mem.2 ⟨g, List.mem_flatMap.2 ⟨t, h, hg⟩, hv, rfl⟩))
theorem renM_mono {o t : List Int} {a : Am} (h : ∀ g ∈ [a.s, a.o, a.v], g.var = true → g.n ∈ o) : renM (o ++ t) a = renM o a := by
  unfold renM
  rw [renA_mono (h a.s (by simp)), renA_mono (h a.o (by simp)), renA_mono (h a.v (by simp))]
theorem renT_mono {o t : List Int} {a : Te} (h : ∀ g ∈ [a.a, a.b], g.var = true → g.n ∈ o) : renT (o ++ t) a = renT o a := by
  unfold renT
  rw [renA_mono (h a.a (by simp)), renA_mono (h a.b (by simp))]
theorem shI_step {x : Qu} {i : Nat} {n : Int} (h : x.shows[i]? = some n) : (shI x i).set i (plN (ordS x i) ⟨true, n⟩) = shI x (i + 1) := by
  have hl : ((x.shows.take i).map (ren (ordS x i))).length = i := by rw [List.length_map, take_len h]
  unfold shI
  rw [drop_cons h]
  conv => lhs; arg 2; rw [← hl]
  rw [set_mid, take_snoc h, List.map_append, List.append_assoc, ordS_step h]
  obtain ⟨t, ht⟩ := ordStep_prefix (ordS x i) n
  congr 1
  refine List.map_congr_left fun m hm => ?_
  rw [ht, ren_mono (ordS_mem hm)]
theorem amI_step {x : Qu} {j : Nat} {a : Am} (h : x.atoms[j]? = some a) {b : Am} (hb : b = renM (ordA x (j + 1)) a) : (amI x j).set j b = amI x (j + 1) := by
  have hl : ((x.atoms.take j).map (renM (ordA x j))).length = j := by rw [List.length_map, take_len h]
  unfold amI
  rw [drop_cons h]
  conv => lhs; arg 2; rw [← hl]
  rw [set_mid, take_snoc h, List.map_append, List.append_assoc, hb]
  obtain ⟨t1, h1⟩ := plO_prefix (ordA x j) a.s
  obtain ⟨t2, h2⟩ := plO_prefix (plO (ordA x j) a.s) a.o
  obtain ⟨t3, h3⟩ := plO_prefix (plO (plO (ordA x j) a.s) a.o) a.v
  have ht : ordA x (j + 1) = ordA x j ++ (t1 ++ t2 ++ t3) := by rw [ordA_step h, h3, h2, h1]; simp
  congr 1
  refine List.map_congr_left fun m hm => ?_
  rw [ht, renM_mono fun g hg hv => ordA_mem hm hg hv]
theorem teI_step {x : Qu} {j : Nat} {a : Te} (h : x.tests[j]? = some a) {b : Te} (hb : b = renT (ordT x (j + 1)) a) : (teI x j).set j b = teI x (j + 1) := by
  have hl : ((x.tests.take j).map (renT (ordT x j))).length = j := by rw [List.length_map, take_len h]
  unfold teI
  rw [drop_cons h]
  conv => lhs; arg 2; rw [← hl]
  rw [set_mid, take_snoc h, List.map_append, List.append_assoc, hb]
  obtain ⟨t1, h1⟩ := plO_prefix (ordT x j) a.a
  obtain ⟨t2, h2⟩ := plO_prefix (plO (ordT x j) a.a) a.b
  have ht : ordT x (j + 1) = ordT x j ++ (t1 ++ t2) := by rw [ordT_step h, h2, h1]; simp
  congr 1
  refine List.map_congr_left fun m hm => ?_
  rw [ht, renT_mono fun g hg hv => ordT_mem hm hg hv]
/-- The renamed atom, argument by argument. -/
theorem renM_parts {x : Qu} {j : Nat} {a : Am} (h : x.atoms[j]? = some a) :
    (⟨a.kind, ⟨a.s.var, plN (ordA x j) a.s⟩, ⟨a.o.var, plN (plO (ordA x j) a.s) a.o⟩, ⟨a.v.var, plN (plO (plO (ordA x j) a.s) a.o) a.v⟩, a.term, a.known⟩ : Am) = renM (ordA x (j + 1)) a := by
  obtain ⟨t2, h2⟩ := plO_prefix (plO (ordA x j) a.s) a.o
  obtain ⟨t3, h3⟩ := plO_prefix (plO (plO (ordA x j) a.s) a.o) a.v
  rw [ordA_step h, plN_ren, plN_ren, plN_ren]
  unfold renM
  rw [h3, renA_mono (fun hv => plO_has (a := a.o) hv), h2, List.append_assoc, renA_mono (fun hv => plO_has (a := a.s) hv)]
theorem renT_parts {x : Qu} {j : Nat} {a : Te} (h : x.tests[j]? = some a) :
    (⟨a.op, ⟨a.a.var, plN (ordT x j) a.a⟩, ⟨a.b.var, plN (plO (ordT x j) a.a) a.b⟩⟩ : Te) = renT (ordT x (j + 1)) a := by
  obtain ⟨t2, h2⟩ := plO_prefix (plO (ordT x j) a.a) a.b
  rw [ordT_step h, plN_ren, plN_ren]
  unfold renT
  rw [h2, renA_mono (fun hv => plO_has (a := a.a) hv)]
theorem shI_all (x : Qu) : shI x x.shows.length = x.shows.map (ren (orderJ (varsJ x))) := by
  unfold shI
  rw [List.take_of_length_le (Nat.le_refl _), List.drop_of_length_le (Nat.le_refl _), List.append_nil]
  obtain ⟨t1, h1⟩ := ordT_more x x.tests.length
  obtain ⟨t2, h2⟩ := ordA_more x x.atoms.length
  refine List.map_congr_left fun m hm => ?_
  rw [← ordT_all, h1, h2, List.append_assoc, ren_mono (ordS_mem (by rw [List.take_of_length_le (Nat.le_refl _)]; exact hm))]
theorem amI_all (x : Qu) : amI x x.atoms.length = x.atoms.map (renM (orderJ (varsJ x))) := by
  unfold amI
  rw [List.take_of_length_le (Nat.le_refl _), List.drop_of_length_le (Nat.le_refl _), List.append_nil]
  obtain ⟨t1, h1⟩ := ordT_more x x.tests.length
  refine List.map_congr_left fun m hm => ?_
  rw [← ordT_all, h1, renM_mono fun g hg hv => ordA_mem (by rw [List.take_of_length_le (Nat.le_refl _)]; exact hm) hg hv]
theorem teI_all (x : Qu) : teI x x.tests.length = x.tests.map (renT (orderJ (varsJ x))) := by
  unfold teI
  rw [List.take_of_length_le (Nat.le_refl _), List.drop_of_length_le (Nat.le_refl _), List.append_nil, ordT_all]
theorem shI_len (x : Qu) {i : Nat} (h : i ≤ x.shows.length) : (shI x i).length = x.shows.length := by
  unfold shI; rw [List.length_append, List.length_map, List.length_take, List.length_drop]; omega
theorem amI_len (x : Qu) {i : Nat} (h : i ≤ x.atoms.length) : (amI x i).length = x.atoms.length := by
  unfold amI; rw [List.length_append, List.length_map, List.length_take, List.length_drop]; omega
theorem teI_len (x : Qu) {i : Nat} (h : i ≤ x.tests.length) : (teI x i).length = x.tests.length := by
  unfold teI; rw [List.length_append, List.length_map, List.length_take, List.length_drop]; omega

/-! In memory. -/
/-- While normal runs: the query's box, the order's box, three lists of its own. b: the blocks from there on are its own. -/
structure NSt (b : Nat) (Nv Sv Av Tv : Value) (sh : List Int) (am : List Am) (te : List Te) (O : List Int) (W : World) : Prop where
  box : W.heap[b]? = some (.cells #[Nv, Sv, Av, Tv] 27 (0, 0))
  ord : ∃ v, W.heap[b + 3]? = some (.cells #[v] 23 (0, 0)) ∧ W.ownsRow (b + 2) 3 1 v O.length (O.flatMap iEnc) ∧ ∀ g, v.ownBlock = some g → Sv.ownBlock ≠ some g
  sho : W.ownsRow (b + 2) 3 1 Sv sh.length (sh.flatMap iEnc)
  ato : W.ownsRow (b + 2) 46 9 Av am.length (am.flatMap amEnc)
  tes : W.ownsRow (b + 2) 48 5 Tv te.length (te.flatMap teEnc)
theorem NSt.keep {b : Nat} {Nv Sv Av Tv : Value} {sh : List Int} {am : List Am} {te : List Te} {O : List Int} {W W' : World} (h : NSt b Nv Sv Av Tv sh am te O W) (hb : Below W.heap.size W W') : NSt b Nv Sv Av Tv sh am te O W' := by
  obtain ⟨v, h1, h2, h3⟩ := h.ord
  exact ⟨(hb.block _ (lt_of_heap h.box)).trans h.box, ⟨v, (hb.block _ (lt_of_heap h1)).trans h1, own_keepB h2 fun g hg => hb.block g (h2.lt g hg).2, h3⟩, own_keepB h.sho fun g hg => hb.block g (h.sho.lt g hg).2, own_keepB h.ato fun g hg => hb.block g (h.ato.lt g hg).2, own_keepB h.tes fun g hg => hb.block g (h.tes.lt g hg).2⟩
theorem own_differ {w : World} {b1 b2 k1 k2 n1 n2 : Nat} {e1 e2 : TypeId} {v1 v2 : Value} {x1 x2 : List Value} {g1 g2 : Nat} (h1 : w.ownsRow b1 e1 k1 v1 n1 x1) (h2 : w.ownsRow b2 e2 k2 v2 n2 x2) (he : e1 ≠ e2) (hg1 : v1.ownBlock = some g1) (hg2 : v2.ownBlock = some g2) : g1 ≠ g2 := by
  rintro rfl
  obtain ⟨c1, h3⟩ := own_kind h1 hg1
  obtain ⟨c2, h4⟩ := own_kind h2 hg2
  rw [h3] at h4
  injection h4 with h4
  injection h4 with _ h4
  exact he h4
theorem own_notbox {w : World} {b k n : Nat} {e t : TypeId} {v : Value} {x : List Value} {g B : Nat} {cs : Array Value} (h : w.ownsRow b e k v n x) (hB : w.heap[B]? = some (.cells cs t (0, 0))) (he : e ≠ t) (hg : v.ownBlock = some g) : g ≠ B := by
  rintro rfl
  obtain ⟨c1, h3⟩ := own_kind h hg
  rw [h3] at hB
  injection hB with hB
  injection hB with _ hB
  exact he hB
/-- An argument placed. -/
theorem NSt.place {b : Nat} {Nv Sv Av Tv : Value} {sh : List Int} {am : List Am} {te : List Te} {O : List Int} {W : World} (h : NSt b Nv Sv Av Tv sh am te O W) (a : Ar) (hO : O.length ≤ 1000) :
    Calls Tryd.prog 43 #[.agg #[.bool a.var, .int .i64 a.n], .pointer (some ⟨b + 3, 0, none⟩)] W fun e W' => e = .returned (.agg #[.bool a.var, .int .i64 (plN O a)]) ∧ NSt b Nv Sv Av Tv sh am te (plO O a) W' ∧ Below (b + 2) W W' := by
  obtain ⟨v, h1, h2, h3⟩ := h.ord
  refine (place_any (b + 3) (b + 2) v O a W h1 h2 (fun g hg => own_notbox h2 h1 (by decide) hg) (by have := lt_of_heap h1; omega) hO).mono ?_
  rintro e W' ⟨rfl, ⟨v', g1, g2, g3⟩, hk⟩
  have hkb : ∀ g, g < W.heap.size → g ≠ b + 3 → v.ownBlock ≠ some g → W'.heap[g]? = W.heap[g]? := fun g hg hn hv => hk.block g hg fun hh => hh.elim hn hv
  refine ⟨rfl, ⟨(hkb _ (lt_of_heap h.box) (by omega) (fun e => by have := (h2.lt _ e).1; omega)).trans h.box, ⟨v', g1, g2, fun g hg hs => ?_⟩, own_keepB h.sho fun g hg => hkb g (h.sho.lt g hg).2 (own_notbox h.sho h1 (by decide) hg) (fun e => h3 g e hg),
    own_keepB h.ato fun g hg => hkb g (h.ato.lt g hg).2 (own_notbox h.ato h1 (by decide) hg) (fun e => own_differ h2 h.ato (by decide) e hg rfl), own_keepB h.tes fun g hg => hkb g (h.tes.lt g hg).2 (own_notbox h.tes h1 (by decide) hg) (fun e => own_differ h2 h.tes (by decide) e hg rfl)⟩, ?_⟩
  · rcases (g3 g hg).2 with hh | hh
    · exact h3 g hh hs
    · have := (h.sho.lt g hs).2; omega
  · exact ⟨hk.os, hk.tape, hk.output, hk.size, fun g hg => hkb g (by have := lt_of_heap h1; omega) (by omega) (fun e => by have := (h2.lt _ e).1; omega)⟩

def RBox (b : Nat) (W : World) : Prop := W.heap[b + 1]? = some (.cells #[.slice none 0 0, .slice none 0 0, .slice none 0 0, .slice none 0 0] 27 (0, 0))
theorem own_some {w : World} {base k n c : Nat} {e : TypeId} {A : Option Addr} {xs : List Value} (h : w.ownsRow base e k (.slice A n c) n xs) (hn : 0 < n) : ∃ g, A = some ⟨g, 0, none⟩ ∧ base ≤ g := by
  rcases h.2 with ⟨h2, _⟩ | ⟨g, cap, cs, hv, hg, _⟩
  · injection h2; omega
  · injection hv with e1; exact ⟨g, e1, hg⟩
theorem own_cell {α : Type} {w : World} {base k n c g i j : Nat} {e : TypeId} {enc : α → List Value} {M : List α} {x : α} {u : Value} (hk : ∀ x, (enc x).length = k) (h : w.ownsRow base e k (.slice (some ⟨g, 0, none⟩) n c) n (M.flatMap enc)) (hx : M[i]? = some x) (hu : (enc x)[j]? = some u) : w.cell? ⟨g, i * k + j, none⟩ = some u := by
  have := h.cells (g := g) rfl _ _ (flat_get hk M i x hx j u hu)
  rwa [addr_add, Nat.zero_add] at this
theorem own_cell1 {w : World} {base n c g i : Nat} {e : TypeId} {M : List Int} {x : Int} (h : w.ownsRow base e 1 (.slice (some ⟨g, 0, none⟩) n c) n (M.flatMap iEnc)) (hx : M[i]? = some x) : w.cell? ⟨g, i, none⟩ = some (.int .i64 x) := by
  have := own_cell iEnc_len h hx (j := 0) rfl
  simpa using this
theorem own_free {w : World} {base k n c g o : Nat} {e : TypeId} {xs : List Value} (h : w.ownsRow base e k (.slice (some ⟨g, 0, none⟩) n c) n xs) : w.frozen? ⟨g, o, none⟩ = false := by
  obtain ⟨cs, hc⟩ := own_kind h (g := g) rfl
  exact frozen_of_heap hc
theorem own_eqlen {w : World} {base k n m c : Nat} {e : TypeId} {A : Option Addr} {xs : List Value} (h : w.ownsRow base e k (.slice A n c) m xs) : n = m := by
  rcases h.2 with ⟨h2, h3⟩ | ⟨g, cap, cs, hv, _⟩
  · injection h2; omega
  · injection hv
section
variable {b : Nat} {Nv : Value} {sg sn sc ag an ac tg tn tc : Nat} {Sv Av Tv : Value} {sh : List Int} {am : List Am} {te : List Te} {O : List Int} {W : World}
/-- What is stored into the shown list. -/
theorem NSt.setS {i : Nat} {x y : Int} (h : NSt b Nv (.slice (some ⟨sg, 0, none⟩) sn sc) Av Tv sh am te O W) (hx : sh[i]? = some x) : NSt b Nv (.slice (some ⟨sg, 0, none⟩) sn sc) Av Tv (sh.set i y) am te O (W.setCell ⟨sg, i, none⟩ (.int .i64 y)) := by
  obtain ⟨v, h1, h2, h3⟩ := h.ord
  have hn := own_eqlen h.sho
  have hs := h.sho
  rw [← hn] at hs
  have h5 := own_set iEnc_len hs (by decide) hx (j := 0) (by decide) (x' := y) (u := .int .i64 y) rfl
  simp only [Nat.mul_one, Nat.add_zero] at h5
  refine ⟨heap_set_ne h.box (own_notbox h.sho h.box (by decide) rfl).symm _ _, ⟨v, heap_set_ne h1 (own_notbox h.sho h1 (by decide) rfl).symm _ _, own_keepB h2 fun g hg => heap_set_ne rfl (fun e => h3 g hg (by rw [show g = sg from e]; rfl)) _ _, h3⟩, ?_, own_keepB h.ato fun g hg => heap_set_ne rfl (own_differ h.ato h.sho (by decide) hg rfl) _ _, own_keepB h.tes fun g hg => heap_set_ne rfl (own_differ h.tes h.sho (by decide) hg rfl) _ _⟩
  rw [List.length_set, ← hn]
  exact h5
theorem NSt.setA {i j : Nat} {x y : Am} {u : Value} (h : NSt b Nv Sv (.slice (some ⟨ag, 0, none⟩) an ac) Tv sh am te O W) (hx : am[i]? = some x) (hj : j < 9) (he : amEnc y = (amEnc x).set j u) : NSt b Nv Sv (.slice (some ⟨ag, 0, none⟩) an ac) Tv sh (am.set i y) te O (W.setCell ⟨ag, i * 9 + j, none⟩ u) := by
  obtain ⟨v, h1, h2, h3⟩ := h.ord
  have hn := own_eqlen h.ato
  have hs := h.ato
  rw [← hn] at hs
  have h5 := own_set amEnc_len hs (by decide) hx hj he
  refine ⟨heap_set_ne h.box (own_notbox h.ato h.box (by decide) rfl).symm _ _, ⟨v, heap_set_ne h1 (own_notbox h.ato h1 (by decide) rfl).symm _ _, own_keepB h2 fun g hg => heap_set_ne rfl (own_differ h2 h.ato (by decide) hg rfl) _ _, h3⟩, own_keepB h.sho fun g hg => heap_set_ne rfl (own_differ h.sho h.ato (by decide) hg rfl) _ _, ?_, own_keepB h.tes fun g hg => heap_set_ne rfl (own_differ h.tes h.ato (by decide) hg rfl) _ _⟩
  rw [List.length_set, ← hn]
  exact h5
theorem NSt.setT {i j : Nat} {x y : Te} {u : Value} (h : NSt b Nv Sv Av (.slice (some ⟨tg, 0, none⟩) tn tc) sh am te O W) (hx : te[i]? = some x) (hj : j < 5) (he : teEnc y = (teEnc x).set j u) : NSt b Nv Sv Av (.slice (some ⟨tg, 0, none⟩) tn tc) sh am (te.set i y) O (W.setCell ⟨tg, i * 5 + j, none⟩ u) := by
  obtain ⟨v, h1, h2, h3⟩ := h.ord
  have hn := own_eqlen h.tes
  have hs := h.tes
  rw [← hn] at hs
  have h5 := own_set teEnc_len hs (by decide) hx hj he
  refine ⟨heap_set_ne h.box (own_notbox h.tes h.box (by decide) rfl).symm _ _, ⟨v, heap_set_ne h1 (own_notbox h.tes h1 (by decide) rfl).symm _ _, own_keepB h2 fun g hg => heap_set_ne rfl (own_differ h2 h.tes (by decide) hg rfl) _ _, h3⟩, own_keepB h.sho fun g hg => heap_set_ne rfl (own_differ h.sho h.tes (by decide) hg rfl) _ _, own_keepB h.ato fun g hg => heap_set_ne rfl (own_differ h.ato h.tes (by decide) hg rfl) _ _, ?_⟩
  rw [List.length_set, ← hn]
  exact h5
theorem NSt.setShow {q : Qu} {k : Nat} {n : Int} (hn : q.shows[k]? = some n) (h : NSt b Nv (.slice (some ⟨sg, 0, none⟩) sn sc) Av Tv (shI q k) am te O W) : NSt b Nv (.slice (some ⟨sg, 0, none⟩) sn sc) Av Tv (shI q (k + 1)) am te O (W.setCell ⟨sg, k, none⟩ (.int .i64 (plN (ordS q k) ⟨true, n⟩))) := by
  rw [← shI_step hn]; exact h.setS (shI_get hn)
/-- An argument of an atom, of a test, turned. -/
theorem NSt.setArg {i j : Nat} {x y : Am} {vr : Bool} {n : Int} (h : NSt b Nv Sv (.slice (some ⟨ag, 0, none⟩) an ac) Tv sh am te O W) (hx : am[i]? = some x) (hj : j + 1 < 9) (h0 : amEnc x = (amEnc x).set j (.bool vr)) (h1 : amEnc y = (amEnc x).set (j + 1) (.int .i64 n)) :
    NSt b Nv Sv (.slice (some ⟨ag, 0, none⟩) an ac) Tv sh (am.set i y) te O ((W.setCell ⟨ag, i * 9 + j, none⟩ (.bool vr)).setCell ⟨ag, i * 9 + (j + 1), none⟩ (.int .i64 n)) := by
  have hl := (List.getElem?_eq_some_iff.1 hx).1
  have h2 := h.setA hx (by omega) h0
  have h3 := h2.setA (i := i) (x := x) (y := y) (by rw [List.getElem?_set_self (by simpa using hl)]) hj h1
  rwa [List.set_set] at h3
theorem NSt.setArgT {i j : Nat} {x y : Te} {vr : Bool} {n : Int} (h : NSt b Nv Sv Av (.slice (some ⟨tg, 0, none⟩) tn tc) sh am te O W) (hx : te[i]? = some x) (hj : j + 1 < 5) (h0 : teEnc x = (teEnc x).set j (.bool vr)) (h1 : teEnc y = (teEnc x).set (j + 1) (.int .i64 n)) :
    NSt b Nv Sv Av (.slice (some ⟨tg, 0, none⟩) tn tc) sh am (te.set i y) O ((W.setCell ⟨tg, i * 5 + j, none⟩ (.bool vr)).setCell ⟨tg, i * 5 + (j + 1), none⟩ (.int .i64 n)) := by
  have hl := (List.getElem?_eq_some_iff.1 hx).1
  have h2 := h.setT hx (by omega) h0
  have h3 := h2.setT (i := i) (x := x) (y := y) (by rw [List.getElem?_set_self (by simpa using hl)]) hj h1
  rwa [List.set_set] at h3
theorem RBox.keep {b : Nat} {W W' : World} (h : RBox b W) (hb : Below (b + 2) W W') : RBox b W' := (hb.block _ (by omega)).trans h
/-- The names are turned: all else stays. -/
theorem NSt.grown {n : Nat} {xs : List Value} {W' : World} (h : NSt b Nv Sv Av Tv sh am te O W) (hN : W.ownsRow (b + 2) 9 1 Nv n xs) (hg : W.grownBy W' Nv.ownBlock) : NSt b Nv Sv Av Tv sh am te O W' := by
  obtain ⟨v, h1, h2, h3⟩ := h.ord
  have hk : ∀ (g : Nat) (cs : Array Value) (t : TypeId), W.heap[g]? = some (.cells cs t (0, 0)) → t ≠ 9 → W'.heap[g]? = W.heap[g]? := fun g cs t hc ht => hg.block g (lt_of_heap hc) fun e => own_notbox hN hc (Ne.symm ht) e.symm rfl
  have hko : ∀ {k m : Nat} {e : TypeId} {u : Value} {ys : List Value}, W.ownsRow (b + 2) e k u m ys → e ≠ 9 → ∀ g, u.ownBlock = some g → W'.heap[g]? = W.heap[g]? := fun ho he g hg' => by
    obtain ⟨cs, hc⟩ := own_kind ho hg'
    exact hk g cs _ hc he
  exact ⟨(hk _ _ _ h.box (by decide)).trans h.box, ⟨v, (hk _ _ _ h1 (by decide)).trans h1, own_keepB h2 (hko h2 (by decide)), h3⟩, own_keepB h.sho (hko h.sho (by decide)), own_keepB h.ato (hko h.ato (by decide)), own_keepB h.tes (hko h.tes (by decide))⟩
theorem NSt.setN {Nu : Value} (h : NSt b Nv Sv Av Tv sh am te O W) : NSt b Nu Sv Av Tv sh am te O (W.setCell ⟨b, 0, none⟩ Nu) := by
  obtain ⟨v, h1, h2, h3⟩ := h.ord
  have hko : ∀ {k m : Nat} {e : TypeId} {u : Value} {ys : List Value}, W.ownsRow (b + 2) e k u m ys → ∀ g, u.ownBlock = some g → (W.setCell ⟨b, 0, none⟩ Nu).heap[g]? = W.heap[g]? := fun ho g hg => heap_set_ne rfl (by have := (ho.lt g hg).1; omega) _ _
  exact ⟨heap_setO h.box 0 _, ⟨v, heap_set_ne h1 (by omega) _ _, own_keepB h2 (hko h2), h3⟩, own_keepB h.sho (hko h.sho), own_keepB h.ato (hko h.ato), own_keepB h.tes (hko h.tes)⟩
theorem pickN_in {names : List ByteArray} {n : Int} {s : ByteArray} (O : List Int) (h0 : 0 ≤ n) (hn : names[n.toNat]? = some s) : pickN names (O ++ [n]) = pickN names O ++ [s] := by
  have hl := (List.getElem?_eq_some_iff.1 hn).1
  unfold pickN
  rw [List.filterMap_append]
  congr 1
  rw [List.filterMap_cons, if_pos ⟨h0, by omega⟩, hn]; rfl
theorem pickN_out {names : List ByteArray} {n : Int} (O : List Int) (h : ¬ (0 ≤ n ∧ n < names.length)) : pickN names (O ++ [n]) = pickN names O := by
  unfold pickN
  rw [List.filterMap_append, List.filterMap_cons, if_neg h]
  simp
theorem pickN_len (names : List ByteArray) (O : List Int) : (pickN names O).length ≤ O.length := List.length_filterMap_le _ _
end
/-- All that normal keeps, the names with it. -/
structure NFull (b : Nat) (Bx Nw : Value) (pn : Nat) (ns : List ByteArray) (Sv Av Tv : Value) (sh : List Int) (am : List Am) (te : List Te) (O : List Int) (w W : World) : Prop where
  st : NSt b Bx Sv Av Tv sh am te O W
  rb : RBox b W
  bel : Below b w W
  nam : W.ownsRow (b + 2) 9 1 Nw pn (ns.flatMap sEnc)
theorem NFull.keep {b : Nat} {Bx Nw : Value} {pn : Nat} {ns : List ByteArray} {Sv Av Tv : Value} {sh : List Int} {am : List Am} {te : List Te} {O : List Int} {w W W' : World} (h : NFull b Bx Nw pn ns Sv Av Tv sh am te O w W) (hb : Below W.heap.size W W') : NFull b Bx Nw pn ns Sv Av Tv sh am te O w W' :=
  ⟨h.st.keep hb, (hb.block _ (lt_of_heap h.rb)).trans h.rb, h.bel.trans (hb.mono (by have := lt_of_heap h.st.box; omega)), own_keepB h.nam fun g hg => hb.block g (h.nam.lt g hg).2⟩
theorem NFull.setN {b : Nat} {Bx Nw Nu : Value} {pn : Nat} {ns : List ByteArray} {Sv Av Tv : Value} {sh : List Int} {am : List Am} {te : List Te} {O : List Int} {w W : World} (h : NFull b Bx Nw pn ns Sv Av Tv sh am te O w W) : NFull b Nu Nw pn ns Sv Av Tv sh am te O w (W.setCell ⟨b, 0, none⟩ Nu) :=
  ⟨h.st.setN, heap_set_ne h.rb (by omega) _ _, h.bel.setCell (Nat.le_refl _) _, own_keepB h.nam fun g hg => heap_set_ne rfl (by have := (h.nam.lt g hg).1; omega) _ _⟩
theorem NFull.grown {b : Nat} {Nv Nw : Value} {n pn : Nat} {xs : List Value} {ns : List ByteArray} {Sv Av Tv : Value} {sh : List Int} {am : List Am} {te : List Te} {O : List Int} {w W W' : World} (h : NSt b Nv Sv Av Tv sh am te O W) (hr : RBox b W) (hb : Below b w W) (hN : W.ownsRow (b + 2) 9 1 Nv n xs) (hg : W.grownBy W' Nv.ownBlock) (hn : W'.ownsRow (b + 2) 9 1 Nw pn (ns.flatMap sEnc)) : NFull b Nv Nw pn ns Sv Av Tv sh am te O w W' :=
  ⟨h.grown hN hg, (hg.block _ (lt_of_heap hr) fun e => by have := (hN.lt _ e.symm).1; omega).trans hr, hb.grown hg (by have := lt_of_heap h.box; omega) fun g e => by have := (hN.lt g e).1; omega, hn⟩
theorem own_sl {α : Type} {w : World} {base k m n c : Nat} {e : TypeId} {A : Option Addr} {enc : α → List Value} {l : List α} (hk : ∀ x, (enc x).length = k) (h0 : 0 < k) (h : w.ownsRow base e k (.slice A n c) m (l.flatMap enc)) : Rows k (Rep.flat enc) w w.heap.size A n c l := by
  have hn := own_eqlen h
  subst hn
  obtain ⟨A2, c2, he, hr⟩ := own_rows hk h0 h
  injection he with e1 e2 e3
  rw [e1, e3]; exact hr
/-- What normal hands back. -/
def NormPost (x : Qu) (w : World) (e : Ending) (w' : World) : Prop := ∃ y : Qu, e = .returned (.agg #[.slice y.nA y.nn y.nc, .slice y.sA y.sn y.sc, .slice y.aA y.an y.ac, .slice y.tA y.tn y.tc]) ∧ QuIn y w' w'.heap.size ∧ Renamed x y ∧ Below w.heap.size w w'
theorem norm_end {q : Qu} {b pn cN cS cA cT : Nat} {NA AS AA AT : Option Addr} {w W F : World} (hb : w.heap.size = b) (hl : q.sn = q.shows.length ∧ q.an = q.atoms.length ∧ q.tn = q.tests.length)
    (h : NFull b (.slice NA pn cN) (.slice NA pn cN) pn (pickN q.names (orderJ (varsJ q))) (.slice AS q.sn cS) (.slice AA q.an cA) (.slice AT q.tn cT) (shI q q.sn) (amI q q.an) (teI q q.tn) (orderJ (varsJ q)) w W)
    (hz : F.heap.size = W.heap.size) (hF : ∀ x, x ≠ b + 1 → F.heap[x]? = W.heap[x]?) (ho : F.os = W.os ∧ F.tape = W.tape ∧ F.output = W.output) : NormPost q w (.returned (.agg #[.slice NA pn cN, .slice AS q.sn cS, .slice AA q.an cA, .slice AT q.tn cT])) F := by
  have hk : ∀ {k m : Nat} {e : TypeId} {u : Value} {ys : List Value}, W.ownsRow (b + 2) e k u m ys → F.ownsRow (b + 2) e k u m ys := fun hw => own_keepB hw fun g hg => hF g (by have := (hw.lt g hg).1; omega)
  refine ⟨⟨NA, pn, cN, pickN q.names (orderJ (varsJ q)), AS, q.sn, cS, shI q q.sn, AA, q.an, cA, amI q q.an, AT, q.tn, cT, teI q q.tn⟩, rfl, ⟨own_sl sEnc_len (by decide) (hk h.nam), own_sl iEnc_len (by decide) (hk h.st.sho), own_sl amEnc_len (by decide) (hk h.st.ato), own_sl teEnc_len (by decide) (hk h.st.tes)⟩, ⟨rfl, ?_, ?_, ?_⟩, ?_⟩
  · show shI q q.sn = _; rw [hl.1]; exact shI_all q
  · show amI q q.an = _; rw [hl.2.1]; exact amI_all q
  · show teI q q.tn = _; rw [hl.2.2]; exact teI_all q
  · rw [hb]; exact h.bel.trans ⟨ho.1, ho.2.1, ho.2.2, by omega, fun x hx => hF x (by omega)⟩
end Go.Proofs.YtbegdcjofnfkiaaDoor
