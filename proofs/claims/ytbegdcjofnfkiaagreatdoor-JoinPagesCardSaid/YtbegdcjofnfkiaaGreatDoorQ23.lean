/- Several texts in one: AP5 A9 A10 JQ J25 J19. -/
import Derived.Test.YtbegdcjofnfkiaaGreatDoorA26
import Derived.Test.YtbegdcjofnfkiaaGreatDoorA8
import Derived.Test.YtbegdcjofnfkiaaGreatDoorQ10
import Derived.Test.YtbegdcjofnfkiaaGreatDoorQ5
import Derived.Test.YtbegdcjofnfkiaaGreatDoorQ6
import Derived.Test.YtbegdcjofnfkiaaGreatDoorQ21
import Derived.Test.YtbegdcjofnfkiaaGreatDoorQ4
import Derived.Test.YtbegdcjofnfkiaaGreatDoorQ2
import Derived.Test.YtbegdcjofnfkiaaGreatDoorQ15
import Derived.Test.YtbegdcjofnfkiaaGreatDoorJ17
import Derived.Test.YtbegdcjofnfkiaaGreatDoorQ14
namespace Go.Proofs.YtbegdcjofnfkiaaGreatDoor
section
open Go.RowKit
def putE (ps : List Pv) (roots : List Int) (f : Fc) : Int := if checkP ps roots = true then (if checkF [f] = 0 then errP (compB f (allT ps (lastR roots))) else checkF [f]) else 470
theorem compB_iff {f : Fc} {l : List Fc} : compB f l = true ↔ Comp f l := by
 refine ⟨comp_of, fun h => List.all_eq_true.2 fun x hx => decide_eq_true fun e => ?_⟩
 rcases cmpP_cases f x with ⟨h1, _⟩ | ⟨_, h2, h3⟩ | ⟨h1, _⟩
 ·omega
 ·rcases h x hx with h4 | h4
  ·rw [h3] at h4; cases h4
  ·rw [h2] at h4; cases h4
 ·omega
theorem checkF_1 (f : Fc) : checkF [f] = if f.ok = true then 0 else 70 := by
 unfold checkF
 by_cases h : f.ok = true <;> simp [h, sortedB]
theorem putE_zero {ps : List Pv} {roots : List Int} {f : Fc} : putE ps roots f = 0 ↔ checkP ps roots = true ∧ f.ok = true ∧ Comp f (allT ps (lastR roots)) := by
 unfold putE
 rw [checkF_1, ← compB_iff]
 by_cases h1 : checkP ps roots = true
 ·rw [if_pos h1]
  by_cases h2 : f.ok = true
  ·rw [if_pos h2, if_pos rfl]
   unfold errP
   by_cases h3 : compB f (allT ps (lastR roots)) = true
   ·simp [h1, h2, h3]
   ·simp [h3]
  ·rw [if_neg h2]; simp [h2]
 ·rw [if_neg h1]; simp [h1]
theorem put_lawD {ps : List Pv} {root d : Nat} {f : Fc} (hG : GoodR ps root d) (hf : f.ok = true) (hC : Comp f (allT ps root)) :
  ∃ new d', (putW ps root f).1 = ps ++ new ∧ 1 ≤ new.length ∧ new.length ≤ 2 * d + 1 ∧ GoodR (putW ps root f).1 (putW ps root f).2 d' ∧ d' ≤ d + 1 ∧ InsR f (allT ps root) (allT (putW ps root f).1 (putW ps root f).2) ∧ ∀ q, ps.length ≤ q → q < (putW ps root f).1.length → Rch (putW ps root f).1 (putW ps root f).2 q := by
 obtain ⟨hT, hok, hS⟩ := hG
 obtain ⟨new, r1, r2, r3, r4, r5, r6⟩ := ins_law f (root + 1) ps root true d (by omega) hT hS hC
 unfold putW
 generalize insW f (root + 1) ps root = r at r1 r2 r3 r4 r5 r6 ⊢
 obtain ⟨ps', a, o⟩ := r
 have good : ∀ l', InsR f (allT ps root) l' → (∀ x ∈ l', x.ok = true) ∧ StrP l' := fun l' h => ⟨fun x hx => by rcases (h.mem x).1 hx with rfl | h; exact hf; exact hok x h, h.str hS⟩
 rcases o with _ | ⟨m, b⟩
 ·obtain ⟨t1, t2, t3⟩ := r5 rfl
  exact ⟨new, d, r1, r2, by omega, ⟨t1, good _ t2⟩, by omega, t2, t3⟩
 ·obtain ⟨t0, t1, t2, t3, t4⟩ := r6 m b rfl
  dsimp only at r1 r2 r3 r4 t0 t1 t2 t3 t4 ⊢
  have ta := t1.lt
  have tb := t2.lt
  have hk : KidsOk ps' ⟨[m], [(a : Int), (b : Int)]⟩ (d + 1) := by
   refine .inr ⟨rfl, by simp, d, rfl, fun i x hi => ?_⟩
   have hx : x ∈ [(a : Int), (b : Int)] := List.mem_of_getElem? hi
   simp at hx
   rcases hx with rfl | rfl
   ·exact ⟨by omega, by omega, by simpa using t1⟩
   ·exact ⟨by omega, by omega, by simpa using t2⟩
  have hp := put_page (root := true) (new1 := []) (new2 := []) (by simp) (by simp) hk
  simp only [List.append_nil, List.length_nil, Nat.add_zero] at hp
  have e : allT (ps' ++ [⟨[m], [(a : Int), (b : Int)]⟩]) ps'.length = allT ps' a ++ m :: allT ps' b := by rw [hp.2]; simp [subs, inter]
  refine ⟨new ++ [⟨[m], [(a : Int), (b : Int)]⟩], d + 1, by rw [r1, List.append_assoc], by simp, by simp; omega, ⟨hp.1, by rw [e]; exact good _ t3⟩, by omega, by rw [e]; exact t3, fun q h1 h2 => ?_⟩
  rw [List.length_append] at h2
  rcases Nat.lt_or_ge q ps'.length with h | h
  ·rcases t4 q h1 h with h | h
   ·exact Rch.step (g := ⟨[m], [(a : Int), (b : Int)]⟩) (kid := (a : Int)) (by simp) (by simp) (by simpa using h.app)
   ·exact Rch.step (g := ⟨[m], [(a : Int), (b : Int)]⟩) (kid := (b : Int)) (by simp) (by simp) (by simpa using h.app)
  ·obtain rfl : q = ps'.length := by simp at h2; omega
   exact Rch.refl _
theorem lastR_snoc (roots : List Int) (r : Nat) : lastR (roots ++ [(r : Int)]) = r := by unfold lastR; simp
structure Fst where
 (ps : List Pv) (roots : List Int) (acc : List Fc)
def stepF (st : Fst) (f : Fc) : Fst := if putE st.ps st.roots f = 0 then ⟨(putW st.ps (lastR st.roots) f).1, st.roots ++ [((putW st.ps (lastR st.roots) f).2 : Int)], st.acc ++ [f]⟩ else st
def fst0 : Fst := ⟨[⟨[], []⟩], [0], []⟩
def fillF (l : List Fc) : Fst := l.foldl stepF fst0
theorem fillF_snoc (l : List Fc) (f : Fc) : fillF (l ++ [f]) = stepF (fillF l) f := by simp [fillF]
structure Finv (st : Fst) : Prop where
 len : st.roots.length = st.acc.length + 1
 size : st.ps.length ≤ 1 + (2 * st.acc.length + 3) * st.acc.length
 last : ∃ d, d ≤ st.acc.length + 1 ∧ GoodR st.ps (lastR st.roots) d
 all : ∀ (v : Nat) (r : Int), st.roots[v]? = some r → 0 ≤ r ∧ (∃ d, GoodR st.ps r.toNat d) ∧ (allT st.ps r.toNat).Perm (st.acc.take v)
 ok : ∀ f ∈ st.acc, f.ok = true
theorem Finv.check {st : Fst} (h : Finv st) : checkP st.ps st.roots = true :=
 checkP_iff.2 ⟨fun e => by have := h.len; rw [e] at this; simp at this, fun r hr => by
  obtain ⟨v, hv⟩ := List.mem_iff_getElem?.1 hr
  exact ⟨(h.all v r hv).1, (h.all v r hv).2.1⟩⟩
theorem Finv.zero : Finv fst0 := by
 have hT : Tr [⟨[], []⟩] true 0 1 := Tr.leaf (g := ⟨[], []⟩) rfl rfl rfl
 have ha : allT [⟨[], []⟩] 0 = [] := rfl
 have hG : GoodR [⟨[], []⟩] 0 1 := ⟨hT, by rw [ha]; simp, by rw [ha]; exact List.Pairwise.nil⟩
 refine ⟨rfl, by simp [fst0], ⟨1, by simp [fst0], hG⟩, fun v r hv => ?_, by simp [fst0]⟩
 match v, hv with
 | 0, hv => cases hv; exact ⟨by omega, ⟨1, hG⟩, by rw [show (0 : Int).toNat = 0 from rfl]; exact List.Perm.refl _⟩
 | v + 1, hv => simp [fst0] at hv
theorem Finv.lastAll {st : Fst} (h : Finv st) : (allT st.ps (lastR st.roots)).Perm st.acc := by
 have hl := h.len
 obtain ⟨r, hr⟩ : ∃ r, st.roots[st.acc.length]? = some r := ⟨_, List.getElem?_eq_getElem (by omega)⟩
 have := (h.all _ r hr).2.2
 rw [List.take_of_length_le (Nat.le_refl _)] at this
 have e : lastR st.roots = r.toNat := by
  unfold lastR
  rw [List.getLast?_eq_getElem?, hl, Nat.add_sub_cancel, hr]; rfl
 rw [e]; exact this
theorem Finv.step {st : Fst} (h : Finv st) (f : Fc) : Finv (stepF st f) := by
 unfold stepF
 split
 ·rename_i he
  obtain ⟨_, h2, h3⟩ := putE_zero.1 he
  obtain ⟨d, hd, hG⟩ := h.last
  obtain ⟨new, d', e, n1, n2, hG', hd', hI, _⟩ := put_lawD hG h2 h3
  have hlen := h.len
  refine ⟨by simp [hlen], ?_, ⟨d', ?_, ?_⟩, fun v r hv => ?_, fun x hx => ?_⟩
  ·dsimp only
   rw [e, List.length_append, List.length_append, List.length_singleton]
   have := h.size
   have e2 : (2 * (st.acc.length + 1) + 3) * (st.acc.length + 1) = (2 * st.acc.length + 3) * st.acc.length + (4 * st.acc.length + 5) := by
    simp only [Nat.add_mul, Nat.mul_add]; omega
   omega
  ·dsimp only; rw [List.length_append, List.length_singleton]; omega
  ·rw [lastR_snoc]; exact hG'
  ·dsimp only at hv ⊢
   rcases Nat.lt_or_ge v st.roots.length with hlt | hge
   ·rw [List.getElem?_append_left hlt] at hv
    obtain ⟨a1, ⟨d4, a2⟩, a3⟩ := h.all v r hv
    refine ⟨a1, ⟨d4, by rw [e]; exact a2.app⟩, ?_⟩
    rw [e, allT_app a2.1.lt, List.take_append_of_le_length (by omega)]
    exact a3
   ·rw [List.getElem?_append_right hge] at hv
    have hv0 : v = st.roots.length := by
     have := (List.getElem?_eq_some_iff.1 hv).1
     simp at this; omega
    subst hv0
    rw [Nat.sub_self] at hv
    simp at hv
    subst hv
    refine ⟨by omega, ⟨d', by simpa using hG'⟩, ?_⟩
    rw [Int.toNat_natCast, List.take_of_length_le (by simp; omega)]
    exact hI.perm.trans ((List.Perm.cons f h.lastAll).trans (List.perm_append_singleton f st.acc).symm)
  ·dsimp only at hx
   rcases List.mem_append.1 hx with hx | hx
   ·exact h.ok x hx
   ·rw [List.mem_singleton] at hx; subst hx; exact h2
 ·exact h
theorem fill_inv (l : List Fc) : Finv (fillF l) := by
 have : ∀ (l : List Fc) (st : Fst), Finv st → Finv (l.foldl stepF st) := by
  intro l
  induction l with
  | nil => intro st h; exact h
  | cons f l ih => intro st h; exact ih _ (h.step f)
 exact this l _ Finv.zero
end
section
open Go.RowKit Go.Shelf
attribute [local go_sem] Oper.semAt_some
def AppFPost (R : List Fc → Prop) (w : World) (e : Ending) (w' : World) : Prop := ∃ v xs, e = .returned v ∧ R xs ∧ w'.ownsRow w.heap.size 54 8 v xs.length (xs.flatMap fEnc) ∧ Below w.heap.size w w'
def CApp (Bs : Nat) (v : Value) : Nat → Prop := fun b => b = Bs ∨ v.ownBlock = some b
set_option maxRecDepth 100000 in
set_option maxHeartbeats 2000000 in
theorem appSeqF_any (gf : Nat) (lb : Array Value) (eg : ∀ args w, (callFunc gf args).run Tryz.prog w = .ok (.enter gf args) w) (R : List Fc → Prop) (S : Nat → Prop) (w : World)
  (hseq : SeqG Tryz.prog gf lb (fun x : Fc => #[.agg #[.int .i64 x.key.kind, .int .i64 x.key.subj, .int .i64 x.key.obj, .int .i64 x.val, .int .i64 x.fr, .int .i64 x.to, .int .i64 x.known, .int .i64 x.no]]) R S w) (hS : ∀ b, S b → b < w.heap.size) (hR : ∀ xs, R xs → xs.length ≤ 1000000) :
  Calls Tryz.prog 93 #[.slice none 0 0, .func (.func gf) #[] lb] w (AppFPost R w) := by
 obtain ⟨i0, hi, hz, hs, hbb⟩ := info_parts fInfo
 refine calls_of_wp_marks Tryz.func93 rfl ?_
 simp only [Tryz.ntmps93, List.size_toArray, List.length_cons, List.length_nil, Nat.reduceAdd, Nat.reduceSub, Array.replicate_succ, Array.replicate_zero, List.push_toArray, List.append_toArray, List.nil_append, List.cons_append]
 obtain ⟨W0, hW0⟩ : ∃ W0, w.alloc (.cells #[.slice none 0 0] 28) = W0 := ⟨_, rfl⟩
 have hBW : Below w.heap.size w W0 := by rw [← hW0]; exact (Below.refl _ w).alloc (Nat.le_refl _) _
 have hz0 : W0.heap.size = w.heap.size + 1 := by rw [← hW0]; simp
 have g1 : W0.heap[w.heap.size]? = some (.cells #[.slice none 0 0] 28 (0, 0)) := by rw [← hW0]; exact World.alloc_heap_new _ _
 have HW0 := hidp hW0
 have G1 := hidp g1
 have HSq := hidp (hseq.later fun b hb => hBW.block b (hS b hb))
 have HR := hidp hR
 have HS := hidp hS
 clear hW0 g1 hseq hR hS
 go_wp2_with fail
 rw [HW0.out]
 refine wp_rangeG (gf := gf) (lb := lb) rfl eg HSq.out (CApp w.heap.size (.slice none 0 0)) ?S (fun _ => rfl) ?M
  (fun pre C W => ∃ v, C = CApp w.heap.size v ∧ W.heap[w.heap.size]? = some (.cells #[v] 28 (0, 0)) ∧ W.ownsRow (w.heap.size + 1) 54 8 v pre.length (pre.flatMap fEnc) ∧ Below w.heap.size w W)
  (fun _ _ _ => False)
  ?hI ?hIx ?h0 (fun ll pre x C a' W => ∃ (B5 : Nat) (v : Value), C = CApp w.heap.size v ∧ W.heap[w.heap.size]? = some (.cells #[v] 28 (0, 0)) ∧ W.ownsRow (w.heap.size + 1) 54 8 v pre.length (pre.flatMap fEnc) ∧ Below w.heap.size w W ∧
    B5 ≠ ll ∧ w.heap.size < B5 ∧ W.heap[B5]? = some (.cells #[.int .i64 x.key.kind, .int .i64 x.key.subj, .int .i64 x.key.obj, .int .i64 x.val, .int .i64 x.fr, .int .i64 x.to, .int .i64 x.known, .int .i64 x.no] 54 (0, 0)) ∧
    a' = { tmps := #[.slice none 0 0, .func (.func gf) #[] lb, .pointer (some ⟨w.heap.size, 0, none⟩), undef, .slice none 0 0, .pointer (some ⟨B5, 0, none⟩), .func (.func gf) #[] lb, .agg #[.int .i64 x.key.kind, .int .i64 x.key.subj, .int .i64 x.key.obj, .int .i64 x.val, .int .i64 x.fr, .int .i64 x.to, .int .i64 x.known, .int .i64 x.no], undef, undef, undef, undef, undef], defers := [] })
  ⟨?hAx, ?assign, ?body⟩ ?done ?stop
 case S =>
  intro b hb
  have := HS.out b hb
  refine ⟨by omega, rfl, ?_⟩
  rintro (h | h)
  ·omega
  ·simp [Value.ownBlock] at h
 case M =>
  rintro b (h | h)
  ·omega
  ·simp [Value.ownBlock] at h
 case hI =>
  rintro pre C1 W1 W2 ⟨v, rfl, h2, h3, h4⟩ hk
  have hk' : ∀ b, b < W1.heap.size → CApp w.heap.size v b → W2.heap[b]? = W1.heap[b]? := fun b hb hc => hk.block b hb fun h => h.2 hc
  exact ⟨v, rfl, (hk' _ (lt_of_heap h2) (.inl rfl)).trans h2, own_keepB h3 fun g hg => hk' g (h3.lt g hg).2 (.inr hg), h4.trans (hk.toBelow h4.size (fun b hb h => by omega))⟩
 case hIx => rintro cd C1 W1 W2 h; exact h.elim
 case h0 => exact ⟨_, rfl, G1.out, World.ownsRow_nil _ _ _ _, hBW⟩
 case hAx =>
  rintro ll pre x C1 a' W2 W3 hll hnl ⟨B5, v, rfl, h2, h3, h4, h5, h6, h7, rfl⟩ _ hk
  have hk' : ∀ b, b < W2.heap.size → CApp w.heap.size v b → W3.heap[b]? = W2.heap[b]? := fun b hb hc => hk.block b hb fun h => hnl (h ▸ hc)
  exact ⟨B5, v, rfl, (hk' _ (lt_of_heap h2) (.inl rfl)).trans h2, own_keepB h3 fun g hg => hk' g (h3.lt g hg).2 (.inr hg), h4.trans (hk.toBelow h4.size (fun b hb h => by omega)), h5, h6, (hk.block _ (lt_of_heap h7) h5).trans h7, rfl⟩
 case assign =>
  rintro ll m pre x suf C1 W1 K hll hlt hnl _ ⟨v, rfl, h2, h3, h4⟩ _ hK
  have l2 := lt_of_heap h2
  have H3 := hidp h3
  clear h3
  gi_wp2
  exact hK _ _ ((Kept.refl _ _).alloc _) ⟨W1.heap.size, v, rfl, (Below.heap_alloc _ _ _ l2).trans h2, H3.out.alloc _, h4.alloc h4.size _, by omega, by omega, World.alloc_heap_new _ _, rfl⟩
 case body =>
  rintro ll m pre x suf C1 a' W2 hll hnl hxs ⟨B5, v, rfl, h2, h3, h4, h5, h6, h7, rfl⟩ _ hCl
  have hlen := HR.out _ hxs
  simp only [List.length_append, List.length_cons] at hlen
  obtain ⟨v', w5, hrun, hown', hg, hat⟩ := run_append_one (P := Tryz.prog) (ty := 28) (l := pre) (enc := fEnc) (w := W2) (base := w.heap.size + 1) Tryz.underlying28 hi hz hs hbb rfl fEnc_len (by decide) fEnc_one h3 x (by omega) (by omega) (by have := h4.size; have := lt_of_heap h2; omega)
  obtain ⟨A5, c5, rfl, _⟩ := own_rows fEnc_len (by decide) hown'
  have hvB : ∀ g, v.ownBlock = some g → w.heap.size + 1 ≤ g ∧ g < W2.heap.size := fun g hg => h3.lt g hg
  have l2 := lt_of_heap h2
  have l7 := lt_of_heap h7
  have e5 : w5.heap[w.heap.size]? = some (.cells #[v] 28 (0, 0)) := (hg.block _ (by simp; omega) (fun e => by have := hvB _ e.symm; omega)).trans ((Below.heap_alloc _ _ _ l2).trans h2)
  have hb5 : Below w.heap.size w w5 := (h4.alloc h4.size _).grown hg (by have := h4.size; simp; omega) (fun g e => by have := hvB _ e; omega)
  have hk5 : Kept (CApp w.heap.size v) W2 w5 := ((Kept.refl _ _).alloc _).grown hg fun g e => .inl (.inr e)
  have hz5 : W2.heap.size + 1 ≤ w5.heap.size := by have := hg.size; simpa using this
  have c2 := cell_of_heap (o := 0) h2
  have x0 := cell_of_heap (o := 0) h7
  have x1 := cell_of_heap (o := 1) h7
  have x2 := cell_of_heap (o := 2) h7
  have x3 := cell_of_heap (o := 3) h7
  have x4 := cell_of_heap (o := 4) h7
  have x5 := cell_of_heap (o := 5) h7
  have x6 := cell_of_heap (o := 6) h7
  have x7 := cell_of_heap (o := 7) h7
  have s5 := frozen_of_heap (o := 0) e5
  simp only [List.getElem?_toArray, List.getElem?_cons_zero, List.getElem?_cons_succ] at c2 x0 x1 x2 x3 x4 x5 x6 x7
  have l5 := lt_of_heap e5
  have hd5 : w5.cell? ⟨w.heap.size, 0, none⟩ = some v := by rw [cell_of_heap e5]; rfl
  have HR0 := hidp hrun
  have HO' := hidp hown'
  have E5 := hidp e5
  have HVB := hidp hvB
  have HAT := hidp hat
  have HZ5 := hidp hz5
  clear h2 h3 h7 hrun hown' e5 hvB hat hg hxs hCl hz5
  gi_wp2_with (gi_at_builtin; refine wpListIn_append_known rfl (.tmp 8) (.tmp 10) 28 rfl rfl rfl HR0.out ?_)
  refine ⟨CApp w.heap.size (.slice A5 (pre.length + 1) c5), hk5.setCell (.inl (.inl rfl)) _, ?_, _, rfl, heap_set1 E5.out _, ?_, hb5.setCell (Nat.le_refl _) _⟩
  ·have hlo := HO'.out.lt
   have hz := HZ5.out
   rintro b (h | h)
   ·subst h
    exact ⟨by simpa [World.setCell] using l5, .inl (.inl rfl)⟩
   ·refine ⟨by simpa [World.setCell] using (hlo b h).2, ?_⟩
    rcases HAT.out with h' | h'
    ·exact .inl (.inr (by rw [← h', h]))
    ·rw [h'] at h
     injection h with h
     exact .inr (by omega)
  ·rw [List.length_append]
   exact own_keepB HO'.out fun g hg => heap_set_ne rfl (by have := (HO'.out.lt g hg).1; omega) _ _
 case done =>
  rintro xs D C' W hRx hD hlt hnD ⟨v, rfl, h2, h3, h4⟩ hk
  obtain ⟨A5, c5, rfl, _⟩ := own_rows fEnc_len (by decide) h3
  have c2 := cell_of_heap (o := 0) h2
  simp only [List.getElem?_toArray, List.getElem?_cons_zero] at c2
  have HK := hidp hk
  have H3 := hidp h3
  have l2 := lt_of_heap h2
  have hkD : Kept (fun b => b = D) W (W.putObj D (.deferred none)) := (Kept.refl (fun b => b = D) W).putObj (r := D) (.inl rfl) (.deferred none)
  have hBD := h4.trans (hkD.toBelow h4.size (by omega))
  have hOD := own_keepB h3 fun g hg => hkD.block g (h3.lt g hg).2 fun e => hnD (e ▸ .inr hg)
  have HOD := hidp (own_monoB hOD (Nat.le_succ _))
  have HRx := hidp hRx
  clear hk h2 h3 hnD hOD hRx
  go_wp2
  refine leave_mark (.inl rfl) (D := D) HK.out rfl (v := .slice A5 xs.length c5) ?_ ⟨_, xs, rfl, HRx.out, HOD.out, hBD⟩
  simp [results, Tryz.f93, go_sem]
 case stop => rintro D cd C' W hD hlt hnD h; exact h.elim
set_option maxHeartbeats 400000 in
theorem collectF_any (gf : Nat) (lb : Array Value) (eg : ∀ args w, (callFunc gf args).run Tryz.prog w = .ok (.enter gf args) w) (R : List Fc → Prop) (S : Nat → Prop) (w : World)
  (hseq : SeqG Tryz.prog gf lb (fun x : Fc => #[.agg #[.int .i64 x.key.kind, .int .i64 x.key.subj, .int .i64 x.key.obj, .int .i64 x.val, .int .i64 x.fr, .int .i64 x.to, .int .i64 x.known, .int .i64 x.no]]) R S w) (hS : ∀ b, S b → b < w.heap.size) (hR : ∀ xs, R xs → xs.length ≤ 1000000) :
  Calls Tryz.prog 53 #[.func (.func gf) #[] lb] w (AppFPost R w) := by
 go_enter Tryz.func53, Tryz.ntmps53
 go_wp2_with fail
 refine (appSeqF_any gf lb eg R S w hseq hS hR).mono ?_
 rintro e w1 ⟨v, xs, rfl, h1, h2, h3⟩
 go_wp2_with fail
 go_ret
 exact ⟨v, xs, rfl, h1, h2, h3⟩
end
section
open Go.RowKit
def verOk (s : Ps) (v : Int) : Bool := checkP (psV s) s.roots && (decide (0 ≤ v) && decide (v < s.roots.length))
def verR (s : Ps) (v : Int) : Int := if verOk s v = true then s.roots.getD v.toNat 0 else 0
def allV (s : Ps) (v : Int) : List Fc := if verOk s v = true then allT (psV s) (verR s v).toNat else []
theorem verOk_page {s : Ps} {v : Int} (h : verOk s v = true) : 0 ≤ verR s v ∧ verR s v < (psV s).length ∧ OkT (psV s) (verR s v).toNat := by
 have h0 := h
 unfold verOk checkP at h
 simp only [Bool.and_eq_true, decide_eq_true_eq, List.all_eq_true] at h
 have hv : s.roots[v.toNat]? = some (s.roots.getD v.toNat 0) := by rw [List.getD_eq_getElem?_getD, List.getElem?_eq_getElem (by omega)]; rfl
 have hr := h.1.2 _ (List.mem_of_getElem? hv)
 unfold rootP at hr
 simp only [Bool.and_eq_true, decide_eq_true_eq] at hr
 have he : verR s v = s.roots.getD v.toNat 0 := by unfold verR; rw [if_pos h0]
 rw [he]
 exact ⟨hr.1.1, hr.1.2, true, [], hr.2⟩
set_option maxRecDepth 100000 in
set_option maxHeartbeats 4000000 in
theorem pgroot_any (s : Ps) (v : Int) (w : World) (hps : PsIn s w w.heap.size) (hsm : ∀ g ∈ s.gs, g.fn ≤ 1000000 ∧ g.kn ≤ 1000000) :
  Calls Tryz.prog 52 #[.agg #[.slice s.pA s.pn s.pc, .slice s.rA s.rn s.rc], .int .i64 v] w fun e w' => e = .returned (.tuple #[.int .i64 (verR s v), .int .i64 (errP (verOk s v))]) ∧ Below w.heap.size w w' := by
 have HPs : Hid (∀ W, Below w.heap.size w W → PsIn s W W.heap.size) := fun W h => hps.later h
 have HSm := hidp hsm
 have hrc := hps.roots.2.1
 have hrcc := hps.roots.2.2.1
 have HRn : Hid (s.rn = s.roots.length) := hps.roots.1
 obtain ⟨W0, hW0⟩ : ∃ W0, w.alloc (.cells #[.slice s.pA s.pn s.pc, .slice s.rA s.rn s.rc] 45) = W0 := ⟨_, rfl⟩
 have HB0 : Hid (Below w.heap.size w W0) := hW0 ▸ (Below.refl _ w).alloc (Nat.le_refl _) _
 have HGp : Hid (W0.heap[w.heap.size]? = some (.cells #[.slice s.pA s.pn s.pc, .slice s.rA s.rn s.rc] 45 (0, 0))) := hW0 ▸ World.alloc_heap_new _ _
 have HW0 := hidp hW0
 clear hW0 hps hsm
 go_enter Tryz.func52, Tryz.ntmps52
 have p0 := cell_of_heap (o := 0) HGp.out
 have p1 := cell_of_heap (o := 1) HGp.out
 have lp := lt_of_heap HGp.out
 simp only [List.getElem?_toArray, List.getElem?_cons_zero, List.getElem?_cons_succ] at p0 p1
 go_wp2_with fail
 try rw [HW0.out]
 refine (pgCheck_any s _ (HPs.out _ HB0.out) HSm.out).mono ?_
 rintro e w1 ⟨rfl, hb1⟩
 have HB1 := hidp (HB0.out.trans (hb1.mono HB0.out.size))
 have HGp1 := hidp ((hb1.block _ (lt_of_heap HGp.out)).trans HGp.out)
 clear p0 p1 lp hb1
 have p0 := cell_of_heap (o := 0) HGp1.out
 have p1 := cell_of_heap (o := 1) HGp1.out
 have lp := lt_of_heap HGp1.out
 simp only [List.getElem?_toArray, List.getElem?_cons_zero, List.getElem?_cons_succ] at p0 p1
 obtain ⟨ck, hck⟩ : ∃ b, checkP (psV s) s.roots = b := ⟨_, rfl⟩
 rw [hck]
 have HCk := hidp hck
 clear hck
 cases ck
 ·have HV : Hid (verOk s v = false) := by show _ = _; unfold verOk; rw [HCk.out]; rfl
  have HR : Hid (verR s v = 0) := by show _ = _; unfold verR; rw [HV.out]; rfl
  simp only [errP, Bool.false_eq_true, if_false]
  go_wp2_with fail
  go_ret2
  exact ⟨by rw [HR.out, HV.out]; rfl, HB1.out⟩
 simp only [errP, if_true]
 obtain ⟨z0, hz0⟩ : ∃ b, decide (v < 0) = b := ⟨_, rfl⟩
 obtain ⟨z1, hz1⟩ : ∃ b, decide (v ≥ (s.rn : Int)) = b := ⟨_, rfl⟩
 have HZ0 := hidp hz0
 have HZ1 := hidp hz1
 have HV : Hid (verOk s v = (!z0 && !z1)) := by
  show _ = _
  unfold verOk
  rw [HCk.out, ← HRn.out, ← HZ0.out, ← HZ1.out, Bool.eq_iff_iff]
  simp
 have HNo : Hid (verOk s v = false → verR s v = 0) := fun h => by unfold verR; rw [h]; rfl
 cases z0
 rotate_left
 ·go_wp2_with fail
  go_ret2
  exact ⟨by rw [HNo.out (by rw [HV.out]; rfl), HV.out]; rfl, HB1.out⟩
 cases z1
 rotate_left
 ·go_wp2_with fail
  go_ret2
  exact ⟨by rw [HNo.out (by rw [HV.out]; rfl), HV.out]; rfl, HB1.out⟩
 have hv : 0 ≤ v ∧ v < s.rn := ⟨by have := of_decide_eq_false HZ0.out; omega, by have := of_decide_eq_false HZ1.out; omega⟩
 obtain ⟨vn, rfl⟩ : ∃ n : Nat, v = n := ⟨v.toNat, by omega⟩
 have hvn : vn < s.rn := by omega
 obtain ⟨b, off, r, hA, _, hr, c0⟩ := iSl.get (HPs.out _ HB1.out).roots hvn
 have hix := fun W => ix_intsP (c := s.rc) hA hvn W
 have lb := lt_of_cell c0
 have HR : Hid (verR s vn = r) := by
  show _ = _
  unfold verR
  rw [if_pos (by rw [HV.out]; rfl), Int.toNat_natCast, List.getD_eq_getElem?_getD, hr]; rfl
 clear hr hA
 go_wp2_with fail
 go_ret2
 exact ⟨by rw [HR.out, HV.out]; rfl, HB1.out⟩
theorem allColl_any (s : Ps) (v : Int) (w : World) (hsm : ∀ g ∈ s.gs, g.fn ≤ 1000000 ∧ g.kn ≤ 1000000) (hv : verOk s v = true) (hlen : (allV s v).length ≤ 1000000) (P A : Nat)
  (hP : w.heap[P]? = some (.cells #[.slice s.pA s.pn s.pc, .slice s.rA s.rn s.rc] 45 (0, 0))) (hA : w.heap[A]? = some (.cells #[.int .i64 (verR s v)] 3 (0, 0))) (n₀ : Nat) (hps0 : PsIn s w n₀) (hnP : n₀ ≤ P) (hnA : n₀ ≤ A) :
  Calls Tryz.prog 53 #[.func (.func 85) #[] #[.pointer (some ⟨P, 0, none⟩), .pointer (some ⟨A, 0, none⟩)]] w (AppFPost (fun xs => xs = allV s v) w) := by
 have h := verOk_page hv
 have he : allV s v = allT (psV s) (verR s v).toNat := by unfold allV; rw [if_pos hv]
 have hA' : w.heap[A]? = some (.cells #[.int .i64 ((verR s v).toNat : Nat)] 3 (0, 0)) := by rw [Int.toNat_of_nonneg h.1]; exact hA
 have hseq := all1_seq s n₀ ((verR s v).toNat + 1) (verR s v).toNat (by omega) h.2.2 P A w hnP hnA hP hA' hps0 hsm
 rw [← he] at hseq
 exact collectF_any 85 _ (enters_of Tryz.func85 (by kernel_rfl) rfl) (fun xs => xs = allV s v) _ w hseq.toC.toG (fun b hb => by
  rcases hb with hb | rfl | rfl
  ·have := lt_of_heap hP; omega
  ·exact lt_of_heap hP
  ·exact lt_of_heap hA) (fun xs hx => by rw [hx]; exact hlen)
set_option maxRecDepth 100000 in
set_option maxHeartbeats 4000000 in
theorem pgAll_any (s : Ps) (v : Int) (w : World) (hps : PsIn s w w.heap.size) (hsm : ∀ g ∈ s.gs, g.fn ≤ 1000000 ∧ g.kn ≤ 1000000) (hlen : (allV s v).length ≤ 1000000) :
  Calls Tryz.prog 21 #[.agg #[.slice s.pA s.pn s.pc, .slice s.rA s.rn s.rc], .int .i64 v] w fun e w' => ∃ A n c, e = .returned (.tuple #[.slice A n c, .int .i64 (errP (verOk s v))]) ∧ fSl w' w'.heap.size A n c (allV s v) ∧ Below w.heap.size w w' := by
 have HLen := hidp hlen
 have HPs : Hid (∀ W, Below w.heap.size w W → PsIn s W W.heap.size) := fun W h => hps.later h
 have HSm := hidp hsm
 have hrc := hps.roots.2.1
 have hrcc := hps.roots.2.2.1
 have HRn : Hid (s.rn = s.roots.length) := hps.roots.1
 obtain ⟨W0, hW0⟩ : ∃ W0, w.alloc (.cells #[.slice s.pA s.pn s.pc, .slice s.rA s.rn s.rc] 45) = W0 := ⟨_, rfl⟩
 have HB0 : Hid (Below w.heap.size w W0) := hW0 ▸ (Below.refl _ w).alloc (Nat.le_refl _) _
 have HGp : Hid (W0.heap[w.heap.size]? = some (.cells #[.slice s.pA s.pn s.pc, .slice s.rA s.rn s.rc] 45 (0, 0))) := hW0 ▸ World.alloc_heap_new _ _
 have HW0 := hidp hW0
 clear hW0 hps hsm
 go_enter Tryz.func21, Tryz.ntmps21
 have p0 := cell_of_heap (o := 0) HGp.out
 have p1 := cell_of_heap (o := 1) HGp.out
 have lp := lt_of_heap HGp.out
 simp only [List.getElem?_toArray, List.getElem?_cons_zero, List.getElem?_cons_succ] at p0 p1
 go_wp2_with fail
 try rw [HW0.out]
 refine (pgroot_any s v _ (HPs.out _ HB0.out) HSm.out).mono ?_
 rintro e w1 ⟨rfl, hb1⟩
 have HB1 := hidp (HB0.out.trans (hb1.mono HB0.out.size))
 have HGp1 := hidp ((hb1.block _ (lt_of_heap HGp.out)).trans HGp.out)
 clear p0 p1 lp hb1
 have p0 := cell_of_heap (o := 0) HGp1.out
 have p1 := cell_of_heap (o := 1) HGp1.out
 have lp := lt_of_heap HGp1.out
 simp only [List.getElem?_toArray, List.getElem?_cons_zero, List.getElem?_cons_succ] at p0 p1
 obtain ⟨ok, hok⟩ : ∃ b, verOk s v = b := ⟨_, rfl⟩
 rw [hok]
 have HOk := hidp hok
 clear hok
 cases ok
 ·have HE : Hid (allV s v = []) := by show _ = _; unfold allV; rw [HOk.out]; rfl
  simp only [errP, Bool.false_eq_true, if_false]
  go_wp2_with fail
  go_ret2
  exact ⟨none, 0, 0, by rw [HOk.out]; rfl, by rw [HE.out]; exact Rows.nil (Nat.zero_le _), HB1.out⟩
 simp only [errP, if_true]
 go_wp2_with fail
 refine (pgall_any s (verR s v) w1).mono ?_
 rintro e w2 ⟨rfl, hP, hA, hb2⟩
 have HB2 := hidp (HB1.out.trans (hb2.mono HB1.out.size))
 have HCo := hidp (allColl_any s v w2 HSm.out HOk.out HLen.out _ _ hP hA w1.heap.size ((HPs.out _ HB1.out).keep (Nat.le_refl _) hb2.block) (Nat.le_refl _) (by omega))
 clear p0 p1 lp hb2 hP hA
 go_wp2_with fail
 refine HCo.out.mono ?_
 rintro e w3 ⟨v3, xs, rfl, rfl, ho, hb3⟩
 obtain ⟨A3, c3, rfl, hr3⟩ := own_rows fEnc_len (by decide) ho
 have HR3 := hidp hr3
 have HB3 := hidp (HB2.out.trans (hb3.mono HB2.out.size))
 clear ho hr3 hb3
 go_wp2_with fail
 go_ret2
 exact ⟨A3, (allV s v).length, c3, by rw [HOk.out]; rfl, HR3.out, HB3.out⟩
end
section
open Go.RowKit Go.Shelf
theorem dom_sub {x l : List Fc} (h : ∀ f ∈ x, f ∈ l) (k : Int) (hk : k ∈ domR x) : k ∈ domR l := by
 rw [domR_mem] at hk ⊢
 unfold DomOf at hk ⊢
 obtain ⟨h1, f, hf, h2⟩ := hk
 exact ⟨h1, f, h f hf, h2⟩
theorem rows_same {q : Qu} {x m : List Fc} (hT : TotF x) (hm : ∀ f, f ∈ x ↔ f ∈ m) : rowsJ q x = rowsJ q m := by
 have hd : domR x = domR m := str_ext linJ (domR_str x) (domR_str m) fun k => ⟨dom_sub (fun f hf => (hm f).1 hf) k, dom_sub (fun f hf => (hm f).2 hf) k⟩
 have h1 : cndJ x = cndJ m := by
  funext vs c
  cases c with
  | atom a => show atomJ x vs a = atomJ m vs a; unfold atomJ; rw [atF_perm hT hm]
  | test t => rfl
 have h3 : ∀ (D : List Int) (cs : Nat → List Cnd) (n : Nat) (vs : List Int), fulF x D cs n vs = fulF m D cs n vs := by
  intro D cs n
  induction n with
  | zero => intro vs; unfold fulF; rw [h1]
  | succ n ih => intro vs; unfold fulF; rw [h1]; simp only [ih]
 unfold rowsJ fulJ
 rw [hd, h3]
theorem nodup_sub_lenQ : ∀ (l m : List Int), l.Nodup → (∀ x ∈ l, x ∈ m) → l.length ≤ m.length
  | [], _, _, _ => Nat.zero_le _
  | a :: l, m, hd, h => by
    obtain ⟨h1, h2⟩ := List.nodup_cons.1 hd
    have hm := h a (by simp)
    have ih := nodup_sub_lenQ l (m.erase a) h2 fun x hx => (List.mem_erase_of_ne (fun e : x = a => h1 (by rw [← e]; exact hx))).2 (h x (by simp [hx]))
    have h3 := List.length_erase_of_mem hm
    have h4 := List.length_pos_of_mem hm
    rw [List.length_cons]; omega
theorem str_lenQ {l m : List Int} (hl : Str ltJ l) (h : ∀ x ∈ l, x ∈ m) : l.length ≤ m.length :=
 nodup_sub_lenQ l m (hl.imp fun {a b} h e => by subst e; rw [linJ.irr] at h; cases h) h
theorem dom_less {x l : List Fc} (h : ∀ f ∈ x, f ∈ l) : (domR x).length ≤ (domR l).length := str_lenQ (domR_str x) (dom_sub h)
theorem ful_less {q : Qu} {x l : List Fc} (hp : (domR l).length ^ q.names.length ≤ 4096) (h : ∀ f ∈ x, f ∈ l) : (fulJ q x).length ≤ 65535 :=
 few_ful (Nat.le_trans (Nat.pow_le_pow_left (dom_less h) _) hp) rfl
structure JgInv (l : List Fc) (j : Nat) (x : List Fc) : Prop where
 acc : (fillF x).acc = x
 check : checkF x = 0
 mem : ∀ f ∈ x, f ∈ l
 len : x.length ≤ j
theorem JgInv.nil (l : List Fc) : JgInv l 0 [] := ⟨rfl, rfl, fun f h => (by cases h), Nat.le_refl _⟩
theorem JgInv.pass {l x : List Fc} {j : Nat} (h : JgInv l j x) : JgInv l (j + 1) x := ⟨h.acc, h.check, h.mem, Nat.le_succ_of_le h.len⟩
theorem fill_put {x : List Fc} {f : Fc} (he : putE (fillF x).ps (fillF x).roots f = 0) : fillF (x ++ [f]) = ⟨(putW (fillF x).ps (lastR (fillF x).roots) f).1, (fillF x).roots ++ [((putW (fillF x).ps (lastR (fillF x).roots) f).2 : Int)], (fillF x).acc ++ [f]⟩ := by
 rw [fillF_snoc]
 unfold stepF
 rw [if_pos he]
theorem JgInv.put {l x : List Fc} {j : Nat} {f : Fc} (h : JgInv l j x) (he : putE (fillF x).ps (fillF x).roots f = 0) (hc : checkF (x ++ [f]) = 0) (hf : f ∈ l) : JgInv l (j + 1) (x ++ [f]) := by
 refine ⟨?_, hc, fun g hg => ?_, by have := h.len; simp; omega⟩
 ·rw [fill_put he, h.acc]
 ·rcases List.mem_append.1 hg with hg | hg
  ·exact h.mem g hg
  ·obtain rfl := List.mem_singleton.1 hg; exact hf
theorem fill_last {s : Ps} {x : List Fc} (ha : (fillF x).acc = x) (h1 : psV s = (fillF x).ps) (h2 : s.roots = (fillF x).roots) : s.roots.length = x.length + 1 ∧ verOk s (x.length : Nat) = true ∧ (allV s (x.length : Nat)).Perm x := by
 have hi := fill_inv x
 have hl := hi.len
 rw [ha] at hl
 have hr : s.roots.length = x.length + 1 := by rw [h2]; exact hl
 have hv : verOk s (x.length : Nat) = true := by
  unfold verOk
  rw [h1, h2, hi.check, decide_eq_true (by omega), decide_eq_true (by omega)]
  rfl
 refine ⟨hr, hv, ?_⟩
 obtain ⟨r, hr1⟩ : ∃ r, (fillF x).roots[x.length]? = some r := ⟨_, List.getElem?_eq_getElem (by omega)⟩
 have h3 := (hi.all _ r hr1).2.2
 rw [ha, List.take_of_length_le (Nat.le_refl _)] at h3
 unfold allV verR
 rw [if_pos hv, if_pos hv, h1, h2, Int.toNat_natCast, List.getD_eq_getElem?_getD, hr1]
 exact h3
end
section
open Go.RowKit Go.Shelf Go.Sort
def gradeF : Fc := ⟨⟨5, 4, 17⟩, 6, 2, 3, 10, 0⟩
def askAm (known : Int) : Am := ⟨5, ⟨true, 0⟩, ⟨false, 17⟩, ⟨true, 1⟩, 2, known⟩
set_option maxRecDepth 100000 in
set_option maxHeartbeats 1000000 in
theorem graded_any (w : World) : Calls Tryz.prog 22 #[] w fun e w' => ∃ A c, e = .returned (.slice A 1 c) ∧ fSl w' w'.heap.size A 1 c [gradeF] ∧ Below w.heap.size w w' := by
 go_enter Tryz.func22, Tryz.ntmps22
 go_wp2_with fail
 go_ret
 exact ⟨_, 1, rfl, rows_of_heap (l := [gradeF]) fEnc_len (World.alloc_heap_new _ _) (Nat.le_refl _) (by decide) rfl, (Below.refl _ _).alloc (Nat.le_refl _) _⟩
structure AskedQ (y : Qu) (known : Int) : Prop where
 names : y.names = [⟨#[115]⟩, ⟨#[103]⟩]
 shows : y.shows = [0, 1]
 atoms : y.atoms = [askAm known]
 tests : y.tests = []
set_option maxRecDepth 100000 in
set_option maxHeartbeats 1000000 in
theorem asked_any (known : Int) (w : World) : Calls Tryz.prog 23 #[.int .i64 known] w fun e w' => ∃ y : Qu, e = .returned (.agg #[.slice y.nA y.nn y.nc, .slice y.sA y.sn y.sc, .slice y.aA y.an y.ac, .slice y.tA y.tn y.tc]) ∧ QuIn y w' w'.heap.size ∧ AskedQ y known ∧ Below w.heap.size w w' := by
 obtain ⟨V0, hV0⟩ : ∃ V, w.alloc (.cells #[.slice (some ⟨w.heap.size + 1, 0, none⟩) 2 2, .slice (some ⟨w.heap.size + 1 + 1, 0, none⟩) 2 2, .slice (some ⟨w.heap.size + 1 + 1 + 1, 0, none⟩) 1 1, .slice none 0 0] 27) = V := ⟨_, rfl⟩
 obtain ⟨V1, hV1⟩ : ∃ V, V0.alloc (.cells #[.string ⟨#[115]⟩, .string ⟨#[103]⟩] 9) = V := ⟨_, rfl⟩
 obtain ⟨V2, hV2⟩ : ∃ V, V1.alloc (.cells #[.int .i64 0, .int .i64 1] 3) = V := ⟨_, rfl⟩
 obtain ⟨V3, hV3⟩ : ∃ V, V2.alloc (.cells #[.int .i64 5, .bool true, .int .i64 0, .bool false, .int .i64 17, .bool true, .int .i64 1, .int .i64 2, .int .i64 known] 64) = V := ⟨_, rfl⟩
 have y0 : V0.heap.size = w.heap.size + 1 := by rw [← hV0]; simp
 have y1 : V1.heap.size = w.heap.size + 2 := by rw [← hV1]; simp; omega
 have y2 : V2.heap.size = w.heap.size + 3 := by rw [← hV2]; simp; omega
 have y3 : V3.heap.size = w.heap.size + 4 := by rw [← hV3]; simp; omega
 have p0 : V0.heap[w.heap.size]? = some (.cells #[.slice (some ⟨w.heap.size + 1, 0, none⟩) 2 2, .slice (some ⟨w.heap.size + 1 + 1, 0, none⟩) 2 2, .slice (some ⟨w.heap.size + 1 + 1 + 1, 0, none⟩) 1 1, .slice none 0 0] 27 (0, 0)) := by rw [← hV0]; exact World.alloc_heap_new _ _
 have p1 : V1.heap[w.heap.size + 1]? = some (.cells #[.string ⟨#[115]⟩, .string ⟨#[103]⟩] 9 (0, 0)) := by rw [← hV1, ← y0]; exact World.alloc_heap_new _ _
 have p2 : V2.heap[w.heap.size + 1 + 1]? = some (.cells #[.int .i64 0, .int .i64 1] 3 (0, 0)) := by rw [← hV2, show w.heap.size + 1 + 1 = V1.heap.size by omega]; exact World.alloc_heap_new _ _
 have p3 : V3.heap[w.heap.size + 1 + 1 + 1]? = some (.cells #[.int .i64 5, .bool true, .int .i64 0, .bool false, .int .i64 17, .bool true, .int .i64 1, .int .i64 2, .int .i64 known] 64 (0, 0)) := by rw [← hV3, show w.heap.size + 1 + 1 + 1 = V2.heap.size by omega]; exact World.alloc_heap_new _ _
 have n1 : Below V0.heap.size V0 V1 := by rw [← hV1]; exact (Below.refl _ _).alloc (Nat.le_refl _) _
 have n2 : Below V1.heap.size V1 V2 := by rw [← hV2]; exact (Below.refl _ _).alloc (Nat.le_refl _) _
 have n3 : Below V2.heap.size V2 V3 := by rw [← hV3]; exact (Below.refl _ _).alloc (Nat.le_refl _) _
 have n13 : Below V1.heap.size V1 V3 := n2.trans (n3.mono n2.size)
 have n03 : Below V0.heap.size V0 V3 := n1.trans (n13.mono n1.size)
 have nw : Below w.heap.size w V3 := by
  have : Below w.heap.size w V0 := by rw [← hV0]; exact (Below.refl _ _).alloc (Nat.le_refl _) _
  exact this.trans (n03.mono this.size)
 have r1 : nSl V3 V3.heap.size (some ⟨w.heap.size + 1, 0, none⟩) 2 2 [⟨#[115]⟩, ⟨#[103]⟩] := rows_of_heap (l := [⟨#[115]⟩, ⟨#[103]⟩]) sEnc_len ((n13.block _ (by omega)).trans p1) (Nat.le_refl _) (by decide) rfl
 have r2 : iSl V3 V3.heap.size (some ⟨w.heap.size + 1 + 1, 0, none⟩) 2 2 [0, 1] := rows_of_heap (l := [(0 : Int), 1]) iEnc_len ((n3.block _ (by omega)).trans p2) (Nat.le_refl _) (by decide) rfl
 have r3 : amSl V3 V3.heap.size (some ⟨w.heap.size + 1 + 1 + 1, 0, none⟩) 1 1 [askAm known] := rows_of_heap (l := [askAm known]) amEnc_len p3 (Nat.le_refl _) (by decide) rfl
 have q0 := (n03.block _ (by omega)).trans p0
 have x0 := cell_of_heap (o := 0) q0
 have x1 := cell_of_heap (o := 1) q0
 have x2 := cell_of_heap (o := 2) q0
 have x3 := cell_of_heap (o := 3) q0
 simp only [List.getElem?_toArray, List.getElem?_cons_zero, List.getElem?_cons_succ] at x0 x1 x2 x3
 have HW : Hid ((((w.alloc (.cells #[.slice (some ⟨w.heap.size + 1, 0, none⟩) 2 2, .slice (some ⟨w.heap.size + 1 + 1, 0, none⟩) 2 2, .slice (some ⟨w.heap.size + 1 + 1 + 1, 0, none⟩) 1 1, .slice none 0 0] 27)).alloc (.cells #[.string ⟨#[115]⟩, .string ⟨#[103]⟩] 9)).alloc (.cells #[.int .i64 0, .int .i64 1] 3)).alloc (.cells #[.int .i64 5, .bool true, .int .i64 0, .bool false, .int .i64 17, .bool true, .int .i64 1, .int .i64 2, .int .i64 known] 64) = V3) := by show _ = _; rw [hV0, hV1, hV2, hV3]
 have HP : Hid (∃ y : Qu, Ending.returned (.agg #[.slice (some ⟨w.heap.size + 1, 0, none⟩) 2 2, .slice (some ⟨w.heap.size + 1 + 1, 0, none⟩) 2 2, .slice (some ⟨w.heap.size + 1 + 1 + 1, 0, none⟩) 1 1, .slice none 0 0]) = .returned (.agg #[.slice y.nA y.nn y.nc, .slice y.sA y.sn y.sc, .slice y.aA y.an y.ac, .slice y.tA y.tn y.tc]) ∧ QuIn y V3 V3.heap.size ∧ AskedQ y known ∧ Below w.heap.size w V3) :=
  ⟨⟨some ⟨w.heap.size + 1, 0, none⟩, 2, 2, [⟨#[115]⟩, ⟨#[103]⟩], some ⟨w.heap.size + 1 + 1, 0, none⟩, 2, 2, [0, 1], some ⟨w.heap.size + 1 + 1 + 1, 0, none⟩, 1, 1, [askAm known], none, 0, 0, []⟩, rfl, ⟨r1, r2, r3, Rows.nil (Nat.zero_le _)⟩, ⟨rfl, rfl, rfl, rfl⟩, nw⟩
 clear hV0 hV1 hV2 hV3 y0 y1 y2 y3 p0 p1 p2 p3 n1 n2 n3 n13 n03 nw r1 r2 r3 q0
 go_enter Tryz.func23, Tryz.ntmps23
 go_wp2_with fail
 rw [HW.out]
 refine bodyPost_ret (v := .agg #[.slice (some ⟨w.heap.size + 1, 0, none⟩) 2 2, .slice (some ⟨w.heap.size + 1 + 1, 0, none⟩) 2 2, .slice (some ⟨w.heap.size + 1 + 1 + 1, 0, none⟩) 1 1, .slice none 0 0]) ?_ rfl HP.out
 simp [results, Tryz.f23, go_sem, x0, x1, x2, x3]
set_option maxRecDepth 100000 in
set_option maxHeartbeats 1000000 in
theorem count_any (q : Qu) (FA : Option Addr) (fn fc : Nat) (l : List Fc) (w : World) (hq : QuIn q w w.heap.size) (hw : WordsAt w) (hl : fSl w w.heap.size FA fn fc l) (hfn : fn ≤ 100000) (hsz : checkJ wdJ q = true → (fulJ q l).length ≤ 65535) :
  Calls Tryz.prog 15 #[.agg #[.slice q.nA q.nn q.nc, .slice q.sA q.sn q.sc, .slice q.aA q.an q.ac, .slice q.tA q.tn q.tc], .slice FA fn fc] w fun e w' => e = .returned (.tuple #[.int .i64 (rowsV q l).length, .int .i64 (rowsE q)]) ∧ Below w.heap.size w w' := by
 obtain ⟨W0, hW0⟩ : ∃ W0, w.alloc (.cells #[.slice q.nA q.nn q.nc, .slice q.sA q.sn q.sc, .slice q.aA q.an q.ac, .slice q.tA q.tn q.tc] 27) = W0 := ⟨_, rfl⟩
 have hBW : Below w.heap.size w W0 := hW0 ▸ (Below.refl _ w).alloc (Nat.le_refl _) _
 have hb0 : QBox q w.heap.size W0 := ⟨hW0 ▸ World.alloc_heap_new _ _⟩
 have hR := rows_any q FA fn fc l W0 (hq.keep hBW.size hBW.block) (hw.below hBW) (hl.keep (Rep.flat_stable _) hBW.size hBW.block) hfn hsz
 have HR := hidp hR
 have HBW := hidp hBW
 have HW0 := hidp hW0
 obtain ⟨x0, x1, x2, x3, l0⟩ := hb0.cells
 clear hBW hb0 hq hw hl hsz hW0 hR
 go_enter Tryz.func15, Tryz.ntmps15
 go_wp2_with fail
 rw [HW0.out]
 go_wp2_with fail
 refine HR.out.mono ?_
 rintro e w1 ⟨A, n, c, rfl, hr, hb⟩
 have HN := hidp hr.len.1
 have HB := hidp (HBW.out.trans (hb.mono HBW.out.size))
 clear hr hb x0 x1 x2 x3 l0
 go_wp2_with fail
 go_ret2
 exact ⟨by rw [HN.out]; rfl, HB.out⟩
end
section
open Go.RowKit Go.Shelf Go.Sort
theorem lexJ_drop {x y : List Int} : ∀ k, x.take k = y.take k → k ≤ x.length → k ≤ y.length → lexJ x y = lexJ (x.drop k) (y.drop k) := by
  induction x generalizing y with
  | nil =>
    intro k _ h _
    obtain rfl : k = 0 := by simpa using h
    simp
  | cons a x ih =>
    intro k h1 h2 h3
    cases k with
    | zero => rfl
    | succ k =>
      cases y with
      | nil => simp at h3
      | cons b y =>
        simp only [List.take_succ_cons, List.cons.injEq] at h1
        obtain ⟨rfl, h1⟩ := h1
        show (decide (a < a) || (decide (a = a) && lexJ x y)) = lexJ (x.drop k) (y.drop k)
        rw [ih k h1 (by simpa using h2) (by simpa using h3)]
        simp
set_option maxRecDepth 100000 in
set_option maxHeartbeats 2000000 in
theorem less_any (A B : Option Addr) (n ca cb : Nat) (a b : List Int) (w : World) (ha : iSl w w.heap.size A n ca a) (hb : iSl w w.heap.size B n cb b) :
  Calls Tryz.prog 36 #[.slice A n ca, .slice B n cb] w fun e w' => e = .returned (.bool (lexJ a b)) ∧ Below w.heap.size w w' := by
 have HN := hidp ha.1
 have HM := hidp hb.1
 have hcap := ha.2.2.1
 have hlen := ha.2.1
 have hcap2 := hb.2.2.1
 have hlen2 := hb.2.1
 go_enter Tryz.func36, Tryz.ntmps36
 go_wp2_with fail
 go_loopw [5] (fun i wr => ∃ k : Nat, k ≤ n ∧ i = .int .i64 k ∧ a.take k = b.take k ∧ Below w.heap.size w wr) (fun i _ => n - (intOf i).toNat)
 case atStart => exact ⟨0, by omega, rfl, rfl, Below.refl _ _⟩
 case round =>
  obtain ⟨k, hk, rfl, hab, hbe⟩ := hrel
  have HA := hidp hab
  clear hab
  by_cases hlt : k < n
  ·obtain ⟨b1, o1, x, rfl, hb1, hzx, c0⟩ := iSl.get (ha.below iStable hbe) hlt
   obtain ⟨b2, o2, y, rfl, hb2, hzy, d0⟩ := iSl.get (hb.below iStable hbe) hlt
   have l1 := lt_of_cell c0
   have l2 := lt_of_cell d0
   have HX := hidp hzx
   have HY := hidp hzy
   obtain ⟨bo, hbo⟩ : ∃ bo, (!(x == y)) = bo := ⟨_, rfl⟩
   have hbo' : (x != y) = bo := by rw [← hbo]; rfl
   have HB := hidp hbo
   have hkn : (k : Int) < n := by omega
   have HD : Hid (lexJ a b = (decide (x < y) || (decide (x = y) && lexJ (a.drop (k + 1)) (b.drop (k + 1))))) := by
    show _ = _
    rw [lexJ_drop k HA.out (by have := HN.out; omega) (by have := HM.out; omega), drop_cons HX.out, drop_cons HY.out]
    rfl
   clear hzx hzy hbo
   go_wp2_with fail
   refine wp_region_below wr.heap.size (by kernel_rfl) (by kernel_rfl) ?_
   repeat
    refine q_step (by rfl) ?_
    apply Exists.intro
    refine ⟨fun w9 h9 => ?_, ?_⟩
    ·have hc9 := (bcell h9).1
     go_simp
     first | done | rfl
    go_simp
   refine wpQuiet_nil ?_
   intro w9 hb9
   have hbz := hbe.trans (hb9.mono hbe.size)
   cases bo
   ·go_wp2_with fail
    go_roundw
    case rel => exact ⟨k + 1, by omega, by go_num, take_eq_step HA.out HX.out HY.out (by have := HB.out; simpa using this), hbz⟩
    case measure => simp [intOf]; omega
   ·obtain ⟨bl, hbl⟩ : ∃ bl, decide (x < y) = bl := ⟨_, rfl⟩
    have HR : Hid (lexJ a b = bl) := by
     show _ = _
     rw [HD.out, hbl]
     have hne : ¬ x = y := by have := HB.out; simpa using this
     simp [hne]
    have c9 := ((bcell hb9).1 _ (o1 + k) l1).trans c0
    have d9 := ((bcell hb9).1 _ (o2 + k) l2).trans d0
    have l19 := lt_of_cell c9
    have l29 := lt_of_cell d9
    go_wp2_with fail
    refine wp_region_below w9.heap.size (by kernel_rfl) (by kernel_rfl) ?_
    repeat
     refine q_step (by rfl) ?_
     apply Exists.intro
     refine ⟨fun w10 h10 => ?_, ?_⟩
     ·have hc10 := (bcell h10).1
      go_simp
      first | done | rfl
     go_simp
    refine wpQuiet_nil ?_
    intro w10 hb10
    have hbz2 := hbz.trans (hb10.mono hbz.size)
    go_wp2_with fail
    go_ret
    exact ⟨ret_bool HR.out.symm, hbz2⟩
  ·obtain rfl : k = n := by omega
   have HF : Hid (lexJ a b = false) := by
    have h1 := HA.out
    rw [List.take_of_length_le (by rw [← HN.out]; omega), List.take_of_length_le (by rw [← HM.out]; omega)] at h1
    show _ = _
    rw [h1]; exact lexJ_irr _
   go_wp2_with fail
   go_ret
   exact ⟨ret_bool HF.out.symm, hbe⟩
end
end Go.Proofs.YtbegdcjofnfkiaaGreatDoor
