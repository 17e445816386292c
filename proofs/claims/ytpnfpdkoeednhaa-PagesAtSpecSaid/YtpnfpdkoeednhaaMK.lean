/- Several texts in one: AP5 A28. -/
import Derived.Test.YtpnfpdkoeednhaaA26
import Derived.Test.YtpnfpdkoeednhaaA27
import Derived.Deep.DeepCutAuto
import Derived.Deep.CutBlock
import Derived.Deep.RegionHeld3
import Derived.BigRegion
section
/- Pages, plainly: facts put one after the other. -/
namespace Go.Proofs.Ytpnfpdkoeednhaa
open Go.RowKit

def putE (ps : List Pv) (roots : List Int) (f : Fc) : Int := if checkP ps roots = true then (if checkF [f] = 0 then errP (compB f (allT ps (lastR roots))) else checkF [f]) else 470
theorem putErr_eq (s : Ps) (f : Fc) : putErr s f = putE (psV s) s.roots f := rfl
theorem compB_iff {f : Fc} {l : List Fc} : compB f l = true ↔ Comp f l := by
  refine ⟨comp_of, fun h => List.all_eq_true.2 fun x hx => decide_eq_true fun e => ?_⟩
  rcases cmpP_cases f x with ⟨h1, _⟩ | ⟨_, h2, h3⟩ | ⟨h1, _⟩
  · omega
  · rcases h x hx with h4 | h4
    · rw [h3] at h4; cases h4
    · rw [h2] at h4; cases h4
  · omega
theorem checkF_1 (f : Fc) : checkF [f] = if f.ok = true then 0 else 70 := by
  unfold checkF
  by_cases h : f.ok = true <;> simp [h, sortedB]
theorem putE_zero {ps : List Pv} {roots : List Int} {f : Fc} : putE ps roots f = 0 ↔ checkP ps roots = true ∧ f.ok = true ∧ Comp f (allT ps (lastR roots)) := by
  unfold putE
  rw [checkF_1, ← compB_iff]
  by_cases h1 : checkP ps roots = true
  · rw [if_pos h1]
    by_cases h2 : f.ok = true
    · rw [if_pos h2, if_pos rfl]
      unfold errP
      by_cases h3 : compB f (allT ps (lastR roots)) = true
      · simp [h1, h2, h3]
      · simp [h3]
    · rw [if_neg h2]; simp [h2]
  · rw [if_neg h1]; simp [h1]
theorem putE_or (ps : List Pv) (roots : List Int) (f : Fc) : putE ps roots f = 0 ∨ putE ps roots f = 70 ∨ putE ps roots f = 470 := by
  unfold putE
  rw [checkF_1]
  split
  · split
    · split
      · unfold errP; split
        · exact .inl rfl
        · exact .inr (.inr rfl)
      · rename_i h1 h2; exact absurd rfl h2
    · split
      · rename_i h1; cases h1
      · exact .inr (.inl rfl)
  · exact .inr (.inr rfl)
/-- Put's law, with the levels. -/
theorem put_lawD {ps : List Pv} {root d : Nat} {f : Fc} (hG : GoodR ps root d) (hf : f.ok = true) (hC : Comp f (allT ps root)) :
    ∃ new d', (putW ps root f).1 = ps ++ new ∧ 1 ≤ new.length ∧ new.length ≤ 2 * d + 1 ∧ GoodR (putW ps root f).1 (putW ps root f).2 d' ∧ d' ≤ d + 1 ∧ InsR f (allT ps root) (allT (putW ps root f).1 (putW ps root f).2) ∧ ∀ q, ps.length ≤ q → q < (putW ps root f).1.length → Rch (putW ps root f).1 (putW ps root f).2 q := by
  obtain ⟨hT, hok, hS⟩ := hG
  obtain ⟨new, r1, r2, r3, r4, r5, r6⟩ := ins_law f (root + 1) ps root true d (by omega) hT hS hC
  unfold putW
  generalize insW f (root + 1) ps root = r at r1 r2 r3 r4 r5 r6 ⊢
  obtain ⟨ps', a, o⟩ := r
  have good : ∀ l', InsR f (allT ps root) l' → (∀ x ∈ l', x.ok = true) ∧ StrP l' := fun l' h => ⟨fun x hx => by rcases (h.mem x).1 hx with rfl | h; exact hf; exact hok x h, h.str hS⟩
  rcases o with _ | ⟨m, b⟩
  · obtain ⟨t1, t2, t3⟩ := r5 rfl
    exact ⟨new, d, r1, r2, by omega, ⟨t1, good _ t2⟩, by omega, t2, t3⟩
  · obtain ⟨t0, t1, t2, t3, t4⟩ := r6 m b rfl
    dsimp only at r1 r2 r3 r4 t0 t1 t2 t3 t4 ⊢
    have ta := t1.lt
    have tb := t2.lt
    have hk : KidsOk ps' ⟨[m], [(a : Int), (b : Int)]⟩ (d + 1) := by
      refine .inr ⟨rfl, by simp, d, rfl, fun i x hi => ?_⟩
      have hx : x ∈ [(a : Int), (b : Int)] := List.mem_of_getElem? hi
      simp at hx
      rcases hx with rfl | rfl
      · exact ⟨by omega, by omega, by simpa using t1⟩
      · exact ⟨by omega, by omega, by simpa using t2⟩
    have hp := put_page (root := true) (new1 := []) (new2 := []) (by simp) (by simp) hk
    simp only [List.append_nil, List.length_nil, Nat.add_zero] at hp
    have e : allT (ps' ++ [⟨[m], [(a : Int), (b : Int)]⟩]) ps'.length = allT ps' a ++ m :: allT ps' b := by rw [hp.2]; simp [subs, inter]
    refine ⟨new ++ [⟨[m], [(a : Int), (b : Int)]⟩], d + 1, by rw [r1, List.append_assoc], by simp, by simp; omega, ⟨hp.1, by rw [e]; exact good _ t3⟩, by omega, by rw [e]; exact t3, fun q h1 h2 => ?_⟩
    rw [List.length_append] at h2
    rcases Nat.lt_or_ge q ps'.length with h | h
    · rcases t4 q h1 h with h | h
      · exact Rch.step (g := ⟨[m], [(a : Int), (b : Int)]⟩) (kid := (a : Int)) (by simp) (by simp) (by simpa using h.app)
      · exact Rch.step (g := ⟨[m], [(a : Int), (b : Int)]⟩) (kid := (b : Int)) (by simp) (by simp) (by simpa using h.app)
    · obtain rfl : q = ps'.length := by simp at h2; omega
      exact Rch.refl _
theorem lastR_snoc (roots : List Int) (r : Nat) : lastR (roots ++ [(r : Int)]) = r := by unfold lastR; simp
/-- Good pages stay good where a fact is put. -/
theorem put_check {ps : List Pv} {roots : List Int} {f : Fc} (h : putE ps roots f = 0) : checkP (putW ps (lastR roots) f).1 (roots ++ [((putW ps (lastR roots) f).2 : Int)]) = true := by
  obtain ⟨h1, h2, h3⟩ := putE_zero.1 h
  obtain ⟨hne, hall⟩ := checkP_iff.1 h1
  obtain ⟨r, hr⟩ : ∃ r, roots.getLast? = some r := by
    cases hl : roots.getLast? with
    | some r => exact ⟨r, rfl⟩
    | none => rw [List.getLast?_eq_none_iff] at hl; exact absurd hl hne
  have hlr : lastR roots = r.toNat := by unfold lastR; rw [hr]; rfl
  obtain ⟨_, d, hG⟩ := hall r (List.mem_of_getLast? hr)
  rw [← hlr] at hG
  obtain ⟨new, d', e, _, _, hG', _⟩ := put_lawD hG h2 h3
  refine checkP_iff.2 ⟨by simp, fun x hx => ?_⟩
  rcases List.mem_append.1 hx with hx | hx
  · obtain ⟨h4, d4, h5⟩ := hall x hx
    exact ⟨h4, d4, by rw [e]; exact h5.app⟩
  · rw [List.mem_singleton] at hx; subst hx
    exact ⟨by omega, d', by simpa using hG'⟩
structure Fst where
  (ps : List Pv) (roots : List Int) (acc : List Fc)
def stepF (st : Fst) (f : Fc) : Fst := if putE st.ps st.roots f = 0 then ⟨(putW st.ps (lastR st.roots) f).1, st.roots ++ [((putW st.ps (lastR st.roots) f).2 : Int)], st.acc ++ [f]⟩ else st
def fst0 : Fst := ⟨[⟨[], []⟩], [0], []⟩
def fillF (l : List Fc) : Fst := l.foldl stepF fst0
theorem fillF_nil : fillF [] = fst0 := rfl
theorem fillF_snoc (l : List Fc) (f : Fc) : fillF (l ++ [f]) = stepF (fillF l) f := by simp [fillF]
/-- What holds of pages that facts were put into. -/
structure Finv (st : Fst) : Prop where
  len : st.roots.length = st.acc.length + 1
  size : st.ps.length ≤ 1 + (2 * st.acc.length + 3) * st.acc.length
  last : ∃ d, d ≤ st.acc.length + 1 ∧ GoodR st.ps (lastR st.roots) d
  all : ∀ (v : Nat) (r : Int), st.roots[v]? = some r → 0 ≤ r ∧ (∃ d, GoodR st.ps r.toNat d) ∧ (allT st.ps r.toNat).Perm (st.acc.take v)
  ok : ∀ f ∈ st.acc, f.ok = true
theorem Finv.check {st : Fst} (h : Finv st) : checkP st.ps st.roots = true :=
  checkP_iff.2 ⟨fun e => by have := h.len; rw [e] at this; simp at this, fun r hr => by
    obtain ⟨v, hv⟩ := List.mem_iff_getElem?.1 hr
    exact ⟨(h.all v r hv).1, (h.all v r hv).2.1⟩⟩
theorem Finv.zero : Finv fst0 := by
  have hT : Tr [⟨[], []⟩] true 0 1 := Tr.leaf (g := ⟨[], []⟩) rfl rfl rfl
  have ha : allT [⟨[], []⟩] 0 = [] := rfl
  have hG : GoodR [⟨[], []⟩] 0 1 := ⟨hT, by rw [ha]; simp, by rw [ha]; exact List.Pairwise.nil⟩
  refine ⟨rfl, by simp [fst0], ⟨1, by simp [fst0], hG⟩, fun v r hv => ?_, by simp [fst0]⟩
  match v, hv with
  | 0, hv => cases hv; exact ⟨by omega, ⟨1, hG⟩, by rw [show (0 : Int).toNat = 0 from rfl]; exact List.Perm.refl _⟩
  | v + 1, hv => simp [fst0] at hv
theorem Finv.lastAll {st : Fst} (h : Finv st) : (allT st.ps (lastR st.roots)).Perm st.acc := by
  have hl := h.len
  obtain ⟨r, hr⟩ : ∃ r, st.roots[st.acc.length]? = some r := ⟨_, List.getElem?_eq_getElem (by omega)⟩
  have := (h.all _ r hr).2.2
  rw [List.take_of_length_le (Nat.le_refl _)] at this
  have e : lastR st.roots = r.toNat := by
    unfold lastR
    rw [List.getLast?_eq_getElem?, hl, Nat.add_sub_cancel, hr]; rfl
  rw [e]; exact this
theorem Finv.step {st : Fst} (h : Finv st) (f : Fc) : Finv (stepF st f) := by
  unfold stepF
  split
  · rename_i he
    obtain ⟨_, h2, h3⟩ := putE_zero.1 he
    obtain ⟨d, hd, hG⟩ := h.last
    obtain ⟨new, d', e, n1, n2, hG', hd', hI, _⟩ := put_lawD hG h2 h3
    have hlen := h.len
    refine ⟨by simp [hlen], ?_, ⟨d', ?_, ?_⟩, fun v r hv => ?_, fun x hx => ?_⟩
    · dsimp only
      rw [e, List.length_append, List.length_append, List.length_singleton]
      have := h.size
      have e2 : (2 * (st.acc.length + 1) + 3) * (st.acc.length + 1) = (2 * st.acc.length + 3) * st.acc.length + (4 * st.acc.length + 5) := by
        simp only [Nat.add_mul, Nat.mul_add]; omega
      omega
    · dsimp only; rw [List.length_append, List.length_singleton]; omega
    · rw [lastR_snoc]; exact hG'
    · dsimp only at hv ⊢
      rcases Nat.lt_or_ge v st.roots.length with hlt | hge
      · rw [List.getElem?_append_left hlt] at hv
        obtain ⟨a1, ⟨d4, a2⟩, a3⟩ := h.all v r hv
        refine ⟨a1, ⟨d4, by rw [e]; exact a2.app⟩, ?_⟩
        rw [e, allT_app a2.1.lt, List.take_append_of_le_length (by omega)]
        exact a3
      · rw [List.getElem?_append_right hge] at hv
        have hv0 : v = st.roots.length := by
          have := (List.getElem?_eq_some_iff.1 hv).1
          simp at this; omega
        subst hv0
        rw [Nat.sub_self] at hv
        simp at hv
        subst hv
        refine ⟨by omega, ⟨d', by simpa using hG'⟩, ?_⟩
        rw [Int.toNat_natCast, List.take_of_length_le (by simp; omega)]
        exact hI.perm.trans ((List.Perm.cons f h.lastAll).trans (List.perm_append_singleton f st.acc).symm)
    · dsimp only at hx
      rcases List.mem_append.1 hx with hx | hx
      · exact h.ok x hx
      · rw [List.mem_singleton] at hx; subst hx; exact h2
  · exact h
theorem fill_inv (l : List Fc) : Finv (fillF l) := by
  have : ∀ (l : List Fc) (st : Fst), Finv st → Finv (l.foldl stepF st) := by
    intro l
    induction l with
    | nil => intro st h; exact h
    | cons f l ih => intro st h; exact ih _ (h.step f)
  exact this l _ Finv.zero
theorem fill_len (l : List Fc) : (fillF l).acc.length ≤ l.length := by
  have : ∀ (l : List Fc) (st : Fst), (l.foldl stepF st).acc.length ≤ st.acc.length + l.length := by
    intro l
    induction l with
    | nil => intro st; simp
    | cons f l ih =>
      intro st
      have h1 := ih (stepF st f)
      have h2 : (stepF st f).acc.length ≤ st.acc.length + 1 := by
        unfold stepF; split
        · simp
        · omega
      rw [List.foldl_cons, List.length_cons]; omega
  have := this l fst0
  have e : fst0.acc.length = 0 := rfl
  rw [e, Nat.zero_add] at this
  exact this
theorem fill_full {l : List Fc} (h : (fillF l).acc.length = l.length) : (fillF l).acc = l := by
  have key : ∀ (l : List Fc) (st : Fst), ∃ m, (l.foldl stepF st).acc = st.acc ++ m ∧ List.Sublist m l := by
    intro l
    induction l with
    | nil => intro st; exact ⟨[], by simp, List.Sublist.refl _⟩
    | cons f l ih =>
      intro st
      obtain ⟨m, h1, h2⟩ := ih (stepF st f)
      rw [List.foldl_cons, h1]
      unfold stepF
      split
      · exact ⟨f :: m, by simp, h2.cons_cons f⟩
      · exact ⟨m, rfl, h2.cons f⟩
  obtain ⟨m, h1, h2⟩ := key l fst0
  have e : (fillF l).acc = m := by unfold fillF; rw [h1]; rfl
  rw [e] at h ⊢
  exact h2.eq_of_length h
end Go.Proofs.Ytpnfpdkoeednhaa

end
section
/- The law's filled (printed by tools/gen142.py). -/
namespace Go.Proofs.Ytpnfpdkoeednhaa
open Go.RowKit Go.Shelf

/-- Pages in memory that facts were put into. -/
structure FlS (st : Fst) (s : Ps) (w : World) : Prop where
  inn : PsS s w
  ps : psV s = st.ps
  roots : s.roots = st.roots
theorem FlS.later {st : Fst} {s : Ps} {w w' : World} (h : FlS st s w) (hb : Below w.heap.size w w') : FlS st s w' := ⟨h.inn.later hb, h.ps, h.roots⟩
/-- The box that bears the pages. -/
structure FlB (s0 : Ps) (st : Fst) (n0 b : Nat) (w0 w : World) : Prop where
  st : ∃ s, FlS st s w ∧ w.heap[b]? = some (.cells #[.slice s.pA s.pn s.pc, .slice s.rA s.rn s.rc] 25 (0, 0)) ∧ (st.acc = [] → s = s0) ∧ ∀ x, PsBl s x → (x < b ∨ b + 2 ≤ x) ∧ (PsBl s0 x ∨ b ≤ x)
  below : Below n0 w0 w
  lt : b < w.heap.size
theorem FlB.later {s0 : Ps} {st : Fst} {n0 b : Nat} {w0 w w' : World} (h : FlB s0 st n0 b w0 w) (hn : n0 ≤ w.heap.size) (hb : Below w.heap.size w w') : FlB s0 st n0 b w0 w' := by
  obtain ⟨s, h1, h2, h3⟩ := h.st
  exact ⟨⟨s, h1.later hb, (hb.block _ h.lt).trans h2, h3⟩, h.below.trans (hb.mono hn), Nat.lt_of_lt_of_le h.lt hb.size⟩
/-- What Put hands back. -/
def PutRes (ps : List Pv) (roots : List Int) (f : Fc) (s' : Ps) (w : World) : Prop := PsS s' w ∧ (putE ps roots f = 0 → psV s' = (putW ps (lastR roots) f).1 ∧ s'.roots = roots ++ [((putW ps (lastR roots) f).2 : Int)]) ∧ (putE ps roots f ≠ 0 → s'.gs = [] ∧ s'.roots = [])
theorem PutRes.later {ps : List Pv} {roots : List Int} {f : Fc} {s' : Ps} {w w' : World} (h : PutRes ps roots f s' w) (hb : Below w.heap.size w w') : PutRes ps roots f s' w' := ⟨h.1.later hb, h.2⟩
theorem PutRes.only {ps : List Pv} {roots : List Int} {f : Fc} {s' : Ps} {w w' : World} {X : Nat} (h : PutRes ps roots f s' w) (hO : Only X w w') (hX : ∀ x, PsBl s' x → x ≠ X) : PutRes ps roots f s' w' := ⟨⟨h.1.inn.only hO hX, h.1.slim⟩, h.2⟩
theorem put_any (s : Ps) (f : Fc) (n0 : Nat) (w : World) (hs : PsIn s w n0) (hn0 : n0 ≤ w.heap.size) (hsl : ∀ g ∈ s.gs, g.fn ≤ 1000000 ∧ g.kn ≤ 1000000) (hn : s.gs.length ≤ 100000 ∧ s.roots.length ≤ 100000) :
    Calls Try.prog 12 #[psVal s, .agg #[.int .i64 f.key.kind, .int .i64 f.key.subj, .int .i64 f.key.obj, .int .i64 f.val, .int .i64 f.fr, .int .i64 f.to, .int .i64 f.known, .int .i64 f.no]] w fun e w' => ∃ s', e = .returned (.tuple #[psVal s', .int .i64 (putE (psV s) s.roots f)]) ∧ PutRes (psV s) s.roots f s' w' ∧ Below w.heap.size w w' ∧ ∀ x, PsBl s' x → (∃ g ∈ s.gs, PgBl g x) ∨ w.heap.size ≤ x :=
  (pgPut_any s f n0 w hs hn0 hsl hn).mono fun _ _ ⟨s', h1, h2, h3, h4, h5, h6, h7⟩ => ⟨s', h1, ⟨⟨h2, h4⟩, h5, h6⟩, h3, h7⟩
def FilledPost (s0 : Ps) (l : List Fc) (w : World) (e : Ending) (w' : World) : Prop := ∃ s, e = .returned (.tuple #[psVal s, .int .i64 ((fillF l).acc.length : Nat)]) ∧ FlS (fillF l) s w' ∧ Below w.heap.size w w' ∧ ((fillF l).acc = [] → s = s0) ∧ ∀ x, PsBl s x → PsBl s0 x ∨ w.heap.size ≤ x
set_option maxRecDepth 100000 in
set_option maxHeartbeats 8000000 in
theorem filled_any (s : Ps) (A : Option Addr) (n c : Nat) (l : List Fc) (w : World) (hs : FlS fst0 s w) (hl : fSl w w.heap.size A n c l) (hn : n ≤ 24) :
    Calls Try.prog 28 #[psVal s, .slice A n c] w (FilledPost s l w) := by
  have hlen : n = l.length := hl.1
  have hc := hl.2.1
  have hcc := hl.2.2.1
  have HSl : Hid (∀ W, Below w.heap.size w W → fSl W W.heap.size A n c l) := fun W h => hl.keep fStable h.size h.block
  have HLen := hidp hlen
  obtain ⟨b, hb⟩ : ∃ b, w.heap.size = b := ⟨_, rfl⟩
  obtain ⟨V0, hV0⟩ : ∃ V, w.alloc (.cells #[.slice s.pA s.pn s.pc, .slice s.rA s.rn s.rc] 25) = V := ⟨_, rfl⟩
  obtain ⟨W0, hW0⟩ : ∃ V, V0.alloc (.cells #[.slice none 0 0, .slice none 0 0] 25) = V := ⟨_, rfl⟩
  have z0 : V0.heap.size = b + 1 := by rw [← hV0]; simp [hb]
  have z1 : W0.heap.size = b + 2 := by rw [← hW0]; simp [z0]
  have c0 : Below w.heap.size w V0 := hV0 ▸ (Below.refl _ w).alloc (Nat.le_refl _) _
  have c1 : Below V0.heap.size V0 W0 := hW0 ▸ (Below.refl _ V0).alloc (Nat.le_refl _) _
  have bW : Below w.heap.size w W0 := c0.trans (c1.mono c0.size)
  have g0 : W0.heap[b]? = some (.cells #[.slice s.pA s.pn s.pc, .slice s.rA s.rn s.rc] 25 (0, 0)) := (c1.block _ (by omega)).trans (by rw [← hV0, ← hb]; exact World.alloc_heap_new _ _)
  have g1 : W0.heap[b + 1]? = some (.cells #[.slice none 0 0, .slice none 0 0] 25 (0, 0)) := by rw [← hW0, ← z0]; exact World.alloc_heap_new _ _
  have hst : FlB s fst0 b b w W0 := ⟨⟨s, hs.later bW, g0, fun _ => rfl, fun x hx => ⟨.inl (by have := hx.lt hs.inn.inn; omega), .inl hx⟩⟩, bW.mono (Nat.le_of_eq hb.symm), by omega⟩
  have HSt := hidp hst
  have HG1 := hidp g1
  have HBs := hidp hb
  have HW0 := hidp hW0
  have HV0 := hidp hV0
  clear hlen hl hs c0 c1 bW g0 g1 hst
  go_enter Try.func28, Try.ntmps28
  go_wp2_with fail
  clear hV0 hW0
  go_loopw [6, 7, 8, 9] (fun a i x e wr => ∃ (k : Nat) (vx ve : Value), k ≤ n ∧ a = .int .i64 ((fillF (l.take k)).acc.length : Nat) ∧ i = .int .i64 k ∧ x = vx ∧ e = ve ∧ FlB s (fillF (l.take k)) b b w wr ∧ wr.heap[b + 1]? = some (.cells #[.slice none 0 0, .slice none 0 0] 25 (0, 0))) (fun _ i _ _ _ => n - (intOf i).toNat)
  case atStart => exact ⟨0, _, _, by omega, rfl, rfl, rfl, rfl, HSt.out, HG1.out⟩
  case round =>
  obtain ⟨k, vx, ve, hk, rfl, rfl, rfl, rfl, hst, hg1⟩ := hrel
  have hfl := fill_inv (l.take k)
  have hal : (fillF (l.take k)).acc.length ≤ k := by have := fill_len (l.take k); rw [List.length_take] at this; omega
  have HFl := hidp hfl
  obtain ⟨st, hstd⟩ : ∃ st, fillF (l.take k) = st := ⟨_, rfl⟩
  rw [hstd] at hst hal hfl
  have hsz : st.ps.length ≤ 2000 := by
    have h1 := hfl.size
    have h2 : (2 * st.acc.length + 3) * st.acc.length ≤ 51 * 24 := Nat.mul_le_mul (by omega) (by omega)
    omega
  have hrz : st.roots.length ≤ 100 := by have := hfl.len; omega
  obtain ⟨s1, hs1, hbx, hnil, hfar⟩ := hst.st
  have HNil := hidp hnil
  have HFar := hidp hfar
  have HBx := hidp hbx
  have HS1 := hidp hs1
  have HSt1 := hidp hst
  have HG2 := hidp hg1
  have HStd := hidp hstd
  have hgs : s1.gs.length ≤ 100000 ∧ s1.roots.length ≤ 100000 := by
    have h1 := congrArg List.length hs1.ps
    rw [psV_len] at h1
    rw [hs1.roots]; omega
  have hbw : w.heap.size ≤ wr.heap.size := by have := hst.below.size; omega
  have hbz : b ≤ wr.heap.size := by omega
  have p0 := cell_of_heap (o := 0) hbx
  have p1 := cell_of_heap (o := 1) hbx
  have lp := lt_of_heap hbx
  have fp := frozen_of_heap (o := 0) hbx
  simp only [List.getElem?_toArray, List.getElem?_cons_zero, List.getElem?_cons_succ] at p0 p1
  rw [hstd]
  clear hst hfl hs1 hstd hg1 hfar hnil
  by_cases hkn : k < n
  · have hkn' : (k : Int) < n := by omega
    obtain ⟨fb, off, f, hA, _, hf, c0, c1, c2, c3, c4, c5, c6, c7⟩ := fSl.get (HSl.out wr (HSt1.out.below.mono (Nat.le_of_eq HBs.out))) hkn
    have hix := fun W => ix_FactsP (c := c) hA hkn W
    have lf := lt_of_cell c0
    have HF := hidp hf
    clear hf hA
    obtain ⟨pe, hpe⟩ : ∃ e, putE st.ps st.roots f = e := ⟨_, rfl⟩
    have HPe := hidp hpe
    have HCall : Hid (∀ W, Below wr.heap.size wr W → Calls Try.prog 12 #[.agg #[.slice s1.pA s1.pn s1.pc, .slice s1.rA s1.rn s1.rc], .agg #[.int .i64 f.key.kind, .int .i64 f.key.subj, .int .i64 f.key.obj, .int .i64 f.val, .int .i64 f.fr, .int .i64 f.to, .int .i64 f.known, .int .i64 f.no]] W fun e w' => ∃ s', e = .returned (.tuple #[psVal s', .int .i64 pe]) ∧ PutRes st.ps st.roots f s' w' ∧ Below W.heap.size W w' ∧ ∀ x, PsBl s' x → (∃ g ∈ s1.gs, PgBl g x) ∨ W.heap.size ≤ x) := fun W hW => by
      have := put_any s1 f wr.heap.size W (HS1.out.inn.inn.keep (Nat.le_refl _) hW.block) hW.size HS1.out.inn.slim hgs
      rw [HS1.out.ps, HS1.out.roots, HPe.out] at this
      exact this
    clear hpe
    go_upto_region 5 with fail
    go_cut [8, 9] (fun s8 s9 wx => ∃ s2 X8, s8 = .pointer (some ⟨X8, 0, none⟩) ∧ s9 = .int .i64 pe ∧ PutRes st.ps st.roots f s2 wx ∧ wx.heap[X8]? = some (.cells #[.slice s2.pA s2.pn s2.pc, .slice s2.rA s2.rn s2.rc] 25 (0, 0)) ∧ Below wr.heap.size wr wx ∧ wr.heap.size ≤ X8 ∧ ∀ x, PsBl s2 x → (∃ g ∈ s1.gs, PgBl g x) ∨ wr.heap.size ≤ x)
    case first =>
      go_region_held3 (fun w' => w'.cell? ⟨b, 0, none⟩ = some (.slice s1.pA s1.pn s1.pc) ∧ w'.cell? ⟨b, 1, none⟩ = some (.slice s1.rA s1.rn s1.rc) ∧ w'.cell? ⟨fb, off + k * 8, none⟩ = some (.int .i64 f.key.kind) ∧ w'.cell? ⟨fb, off + k * 8 + 1, none⟩ = some (.int .i64 f.key.subj) ∧ w'.cell? ⟨fb, off + k * 8 + 2, none⟩ = some (.int .i64 f.key.obj) ∧ w'.cell? ⟨fb, off + k * 8 + 3, none⟩ = some (.int .i64 f.val) ∧ w'.cell? ⟨fb, off + k * 8 + 4, none⟩ = some (.int .i64 f.fr) ∧ w'.cell? ⟨fb, off + k * 8 + 5, none⟩ = some (.int .i64 f.to) ∧ w'.cell? ⟨fb, off + k * 8 + 6, none⟩ = some (.int .i64 f.known) ∧ w'.cell? ⟨fb, off + k * 8 + 7, none⟩ = some (.int .i64 f.no))
        (first | (refine ⟨cellB ?_ p0, cellB ?_ p1, cellB ?_ c0, cellB ?_ c1, cellB ?_ c2, cellB ?_ c3, cellB ?_ c4, cellB ?_ c5, cellB ?_ c6, cellB ?_ c7⟩ <;> (repeat (first | exact HB7.out | exact Below.refl _ _ | refine Below.drew ?_ | refine Below.alloc ?_ (by first | omega | (simp <;> omega) | simp) _ | refine Below.setCell ?_ (by first | omega | (simp <;> omega) | simp) _))))
        (first | (go_at_call 12; refine (HCall.out _ (by repeat (first | exact Below.refl _ _ | refine Below.drew ?_ | refine Below.alloc ?_ (by simp) _))).mono ?_; rintro e w7 ⟨s2, rfl, hr, hb7, hsep⟩; have HSep := hidp hsep; have hB7 : Below wr.heap.size wr w7 := Below.trans (by repeat (first | exact Below.refl _ _ | refine Below.drew ?_ | refine Below.alloc ?_ (by simp) _)) (hb7.mono (by simp)); have HB7 := hidp hB7; have hz7 := hB7.size; have HR7 := hidp hr; (try (have g8 := (hb7.block wr.heap.size (by simp)).trans (World.alloc_heap_new wr _); have HG8 := hidp g8; have g0 := cell_of_heap (o := 0) g8; have g1 := cell_of_heap (o := 1) g8; have g2 := frozen_of_heap (o := 0) g8; have g3 := frozen_of_heap (o := 1) g8; have g4 := lt_of_heap g8; clear g8)); clear hr hb7 hB7 hsep))
      · go_wp2_with fail
        go_meet
        exact ⟨s2, _, rfl, rfl, HR7.out.later ((Below.refl _ _).alloc (Nat.le_refl _) _), World.alloc_heap_new _ _, HB7.out.alloc hz7 _, hz7, fun x hx => (HSep.out x hx).imp id fun h => by simpa using h⟩
      · go_wp2_with fail
        go_meet
        have hO : Only wr.heap.size w7 ((w7.setCell ⟨wr.heap.size, 0, none⟩ (.slice s2.pA s2.pn s2.pc)).setCell ⟨wr.heap.size, 1, none⟩ (.slice s2.rA s2.rn s2.rc)) := (Only.setCell _ _ _ _).trans (Only.setCell _ _ _ _)
        refine ⟨s2, wr.heap.size, rfl, rfl, HR7.out.only hO (fun x hx e => ?_), ?_, ?_, Nat.le_refl _, fun x hx => (HSep.out x hx).imp id fun h => by simp at h; omega⟩
        · rcases HSep.out x hx with ⟨g, hg, h⟩ | h
          · have := h.lt (HS1.out.inn.inn.each g hg)
            omega
          · simp at h; omega
        · have := heap_setN (heap_setN HG8.out 0 (.slice s2.pA s2.pn s2.pc)) 1 (.slice s2.rA s2.rn s2.rc)
          simpa using this
        · exact (HB7.out.setCell (p := ⟨wr.heap.size, 0, none⟩) (Nat.le_refl _) _).setCell (p := ⟨wr.heap.size, 1, none⟩) (Nat.le_refl _) _
    case rest =>
    obtain ⟨s2, X8, rfl, rfl, hres, hx8, hb8, hX8, hsep⟩ := hcut
    have HSep := hidp hsep
    rename World => wc
    have HRes := hidp hres
    have HB8 := hidp hb8
    have HX8 := hidp hx8
    have gp := HSt1.out.later hbz hb8
    have HSt2 := hidp gp
    have gz := (hb8.block _ (lt_of_heap HG2.out)).trans HG2.out
    have HG3 := hidp gz
    have gb := (hb8.block b lp).trans HBx.out
    have r0 := cell_of_heap (o := 0) hx8
    have r1 := cell_of_heap (o := 1) hx8
    have r2 := lt_of_heap hx8
    have u0 := cell_of_heap (o := 0) gb
    have u1 := cell_of_heap (o := 1) gb
    have u2 := lt_of_heap gb
    have u3 := frozen_of_heap (o := 0) gb
    have u4 := frozen_of_heap (o := 1) gb
    have HGb := hidp gb
    simp only [List.getElem?_toArray, List.getElem?_cons_zero, List.getElem?_cons_succ] at r0 r1 u0 u1
    have hstep : fillF (l.take (k + 1)) = stepF st f := by rw [take_snoc HF.out, fillF_snoc, HStd.out]
    have HStep := hidp hstep
    have hlb := lt_of_heap HG2.out
    clear hres hx8 hb8 gp gz gb hsep hstep p0 p1 lp fp c0 c1 c2 c3 c4 c5 c6 c7 lf hix
    by_cases he : pe = 0
    · have he0 : ((pe == 0) : Bool) = true := by simp [he]
      have HE := hidp he
      clear he
      go_wp2_with fail
      have hpz : putE st.ps st.roots f = 0 := HPe.out.trans HE.out
      have hO : Only b wc ((wc.setCell ⟨b, 0, none⟩ (.slice s2.pA s2.pn s2.pc)).setCell ⟨b, 1, none⟩ (.slice s2.rA s2.rn s2.rc)) := (Only.setCell _ _ _ _).trans (Only.setCell _ _ _ _)
      have hfar : ∀ x, PsBl s2 x → (x < b ∨ b + 2 ≤ x) ∧ (PsBl s x ∨ b ≤ x) := fun x hx => by
        rcases HSep.out x hx with ⟨g, hg, h⟩ | h
        · exact HFar.out x (.inr (.inr ⟨g, hg, h⟩))
        · exact ⟨.inr (by omega), .inr (by omega)⟩
      have hres := HRes.out.only hO fun x hx e => by have := (hfar x hx).1; omega
      have hbx := heap_setN (heap_setN HGb.out 0 (.slice s2.pA s2.pn s2.pc)) 1 (.slice s2.rA s2.rn s2.rc)
      have hstf : stepF st f = ⟨(putW st.ps (lastR st.roots) f).1, st.roots ++ [((putW st.ps (lastR st.roots) f).2 : Int)], st.acc ++ [f]⟩ := by unfold stepF; rw [if_pos hpz]
      go_roundw
      case rel =>
        refine ⟨k + 1, _, _, by omega, ?_, by go_num, rfl, rfl, ?_, ?_⟩
        · rw [HStep.out, hstf]; simp
        · rw [HStep.out, hstf]
          refine ⟨⟨s2, ⟨hres.1, (hres.2.1 hpz).1, (hres.2.1 hpz).2⟩, by simpa using hbx, fun h => by simp at h, hfar⟩, (HSt2.out.below.setCell (p := ⟨b, 0, none⟩) (Nat.le_refl _) _).setCell (p := ⟨b, 1, none⟩) (Nat.le_refl _) _, by rw [hO.size]; exact u2⟩
        · exact (hO.block _ (by omega)).trans HG3.out
      case measure => simp [intOf]; omega
    · have he0 : ((pe == 0) : Bool) = false := by simp [he]
      have HE := hidp he
      clear he
      go_wp2_with fail
      have hpz : putE st.ps st.roots f ≠ 0 := fun h => HE.out (HPe.out.symm.trans h)
      have hstf : stepF st f = st := by unfold stepF; rw [if_neg hpz]
      go_roundw
      case rel => exact ⟨k + 1, _, _, by omega, by rw [HStep.out, hstf], by go_num, rfl, rfl, by rw [HStep.out, hstf]; exact HSt2.out, HG3.out⟩
      case measure => simp [intOf]; omega
  · have hkn' : ¬ ((k : Int) < n) := by omega
    have t0 := cell_of_heap (o := 0) HG2.out
    have t1 := cell_of_heap (o := 1) HG2.out
    have t2 := lt_of_heap HG2.out
    have t3 := frozen_of_heap (o := 0) HG2.out
    have t4 := frozen_of_heap (o := 1) HG2.out
    simp only [List.getElem?_toArray, List.getElem?_cons_zero, List.getElem?_cons_succ] at t0 t1
    go_wp2_with fail
    have hO : Only (b + 1) wr ((wr.setCell ⟨b + 1, 0, none⟩ (.slice s1.pA s1.pn s1.pc)).setCell ⟨b + 1, 1, none⟩ (.slice s1.rA s1.rn s1.rc)) := (Only.setCell _ _ _ _).trans (Only.setCell _ _ _ _)
    have hE := heap_setN (heap_setN HG2.out 0 (.slice s1.pA s1.pn s1.pc)) 1 (.slice s1.rA s1.rn s1.rc)
    have e0 := cell_of_heap (o := 0) hE
    have e1 := cell_of_heap (o := 1) hE
    simp at e0 e1
    refine bodyPost_ret (v := .tuple #[.agg #[.slice s1.pA s1.pn s1.pc, .slice s1.rA s1.rn s1.rc], .int .i64 (st.acc.length : Nat)]) (by simp [results, Try.results28, go_sem, e0, e1]) rfl ?_
    have hke : k = n := by omega
    have hst : fillF l = st := by rw [← HStd.out, hke, List.take_of_length_le (by have := HLen.out; omega)]
    have hb2 : Below b wr ((wr.setCell ⟨b + 1, 0, none⟩ (.slice s1.pA s1.pn s1.pc)).setCell ⟨b + 1, 1, none⟩ (.slice s1.rA s1.rn s1.rc)) := ((Below.refl _ wr).setCell (p := ⟨b + 1, 0, none⟩) (by show b ≤ b + 1; omega) _).setCell (p := ⟨b + 1, 1, none⟩) (by show b ≤ b + 1; omega) _
    rw [FilledPost, hst]
    exact ⟨s1, rfl, ⟨⟨HS1.out.inn.inn.only hO fun x hx e => by have := (HFar.out x hx).1; omega, HS1.out.inn.slim⟩, HS1.out.ps, HS1.out.roots⟩, (HSt1.out.below.trans hb2).mono (Nat.le_of_eq HBs.out), HNil.out, fun x hx => (HFar.out x hx).2.imp id fun h => Nat.le_trans (Nat.le_of_eq HBs.out) h⟩
end Go.Proofs.Ytpnfpdkoeednhaa

end
