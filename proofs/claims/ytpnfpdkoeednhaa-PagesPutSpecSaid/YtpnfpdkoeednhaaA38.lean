/- The reference's walk (printed by tools/gen150.py). -/
import Derived.Test.YtpnfpdkoeednhaaAP15
import Derived.Test.YtpnfpdkoeednhaaMI
import Derived.Test.YtpnfpdkoeednhaaM3
import Derived.Deep.DeepCutAuto
import Derived.Deep.CutBlock
import Derived.Deep.CutRange
namespace Go.Proofs.Ytpnfpdkoeednhaa
open Go.RowKit Go.Shelf

theorem Kept.then {M M' : Nat → Prop} {A B C : World} (h : Kept M A B) (k : Kept M' B C) (hm : ∀ b, M' b → M b ∨ A.heap.size ≤ b) : Kept M A C :=
  ⟨k.os.trans h.os, k.tape.trans h.tape, k.output.trans h.output, Nat.le_trans h.size k.size, fun b hb hn => (k.block b (Nat.lt_of_lt_of_le hb h.size) fun h' => by
    rcases hm b h' with h1 | h1
    · exact hn h1
    · omega).trans (h.block b hb hn)⟩
/-- While the walk looks at a page. -/
structure WkSt (s : Ps) (g : Pq) (base : Nat) (v0 : Value) (w : World) (v : Value) (m : List Fc) (w' : World) : Prop where
  own : w'.ownsRow base 31 8 v m.length (m.flatMap fEnc)
  kept : Kept (fun b => v0.ownBlock = some b) w w'
  blk : ∀ b, v.ownBlock = some b → v0.ownBlock = some b ∨ w.heap.size ≤ b
  boxP : w'.heap[w.heap.size]? = some (.cells #[.slice s.pA s.pn s.pc, .slice s.rA s.rn s.rc] 25 (0, 0))
  boxG : w'.heap[w.heap.size + 1]? = some (.cells #[.slice g.fA g.fn g.fc, .slice g.kA g.kn g.kc] 66 (0, 0))
theorem WkSt.turn {s : Ps} {g : Pq} {base : Nat} {v0 v v' : Value} {w w1 w2 : World} {m m' : List Fc} (h : WkSt s g base v0 w v m w1) (hk : Kept (fun b => v.ownBlock = some b) w1 w2) (ho : w2.ownsRow base 31 8 v' m'.length (m'.flatMap fEnc)) (hb : ∀ b, v'.ownBlock = some b → v.ownBlock = some b ∨ w1.heap.size ≤ b) : WkSt s g base v0 w v' m' w2 := by
  have hne : ∀ (x : Nat) (cs : Array Value) (t : TypeId), w1.heap[x]? = some (.cells cs t (0, 0)) → t ≠ 31 → ¬ v.ownBlock = some x := fun x cs t hx ht e => by
    obtain ⟨cs2, h2⟩ := own_kindP h.own e
    rw [hx] at h2
    injection h2 with h2
    injection h2 with _ h3
    exact ht h3
  exact ⟨ho, h.kept.then hk h.blk, fun b e => by
    rcases hb b e with h1 | h1
    · exact h.blk b h1
    · exact .inr (Nat.le_trans h.kept.size h1), (hk.block _ (lt_of_heap h.boxP) (hne _ _ _ h.boxP (by decide))).trans h.boxP, (hk.block _ (lt_of_heap h.boxG) (hne _ _ _ h.boxG (by decide))).trans h.boxG⟩
theorem WkSt.later {s : Ps} {g : Pq} {base : Nat} {v0 v : Value} {w w1 w2 : World} {m : List Fc} (h : WkSt s g base v0 w v m w1) (hb : Below w1.heap.size w1 w2) : WkSt s g base v0 w v m w2 :=
  h.turn (kept_of_below hb fun b h1 h2 => by omega) (own_keepB h.own fun x hx => hb.block x (h.own.lt x hx).2) fun b e => .inl e
theorem WkSt.cells {s : Ps} {g : Pq} {base : Nat} {v0 v : Value} {w w1 : World} {m : List Fc} (h : WkSt s g base v0 w v m w1) :
    w1.cell? ⟨w.heap.size, 0, none⟩ = some (.slice s.pA s.pn s.pc) ∧ w1.cell? ⟨w.heap.size, 1, none⟩ = some (.slice s.rA s.rn s.rc) ∧ w1.cell? ⟨w.heap.size + 1, 0, none⟩ = some (.slice g.fA g.fn g.fc) ∧ w1.cell? ⟨w.heap.size + 1, 1, none⟩ = some (.slice g.kA g.kn g.kc) ∧ w.heap.size < w1.heap.size ∧ w.heap.size + 1 < w1.heap.size :=
  ⟨by rw [cell_of_heap h.boxP]; rfl, by rw [cell_of_heap h.boxP]; rfl, by rw [cell_of_heap h.boxG]; rfl, by rw [cell_of_heap h.boxG]; rfl, lt_of_heap h.boxP, lt_of_heap h.boxG⟩
def WkPost (base : Nat) (v0 : Value) (r : Option (List Fc × Nat)) (w : World) (e : Ending) (w' : World) : Prop :=
  Kept (fun b => v0.ownBlock = some b) w w' ∧ (r = none → e = .returned (.tuple #[.slice none 0 0, .int .i64 0, .bool false])) ∧
  ∀ m d, r = some (m, d) → ∃ v, e = .returned (.tuple #[v, .int .i64 (d : Nat), .bool true]) ∧ w'.ownsRow base 31 8 v m.length (m.flatMap fEnc) ∧ ∀ b, v.ownBlock = some b → v0.ownBlock = some b ∨ w.heap.size ≤ b
theorem walk_no {base : Nat} {v0 : Value} {r : Option (List Fc × Nat)} {w w' : World} (hr : r = none) (hk : Kept (fun b => v0.ownBlock = some b) w w') : WkPost base v0 r w (.returned (.tuple #[.slice none 0 0, .int .i64 0, .bool false])) w' :=
  ⟨hk, fun _ => rfl, fun m d h => by rw [hr] at h; cases h⟩
theorem walk_yes {s : Ps} {g : Pq} {base : Nat} {v0 v : Value} {r : Option (List Fc × Nat)} {w w' : World} {m : List Fc} {d : Nat} (hr : r = some (m, d)) (h : WkSt s g base v0 w v m w') : WkPost base v0 r w (.returned (.tuple #[v, .int .i64 (d : Nat), .bool true])) w' :=
  ⟨h.kept, fun h => by (rw [hr] at h; cases h), fun m' d' h' => by rw [hr] at h'; cases h'; exact ⟨v, rfl, h.own, h.blk⟩⟩
set_option maxRecDepth 100000 in
set_option maxHeartbeats 8000000 in
theorem r47walk_any (s : Ps) (base n₀ : Nat) (hnb : n₀ ≤ base) (hsm : ∀ g ∈ s.gs, g.fn ≤ 1000000 ∧ g.kn ≤ 1000000) (hT : ((psV s).flatMap (·.facts)).length ≤ 1000000) : ∀ (k q : Nat), q < k → ∀ (g : Pq), s.gs[q]? = some g → ∀ (rt : Bool) (l : List Fc) (v0 : Value) (w : World), PsIn s w n₀ → base ≤ w.heap.size → w.ownsRow base 31 8 v0 l.length (l.flatMap fEnc) → InvM (psV s) l →
    Calls Try.prog 45 #[psVal s, .int .i64 q, .bool rt, v0] w (WkPost base v0 (walkP (psV s) q rt l) w) := by
  obtain ⟨i0, hi, hz, hs, hbb⟩ := info_parts fInfo
  intro k
  induction k with
  | zero => intro q hq; omega
  | succ k ih =>
  intro q hqk g hg rt l v0 w hps hbw hown hinv
  have HIH := hidp ih
  have HGg := hidp hg
  have HInv := hidp hinv
  have HOw := hidp hown
  have HBw := hidp hbw
  have HWk : Hid (walkP (psV s) q rt l = if pgOk rt (pgV g) = true then (loopW (kidW (psV s) q) (pgV g) l (g.facts.length + 1)).map fun t => (t.1, t.2 + 1) else none) := walkP_eq (psV_get hg) _ l
  have HMem : Hid (pgV g ∈ psV s) := List.mem_of_getElem? (psV_get hg)
  have HPg := hidp (hps.each g (List.mem_of_getElem? hg))
  have hqn : q < s.pn := by rw [hps.pages.1]; exact (List.getElem?_eq_some_iff.1 hg).1
  have HLn : Hid (s.pn = s.gs.length) := hps.pages.1
  obtain ⟨bp, op, g', hpA, hbp, hg', c0, c1⟩ := pgSl.get hps.pages hqn
  obtain rfl : g = g' := Option.some.inj (hg.symm.trans hg')
  have hixp := fun W => ix_Pages (c := s.pc) hpA hqn W
  have hqn' : (q : Int) < s.pn := by omega
  have lc := lt_of_cell c0
  have HFn := hidp HPg.out.1.1
  have HKn := hidp HPg.out.2.1
  obtain ⟨hfs, hks⟩ := hsm g (List.mem_of_getElem? hg)
  have HSm := hidp hsm
  have HTt := hidp hT
  have hfc := HPg.out.1.2.1
  have hfcc := HPg.out.1.2.2.1
  have hkc := HPg.out.2.2.1
  have hkcc := HPg.out.2.2.2.1
  have hpcc := hps.pages.2.1
  have hpccc := hps.pages.2.2.1
  have HWP : Hid (∀ W, Kept (fun b => v0.ownBlock = some b) w W → PsIn s W n₀) := fun W hk => hps.keep (Nat.le_refl _) fun b hb => hk.block b (by omega) (fun e => by have := (hown.lt b e).1; omega)
  obtain ⟨V, hV⟩ : ∃ V, w.alloc (.cells #[.slice s.pA s.pn s.pc, .slice s.rA s.rn s.rc] 25) = V := ⟨_, rfl⟩
  obtain ⟨W0, hW0⟩ : ∃ W, V.alloc (.cells #[.slice g.fA g.fn g.fc, .slice g.kA g.kn g.kc] 66) = W := ⟨_, rfl⟩
  have z0 : V.heap.size = w.heap.size + 1 := by rw [← hV]; simp
  have hSt : WkSt s g base v0 w v0 l W0 := by
    have c0 : Below w.heap.size w V := hV ▸ (Below.refl _ w).alloc (Nat.le_refl _) _
    have c1 : Below V.heap.size V W0 := hW0 ▸ (Below.refl _ V).alloc (Nat.le_refl _) _
    have cW := c0.trans (c1.mono c0.size)
    refine ⟨own_keepB hown fun x hx => cW.block x (hown.lt x hx).2, kept_of_below cW (fun b h1 h2 => by omega), fun b e => .inl e, ?_, ?_⟩
    · exact (c1.block _ (by omega)).trans (by rw [← hV]; exact World.alloc_heap_new _ _)
    · rw [← hW0, ← z0]; exact World.alloc_heap_new _ _
  have HSt := hidp hSt
  have hVc := fun b o (h : b < w.heap.size) => (bcell (hV ▸ (Below.refl _ w).alloc (Nat.le_refl _) _ : Below w.heap.size w V)).1 b o h
  have p0 := cell_of_heap (o := 0) (show V.heap[w.heap.size]? = _ by rw [← hV]; exact World.alloc_heap_new _ _)
  have lp : w.heap.size < V.heap.size := by omega
  simp only [List.getElem?_toArray, List.getElem?_cons_zero] at p0
  have c0' := (hVc _ _ lc).trans c0
  have c1' := (hVc _ _ lc).trans c1
  have lc' : bp < V.heap.size := by omega
  clear ih hps hown hg hg' hpA hbp hsm hinv c0 c1 lc hVc hSt hbw hT
  go_enter Try.func45, Try.ntmps45
  obtain ⟨x0, x1, g0, g1, lx, lg⟩ := HSt.out.cells
  go_upto_region 3 with fail
  clear hV hW0 z0 p0 lp c0' c1' lc' hixp
  obtain ⟨b1, hb1⟩ : ∃ b, decide ((4 : Int) < g.fn) = b := ⟨_, rfl⟩
  obtain ⟨b3, hb3⟩ : ∃ b, decide ((g.fn : Int) < 2) = b := ⟨_, rfl⟩
  obtain ⟨b4, hb4⟩ : ∃ b, decide (0 < g.kn) = b := ⟨_, rfl⟩
  obtain ⟨b5, hb5⟩ : ∃ b, ((g.kn : Int) != (g.fn : Int) + 1) = b := ⟨_, rfl⟩
  obtain ⟨b6, hb6⟩ : ∃ b, decide ((g.fn : Int) < 1) = b := ⟨_, rfl⟩
  obtain ⟨e1, he1⟩ : ∃ b, (b1 || (!rt && b3)) = b := ⟨_, rfl⟩
  obtain ⟨bad, hbad⟩ : ∃ b, (e1 || (b4 && (b5 || b6))) = b := ⟨_, rfl⟩
  have HE1 := hidp he1
  have HBad := hidp hbad
  have HLf := hidp hb4
  have hw1 : IntKind.i64.wrap ((g.fn : Int) + 1) = (g.fn : Int) + 1 := IntWalk.i64_in _ (by omega)
  have HOk : Hid (pgOk rt (pgV g) = !bad) := by
    show _ = _
    rw [← hbad, ← he1, ← hb1, ← hb3, ← hb4, ← hb5, ← hb6]
    have h1 := HFn.out
    have h2 := HKn.out
    unfold pgOk pgV
    dsimp only
    rw [← h1, ← h2, Bool.eq_iff_iff]
    cases rt <;> simp <;> omega
  clear he1 hbad
  refine wp_region_SF W0.heap.size 28 (fun _ => false) (Nat.le_refl _) (by kernel_rfl) (by kernel_rfl) (by kernel_rfl) ?_
  dsimp only [List.take, List.drop]
  apply relS_det (mask := []) (x := .int .i64 g.fn)
  · rfl
  · kernel_rfl
  · kernel_rfl
  · dsimp only [oblS]
    rintro w9 h9
    go_simp
    exact ⟨Below.refl _ _, rfl⟩
  dsimp only [List.nil_append, List.cons_append]
  apply relS_det (mask := [true]) (x := .bool b1)
  · rfl
  · kernel_rfl
  · kernel_rfl
  · dsimp only [oblS]
    rintro w9 h9
    go_simp
    exact ⟨Below.refl _ _, rfl⟩
  dsimp only [List.nil_append, List.cons_append]
  apply relS_det (mask := [false, true]) (x := .bool b1)
  · rfl
  · kernel_rfl
  · kernel_rfl
  · dsimp only [oblS]
    rintro w9 h9
    go_simp
    exact ⟨Below.refl _ _, rfl⟩
  dsimp only [List.nil_append, List.cons_append]
  apply relS_if (mask := [false, false, true]) (t := 29) (want := false) (g := (!b1)) (x := .bool rt)
  · rfl
  · kernel_rfl
  · kernel_rfl
  · dsimp only [oblS]
    refine ⟨⟨.bool b1, by rfl, (guard_free (by simp)).1, (guard_free (by simp)).2⟩, ?_⟩
    intro hg
    rintro w9 h9
    go_simp
    exact ⟨Below.refl _ _, rfl⟩
  dsimp only [List.nil_append, List.cons_append]
  apply relS_if (mask := [false, false, true, true]) (t := 29) (want := false) (g := (!b1)) (x := .bool (!rt))
  · rfl
  · kernel_rfl
  · kernel_rfl
  · dsimp only [oblS]
    refine ⟨⟨.bool b1, by rfl, (guard_free (by simp)).1, (guard_free (by simp)).2⟩, ?_⟩
    intro hg
    rintro w9 h9
    go_simp
    exact ⟨Below.refl _ _, rfl⟩
  dsimp only [List.nil_append, List.cons_append]
  apply relS_if (mask := [false, false, true, false, true]) (t := 29) (want := false) (g := (!b1)) (x := .bool (!rt))
  · rfl
  · kernel_rfl
  · kernel_rfl
  · dsimp only [oblS]
    refine ⟨⟨.bool b1, by rfl, (guard_free (by simp)).1, (guard_free (by simp)).2⟩, ?_⟩
    intro hg
    rintro w9 h9
    go_simp
    exact ⟨Below.refl _ _, rfl⟩
  dsimp only [List.nil_append, List.cons_append]
  apply relS_if (mask := [false, false, false, false, false, true]) (t := 32) (want := true) (g := (!b1 && !rt)) (x := .int .i64 g.fn)
  · rfl
  · kernel_rfl
  · kernel_rfl
  · dsimp only [oblS]
    refine ⟨⟨if (!b1) = true then .bool (!rt) else undef, by rfl, (guard_in (by simp)).1, (guard_in (by simp)).2⟩, ?_⟩
    intro hg
    rintro w9 h9
    go_simp
    exact ⟨Below.refl _ _, rfl⟩
  dsimp only [List.nil_append, List.cons_append]
  apply relS_if (mask := [false, false, false, false, false, true, true]) (t := 32) (want := true) (g := (!b1 && !rt)) (x := .bool b3)
  · rfl
  · kernel_rfl
  · kernel_rfl
  · dsimp only [oblS]
    refine ⟨⟨if (!b1) = true then .bool (!rt) else undef, by rfl, (guard_in (by simp)).1, (guard_in (by simp)).2⟩, ?_⟩
    intro hg
    rintro w9 h9
    go_simp
    exact ⟨Below.refl _ _, rfl⟩
  dsimp only [List.nil_append, List.cons_append]
  apply relS_if (mask := [false, false, true, false, false, true, false, true]) (t := 29) (want := false) (g := (!b1)) (x := .bool (!rt && b3))
  · rfl
  · kernel_rfl
  · kernel_rfl
  · dsimp only [oblS]
    refine ⟨⟨.bool b1, by rfl, (guard_free (by simp)).1, (guard_free (by simp)).2⟩, ?_⟩
    intro hg
    rintro w9 h9
    cases rt <;> cases b3
    all_goals (first | exact absurd hg Bool.false_ne_true | (go_simp; exact ⟨Below.refl _ _, by simp [IsV]⟩))
  dsimp only [List.nil_append, List.cons_append]
  apply relS_det (mask := [false, false, true, false, false, false, false, false, true]) (x := .bool e1)
  · rfl
  · kernel_rfl
  · kernel_rfl
  · dsimp only [oblS]
    rintro w9 h9
    rw [← HE1.out]
    cases b1 <;> cases rt <;> cases b3
    all_goals (first | exact absurd hg Bool.false_ne_true | (go_simp; exact ⟨Below.refl _ _, by simp [IsV]⟩))
  dsimp only [List.nil_append, List.cons_append]
  apply relS_det (mask := [false, false, false, false, false, false, false, false, false, true]) (x := .bool e1)
  · rfl
  · kernel_rfl
  · kernel_rfl
  · dsimp only [oblS]
    rintro w9 h9
    go_simp
    exact ⟨Below.refl _ _, rfl⟩
  dsimp only [List.nil_append, List.cons_append]
  apply relS_if (mask := [false, false, false, false, false, false, false, false, false, false, true]) (t := 37) (want := false) (g := (!e1))
  · rfl
  · kernel_rfl
  · kernel_rfl
  · dsimp only [oblS]
    refine ⟨⟨.bool e1, by rfl, (guard_free (by simp)).1, (guard_free (by simp)).2⟩, ?_⟩
    intro hg
    rintro w9 h9
    go_simp
    exact ⟨Below.refl _ _, rfl⟩
  dsimp only [List.nil_append, List.cons_append]
  apply relS_if (mask := [false, false, false, false, false, false, false, false, false, false, true, true]) (t := 37) (want := false) (g := (!e1)) (x := .slice g.kA g.kn g.kc)
  · rfl
  · kernel_rfl
  · kernel_rfl
  · dsimp only [oblS]
    refine ⟨⟨.bool e1, by rfl, (guard_free (by simp)).1, (guard_free (by simp)).2⟩, ?_⟩
    intro hg
    rintro w9 h9
    have hc9 := (bcell h9).1
    go_simp
    exact ⟨Below.refl _ _, rfl⟩
  dsimp only [List.nil_append, List.cons_append]
  apply relS_if (mask := [false, false, false, false, false, false, false, false, false, false, true, false, true]) (t := 37) (want := false) (g := (!e1)) (x := .int .i64 g.kn)
  · rfl
  · kernel_rfl
  · kernel_rfl
  · dsimp only [oblS]
    refine ⟨⟨.bool e1, by rfl, (guard_free (by simp)).1, (guard_free (by simp)).2⟩, ?_⟩
    intro hg
    rintro w9 h9
    go_simp
    exact ⟨Below.refl _ _, rfl⟩
  dsimp only [List.nil_append, List.cons_append]
  apply relS_if (mask := [false, false, false, false, false, false, false, false, false, false, true, false, false, true]) (t := 37) (want := false) (g := (!e1)) (x := .bool b4)
  · rfl
  · kernel_rfl
  · kernel_rfl
  · dsimp only [oblS]
    refine ⟨⟨.bool e1, by rfl, (guard_free (by simp)).1, (guard_free (by simp)).2⟩, ?_⟩
    intro hg
    rintro w9 h9
    go_simp
    exact ⟨Below.refl _ _, rfl⟩
  dsimp only [List.nil_append, List.cons_append]
  apply relS_if (mask := [false, false, false, false, false, false, false, false, false, false, true, false, false, false, true]) (t := 37) (want := false) (g := (!e1)) (x := .bool b4)
  · rfl
  · kernel_rfl
  · kernel_rfl
  · dsimp only [oblS]
    refine ⟨⟨.bool e1, by rfl, (guard_free (by simp)).1, (guard_free (by simp)).2⟩, ?_⟩
    intro hg
    rintro w9 h9
    go_simp
    exact ⟨Below.refl _ _, rfl⟩
  dsimp only [List.nil_append, List.cons_append]
  apply relS_if (mask := [false, false, false, false, false, false, false, false, false, false, false, false, false, false, false, true]) (t := 42) (want := true) (g := (!e1 && b4))
  · rfl
  · kernel_rfl
  · kernel_rfl
  · dsimp only [oblS]
    refine ⟨⟨if (!e1) = true then .bool b4 else undef, by rfl, (guard_in (by simp)).1, (guard_in (by simp)).2⟩, ?_⟩
    intro hg
    rintro w9 h9
    go_simp
    exact ⟨Below.refl _ _, rfl⟩
  dsimp only [List.nil_append, List.cons_append]
  apply relS_if (mask := [false, false, false, false, false, false, false, false, false, false, false, false, false, false, false, true, true]) (t := 42) (want := true) (g := (!e1 && b4)) (x := .slice g.kA g.kn g.kc)
  · rfl
  · kernel_rfl
  · kernel_rfl
  · dsimp only [oblS]
    refine ⟨⟨if (!e1) = true then .bool b4 else undef, by rfl, (guard_in (by simp)).1, (guard_in (by simp)).2⟩, ?_⟩
    intro hg
    rintro w9 h9
    have hc9 := (bcell h9).1
    go_simp
    exact ⟨Below.refl _ _, rfl⟩
  dsimp only [List.nil_append, List.cons_append]
  apply relS_if (mask := [false, false, false, false, false, false, false, false, false, false, false, false, false, false, false, true, false, true]) (t := 42) (want := true) (g := (!e1 && b4)) (x := .int .i64 g.kn)
  · rfl
  · kernel_rfl
  · kernel_rfl
  · dsimp only [oblS]
    refine ⟨⟨if (!e1) = true then .bool b4 else undef, by rfl, (guard_in (by simp)).1, (guard_in (by simp)).2⟩, ?_⟩
    intro hg
    rintro w9 h9
    go_simp
    exact ⟨Below.refl _ _, rfl⟩
  dsimp only [List.nil_append, List.cons_append]
  apply relS_if (mask := [false, false, false, false, false, false, false, false, false, false, false, false, false, false, false, true, false, false, false]) (t := 42) (want := true) (g := (!e1 && b4)) (x := .int .i64 g.fn)
  · rfl
  · kernel_rfl
  · kernel_rfl
  · dsimp only [oblS]
    refine ⟨⟨if (!e1) = true then .bool b4 else undef, by rfl, (guard_in (by simp)).1, (guard_in (by simp)).2⟩, ?_⟩
    intro hg
    rintro w9 h9
    go_simp
    exact ⟨Below.refl _ _, rfl⟩
  dsimp only [List.nil_append, List.cons_append]
  apply relS_if (mask := [false, false, false, false, false, false, false, false, false, false, false, false, false, false, false, true, false, false, false, true]) (t := 42) (want := true) (g := (!e1 && b4)) (x := .int .i64 ((g.fn : Int) + 1))
  · rfl
  · kernel_rfl
  · kernel_rfl
  · dsimp only [oblS]
    refine ⟨⟨if (!e1) = true then .bool b4 else undef, by rfl, (guard_in (by simp)).1, (guard_in (by simp)).2⟩, ?_⟩
    intro hg
    rintro w9 h9
    go_simp
    exact ⟨Below.refl _ _, rfl⟩
  dsimp only [List.nil_append, List.cons_append]
  apply relS_if (mask := [false, false, false, false, false, false, false, false, false, false, false, false, false, false, false, true, false, false, true, false, true]) (t := 42) (want := true) (g := (!e1 && b4)) (x := .bool b5)
  · rfl
  · kernel_rfl
  · kernel_rfl
  · dsimp only [oblS]
    refine ⟨⟨if (!e1) = true then .bool b4 else undef, by rfl, (guard_in (by simp)).1, (guard_in (by simp)).2⟩, ?_⟩
    intro hg
    rintro w9 h9
    go_simp
    exact ⟨Below.refl _ _, rfl⟩
  dsimp only [List.nil_append, List.cons_append]
  apply relS_if (mask := [false, false, false, false, false, false, false, false, false, false, false, false, false, false, false, true, false, false, false, false, false, true]) (t := 42) (want := true) (g := (!e1 && b4)) (x := .bool b5)
  · rfl
  · kernel_rfl
  · kernel_rfl
  · dsimp only [oblS]
    refine ⟨⟨if (!e1) = true then .bool b4 else undef, by rfl, (guard_in (by simp)).1, (guard_in (by simp)).2⟩, ?_⟩
    intro hg
    rintro w9 h9
    go_simp
    exact ⟨Below.refl _ _, rfl⟩
  dsimp only [List.nil_append, List.cons_append]
  apply relS_if (mask := [false, false, false, false, false, false, false, false, false, false, false, false, false, false, false, false, false, false, false, false, false, false, true]) (t := 49) (want := false) (g := (!e1 && b4 && !b5)) (x := .int .i64 g.fn)
  · rfl
  · kernel_rfl
  · kernel_rfl
  · dsimp only [oblS]
    refine ⟨⟨if (!e1 && b4) = true then .bool b5 else undef, by rfl, (guard_in (by simp)).1, (guard_in (by simp)).2⟩, ?_⟩
    intro hg
    rintro w9 h9
    go_simp
    exact ⟨Below.refl _ _, rfl⟩
  dsimp only [List.nil_append, List.cons_append]
  apply relS_if (mask := [false, false, false, false, false, false, false, false, false, false, false, false, false, false, false, false, false, false, false, false, false, false, true, true]) (t := 49) (want := false) (g := (!e1 && b4 && !b5)) (x := .bool b6)
  · rfl
  · kernel_rfl
  · kernel_rfl
  · dsimp only [oblS]
    refine ⟨⟨if (!e1 && b4) = true then .bool b5 else undef, by rfl, (guard_in (by simp)).1, (guard_in (by simp)).2⟩, ?_⟩
    intro hg
    rintro w9 h9
    go_simp
    exact ⟨Below.refl _ _, rfl⟩
  dsimp only [List.nil_append, List.cons_append]
  apply relS_if (mask := [false, false, false, false, false, false, false, false, false, false, false, false, false, false, false, true, false, false, false, false, false, false, true, false, true]) (t := 42) (want := true) (g := (!e1 && b4)) (x := .bool (b5 || b6))
  · rfl
  · kernel_rfl
  · kernel_rfl
  · dsimp only [oblS]
    refine ⟨⟨if (!e1) = true then .bool b4 else undef, by rfl, (guard_in (by simp)).1, (guard_in (by simp)).2⟩, ?_⟩
    intro hg
    rintro w9 h9
    cases e1 <;> cases b4 <;> cases b5 <;> cases b6
    all_goals (first | exact absurd hg Bool.false_ne_true | (go_simp; exact ⟨Below.refl _ _, by simp [IsV]⟩))
  dsimp only [List.nil_append, List.cons_append]
  apply relS_if (mask := [false, false, false, false, false, false, false, false, false, false, true, false, false, false, false, true, false, false, false, false, false, false, false, false, false, true]) (t := 37) (want := false) (g := (!e1)) (x := .bool (b4 && (b5 || b6)))
  · rfl
  · kernel_rfl
  · kernel_rfl
  · dsimp only [oblS]
    refine ⟨⟨.bool e1, by rfl, (guard_free (by simp)).1, (guard_free (by simp)).2⟩, ?_⟩
    intro hg
    rintro w9 h9
    cases e1 <;> cases b4 <;> cases b5 <;> cases b6
    all_goals (first | exact absurd hg Bool.false_ne_true | (go_simp; exact ⟨Below.refl _ _, by simp [IsV]⟩))
  dsimp only [List.nil_append, List.cons_append]
  apply relS_det (mask := [false, false, false, false, false, false, false, false, false, false, true, false, false, false, false, false, false, false, false, false, false, false, false, false, false, false, true]) (x := .bool bad)
  · rfl
  · kernel_rfl
  · kernel_rfl
  · dsimp only [oblS]
    rintro w9 h9
    rw [← HBad.out]
    cases e1 <;> cases b4 <;> cases b5 <;> cases b6
    all_goals (first | exact absurd hg Bool.false_ne_true | (go_simp; exact ⟨Below.refl _ _, by simp [IsV]⟩))
  dsimp only [List.nil_append, List.cons_append]
  refine relS_endK [false, false, false, false, false, false, false, false, false, false, false, false, false, false, false, false, false, false, false, false, false, false, false, false, false, false, false, true] (by rfl) (by rfl) ?_
  dsimp only [finK]
  intro q0 q1 q2 q3 q4 q5 q6 q7 q8 q9 q10 q11 q12 q13 q14 q15 q16 q17 q18 q19 q20 q21 q22 q23 q24 q25 q26
  rintro w3 hb3'
  have HS3 := hidp (HSt.out.later hb3')
  clear x0 x1 g0 g1 lx lg hb3' hb1 hb3 hb4 hb5 hb6 hw1
  obtain ⟨x0, x1, g0, g1, lx, lg⟩ := HS3.out.cells
  go_simp
  cases bad
  case true =>
    have HN : Hid (walkP (psV s) q rt l = none) := by show _ = _; rw [HWk.out, HOk.out]; rfl
    go_wp2_with fail
    go_ret3
    exact walk_no HN.out HS3.out.kept
  have HW1 : Hid (walkP (psV s) q rt l = (loopW (kidW (psV s) q) (pgV g) l (g.facts.length + 1)).map fun t => (t.1, t.2 + 1)) := by show _ = _; rw [HWk.out, HOk.out]; rfl
  have HNone : Hid (∀ j, j ≤ g.fn → loopW (kidW (psV s) q) (pgV g) l (j + 1) = none → walkP (psV s) q rt l = none) := fun j hj h => by
    rw [HW1.out, loopW_none h (g.facts.length + 1) (by have := HFn.out; omega)]; rfl
  have hfn4 : g.fn ≤ 4 := by
    have h := HOk.out
    unfold pgOk pgV at h
    simp only [Bool.and_eq_true, decide_eq_true_eq, Bool.not_false] at h
    have := HFn.out
    omega
  have HKl : Hid (g.kn ≠ 0 → g.kn = g.fn + 1) := fun hf => by
    have h := HOk.out
    unfold pgOk pgV at h
    simp only [Bool.and_eq_true, Bool.or_eq_true, decide_eq_true_eq, Bool.not_false] at h
    have h1 := HFn.out
    have h2 := HKn.out
    omega
  have HLv : Hid (∀ j m lv, loopW (kidW (psV s) q) (pgV g) l j = some (m, lv) → lv ≤ q) := fun j m lv h => loopW_lv (fun kid m m' d h => by
    unfold kidW at h
    split at h
    · rename_i hk
      have := walkP_lv (psV s) (kid.toNat + 1) kid.toNat false m m' d (by omega) h
      omega
    · cases h) j m lv h
  clear x0 x1 g0 g1 lx lg HE1 HBad
  go_wp2_with fail
  go_loopw [3, 13, 14, 15, 16, 17, 18] (fun s3 s13 s14 s15 s16 s17 s18 wr => ∃ (j : Nat) (v : Value) (m : List Fc) (lv : Nat) (v15 v16 v17 v18 : Value), j ≤ g.fn + 1 ∧ s14 = .int .i64 j ∧ v = s3 ∧ s13 = .int .i64 (lv : Nat) ∧ s15 = v15 ∧ s16 = v16 ∧ s17 = v17 ∧ s18 = v18 ∧ loopW (kidW (psV s) q) (pgV g) l j = some (m, lv) ∧ WkSt s g base v0 w v m wr) (fun _ _ s14 _ _ _ _ _ => g.fn + 1 - (intOf s14).toNat)
  case atStart => exact ⟨0, _, l, 0, _, _, _, _, by omega, rfl, rfl, rfl, rfl, rfl, rfl, rfl, loopW_zero _ _ _, HS3.out⟩
  case round =>
  obtain ⟨j, v, m, lv, v15, v16, v17, v18, hj, rfl, rfl, rfl, rfl, rfl, rfl, rfl, hlp, hst⟩ := hrel
  have HLp := hidp hlp
  have HSr := hidp hst
  have HLvq := hidp (HLv.out j m lv hlp)
  have HIm := hidp (loopW_inv HMem.out HInv.out j m lv hlp)
  clear hlp hst
  obtain ⟨x0, x1, g0, g1, lx, lg⟩ := HSr.out.cells
  by_cases hjn : j ≤ g.fn
  case neg =>
    have hjn' : ¬ ((j : Int) ≤ g.fn) := by omega
    have HR : Hid (walkP (psV s) q rt l = some (m, lv + 1)) := by
      show _ = _
      have e : j = g.facts.length + 1 := by have := HFn.out; omega
      rw [HW1.out, ← e, HLp.out]; rfl
    have hwl : IntKind.i64.wrap ((lv : Int) + 1) = ((lv + 1 : Nat) : Int) := by
      have := HLvq.out
      rw [show ((lv + 1 : Nat) : Int) = (lv : Int) + 1 by omega]
      exact IntWalk.i64_in _ (by omega)
    go_wp2_with fail
    go_ret3
    exact walk_yes HR.out HSr.out
  have hjn' : (j : Int) ≤ g.fn := by omega
  have hwj : IntKind.i64.wrap ((j : Int) + 1) = (j : Int) + 1 := IntWalk.i64_in _ (by omega)
  go_upto_if 63 with fail
  go_cut [3, 13, 15, 16, 17, 18] (fun s3 s13 s15 s16 s17 s18 wx => ∃ (v' : Value) (m' : List Fc) (lv' : Nat) (u15 u16 u17 u18 : Value), v' = s3 ∧ s13 = .int .i64 (lv' : Nat) ∧ s15 = u15 ∧ s16 = u16 ∧ s17 = u17 ∧ s18 = u18 ∧ subW (kidW (psV s) q) (pgV g) j (m, lv) = some (m', lv') ∧ WkSt s g base v0 w v' m' wx)
  case first =>
    by_cases hk0 : g.kn = 0
    · have hk0' : ¬ (0 < g.kn) := by omega
      have HK0 := hidp hk0
      clear hk0
      go_wp2_with fail
      go_meet
      exact ⟨v, m, lv, _, _, _, _, rfl, rfl, rfl, rfl, rfl, rfl, subW_leaf (HKn.out.symm.trans HK0.out), HSr.out⟩
    · have hk0' : 0 < g.kn := by omega
      have hkn := HKl.out hk0
      have hjk : j < g.kn := by omega
      have HKne := hidp hkn
      clear hk0 hkn
      obtain ⟨kb, ko, kid, hkA, _, hkid, d0⟩ := iSl.get ((HWP.out _ HSr.out.kept).each g (List.mem_of_getElem? HGg.out)).2 hjk
      have hixk := fun W => ix_intsP (c := g.kc) hkA hjk W
      have ld := lt_of_cell d0
      have HKid := hidp hkid
      clear hkid hkA
      have HSub : Hid (subW (kidW (psV s) q) (pgV g) j (m, lv) = (kidW (psV s) q kid m).bind fun r => if j = 0 ∨ r.2 = lv then some r else none) := hidp (subW_kid HKid.out)
      by_cases hneg : kid < 0
      · have HN := hidp (HNone.out j hjn (loop_no HLp.out (by rw [HSub.out, kidW_none (fun h => by omega)]; rfl)))
        clear hjk
        go_wp2_with fail
        go_ret3
        exact walk_no HN.out HSr.out.kept
      obtain ⟨kq, hkq⟩ : ∃ n : Nat, kid = n := ⟨kid.toNat, by omega⟩
      subst hkq
      have hneg' : ¬ ((kq : Int) < 0) := by omega
      by_cases hge : q ≤ kq
      · have hge' : (q : Int) ≤ kq := by omega
        have HN := hidp (HNone.out j hjn (loop_no HLp.out (by rw [HSub.out, kidW_none (fun h => by omega)]; rfl)))
        clear hjk hneg
        go_wp2_with fail
        go_ret3
        exact walk_no HN.out HSr.out.kept
      have hge' : ¬ ((q : Int) ≤ kq) := by omega
      have hkqk : kq < k := by omega
      obtain ⟨gk, hgk⟩ : ∃ x, s.gs[kq]? = some x := ⟨_, List.getElem?_eq_getElem (by have := HLn.out; omega)⟩
      have HCall := hidp (HIH.out kq hkqk gk hgk false m v _ (HWP.out _ HSr.out.kept) (Nat.le_trans HBw.out HSr.out.kept.size) HSr.out.own HIm.out)
      have hkw : kidW (psV s) q ((kq : Nat) : Int) m = walkP (psV s) kq false m := by rw [kidW_some (by omega), Int.toNat_natCast]
      rw [hkw] at HSub
      clear hkw hgk hkqk hneg hge hjk
      go_wp2_with fail
      refine HCall.out.mono ?_
      rintro e w2 ⟨hk2, hno, hyes⟩
      have HK2 := hidp hk2
      cases hwk : walkP (psV s) kq false m with
      | none =>
        obtain rfl := hno hwk
        have HN := hidp (HNone.out j hjn (loop_no HLp.out (by rw [HSub.out, hwk]; rfl)))
        have HKK := hidp (HSr.out.kept.then hk2 HSr.out.blk)
        clear hk2 hno hyes hwk x0 x1 g0 g1 lx lg d0 ld
        go_wp2_with fail
        go_ret3
        exact walk_no HN.out HKK.out
      | some r =>
        obtain ⟨m', d'⟩ := r
        obtain ⟨v', rfl, ho2, hb2⟩ := hyes m' d' hwk
        have HS2 := hidp (HSr.out.turn hk2 ho2 hb2)
        have HSb : Hid (subW (kidW (psV s) q) (pgV g) j (m, lv) = if j = 0 ∨ d' = lv then some (m', d') else none) := by
          show _ = _
          rw [HSub.out, hwk]; rfl
        clear hk2 hno hyes hwk ho2 hb2 x0 x1 g0 g1 lx lg d0 ld
        by_cases hj0 : j = 0
        · have hj0' : ¬ (0 < j) := by omega
          have HJ0 := hidp hj0
          clear hj0
          go_wp2_with fail
          go_meet
          exact ⟨v', m', d', _, _, _, _, rfl, rfl, rfl, rfl, rfl, rfl, HSb.out.trans (if_pos (.inl HJ0.out)), HS2.out⟩
        · have hj0' : 0 < j := by omega
          have HJ0 := hidp hj0
          clear hj0
          by_cases hdl : d' = lv
          · have hd' : ((d' : Int) != (lv : Int)) = false := by rw [hdl]; simp
            have HD := hidp hdl
            clear hdl
            go_wp2_with fail
            go_meet
            exact ⟨v', m', d', _, _, _, _, rfl, rfl, rfl, rfl, rfl, rfl, HSb.out.trans (if_pos (.inr HD.out)), HS2.out⟩
          · have hd' : ((d' : Int) != (lv : Int)) = true := by simp; omega
            have HD := hidp hdl
            clear hdl
            have HN := hidp (HNone.out j hjn (loop_no HLp.out (HSb.out.trans (if_neg (fun h => by rcases h with h | h; exact HJ0.out h; exact HD.out h)))))
            go_wp2_with fail
            go_ret3
            exact walk_no HN.out HS2.out.kept
  case rest =>
  obtain ⟨v', m', lv', u15, u16, u17, u18, rfl, rfl, rfl, rfl, rfl, rfl, hsub, hst⟩ := hcut
  rename World => wx
  have HSub := hidp hsub
  have HSx := hidp hst
  have HIx := hidp (subW_inv HIm.out hsub)
  clear x0 x1 g0 g1 lx lg hsub hst
  obtain ⟨x0, x1, g0, g1, lx, lg⟩ := HSx.out.cells
  by_cases hjf : j < g.fn
  case neg =>
    have hjf' : ¬ ((j : Int) < g.fn) := by omega
    have HStep : Hid (loopW (kidW (psV s) q) (pgV g) l (j + 1) = some (m', lv')) := by
      show _ = _
      rw [loop_step HLp.out HSub.out, factW_end (List.getElem?_eq_none (by show g.facts.length ≤ j; have := HFn.out; omega))]
    go_wp2_with fail
    go_roundw
    case rel => exact ⟨j + 1, _, m', lv', _, _, _, _, by omega, by go_num, rfl, rfl, rfl, rfl, rfl, rfl, HStep.out, HSx.out⟩
    case measure => simp [intOf]; omega
  have hjf' : (j : Int) < g.fn := by omega
  obtain ⟨fb, fo, f, hfA, _, hf, c0, c1, c2, c3, c4, c5, c6, c7⟩ := fSl.get ((HWP.out _ HSx.out.kept).each g (List.mem_of_getElem? HGg.out)).1 hjf
  have hixf := fun W => ix_FactsP (c := g.fc) hfA hjf W
  have lf := lt_of_cell c0
  have HF := hidp hf
  obtain ⟨mA, mc, hmv, hmr⟩ := own_rows fEnc_len (by decide) HSx.out.own
  subst hmv
  have HMr := hidp hmr
  have hmcc := hmr.2.1
  have hmcc2 := hmr.2.2.1
  have hml : m'.length ≤ 1000000 := Nat.le_trans HIx.out.len HTt.out
  have HStep : Hid (loopW (kidW (psV s) q) (pgV g) l (j + 1) = if nextOk m'.getLast? f = true then some (m' ++ [f], lv') else none) := hidp (by rw [loop_step HLp.out HSub.out]; exact factW_one HF.out)
  obtain ⟨nx, hnx⟩ : ∃ b, nextOk m'.getLast? f = b := ⟨_, rfl⟩
  have HNx := hidp hnx
  clear hf hfA hmr hnx
  go_upto_region 19 with fail
  go_cut [126] (fun s126 wz => s126 = .bool (!nx) ∧ Below wx.heap.size wx wz)
  case first =>
    obtain ⟨ok, hok⟩ : ∃ b, f.ok = b := ⟨_, rfl⟩
    have HO := hidp hok
    clear hok
    cases ok
    · obtain rfl : nx = false := by rw [← HNx.out]; unfold nextOk; rw [HO.out]; rfl
      refine wp_region_S wx.heap.size 27 (fun _ => false) (Nat.le_refl _) (by kernel_rfl) (by kernel_rfl) (by kernel_rfl) ?_
      dsimp only [List.take, List.drop]
      apply relS_det (mask := [])
      · rfl
      · kernel_rfl
      · kernel_rfl
      · dsimp only [oblS]
        rintro w9 h9
        go_simp
        exact ⟨Below.refl _ _, rfl⟩
      dsimp only [List.nil_append, List.cons_append]
      apply relS_det (mask := [true]) (x := .slice g.fA g.fn g.fc)
      · rfl
      · kernel_rfl
      · kernel_rfl
      · dsimp only [oblS]
        rintro w9 h9
        have hc9 := (bcell h9).1
        go_simp
        exact ⟨Below.refl _ _, rfl⟩
      dsimp only [List.nil_append, List.cons_append]
      apply relS_det (mask := [false, false])
      · rfl
      · kernel_rfl
      · kernel_rfl
      · dsimp only [oblS]
        rintro w9 h9
        go_simp
        exact ⟨Below.refl _ _, rfl⟩
      dsimp only [List.nil_append, List.cons_append]
      apply relS_det (mask := [false, true, true])
      · rfl
      · kernel_rfl
      · kernel_rfl
      · dsimp only [oblS]
        rintro w9 h9
        go_simp
        exact ⟨Below.refl _ _, rfl⟩
      dsimp only [List.nil_append, List.cons_append]
      apply relS_det (mask := [false, false, false, true]) (x := .agg #[.int .i64 f.key.kind, .int .i64 f.key.subj, .int .i64 f.key.obj, .int .i64 f.val, .int .i64 f.fr, .int .i64 f.to, .int .i64 f.known, .int .i64 f.no])
      · rfl
      · kernel_rfl
      · kernel_rfl
      · dsimp only [oblS]
        rintro w9 h9
        have hc9 := (bcell h9).1
        go_simp
        exact ⟨Below.refl _ _, rfl⟩
      dsimp only [List.nil_append, List.cons_append]
      apply relS_det (mask := [false, false, false, false, true]) (x := .bool false)
      · rfl
      · kernel_rfl
      · kernel_rfl
      · dsimp only [oblS]
        rintro w9 h9
        have hc9 := (bcell h9).1
        go_simp
        refine (rValid_any f w9).mono ?_
        rintro e w7 ⟨rfl, hb7⟩
        exact ⟨_, rfl, hb7, by show _ = _; rw [HO.out]⟩
      dsimp only [List.nil_append, List.cons_append]
      apply relS_det (mask := [false, false, false, false, false, true]) (x := .bool true)
      · rfl
      · kernel_rfl
      · kernel_rfl
      · dsimp only [oblS]
        rintro w9 h9
        go_simp
        exact ⟨Below.refl _ _, rfl⟩
      dsimp only [List.nil_append, List.cons_append]
      apply relS_det (mask := [false, false, false, false, false, false, true]) (x := .bool true)
      · rfl
      · kernel_rfl
      · kernel_rfl
      · dsimp only [oblS]
        rintro w9 h9
        go_simp
        exact ⟨Below.refl _ _, rfl⟩
      dsimp only [List.nil_append, List.cons_append]
      apply relS_not (mask := [false, false, false, false, false, false, false, true]) (t := 107) (want := false) (hf := by rfl) (hg := by kernel_rfl) (hm := by kernel_rfl)
      · rfl
      dsimp only [List.nil_append, List.cons_append]
      apply relS_not (mask := [false, false, false, false, false, false, false, true, true]) (t := 107) (want := false) (hf := by rfl) (hg := by kernel_rfl) (hm := by kernel_rfl)
      · rfl
      dsimp only [List.nil_append, List.cons_append]
      apply relS_not (mask := [false, false, false, false, false, false, false, true, false, true]) (t := 107) (want := false) (hf := by rfl) (hg := by kernel_rfl) (hm := by kernel_rfl)
      · rfl
      dsimp only [List.nil_append, List.cons_append]
      apply relS_not (mask := [false, false, false, false, false, false, false, true, false, false, true]) (t := 107) (want := false) (hf := by rfl) (hg := by kernel_rfl) (hm := by kernel_rfl)
      · rfl
      dsimp only [List.nil_append, List.cons_append]
      apply relS_if (mask := [false, false, false, false, false, false, false, false, false, false, false, true]) (t := 111) (want := true) (g := false) (x := undef)
      · rfl
      · kernel_rfl
      · kernel_rfl
      · dsimp only [oblS]
        refine ⟨⟨undef, by rfl, (fun h => by cases h), (fun _ h => by cases h)⟩, ?_⟩
        intro hg
        rintro w9 h9
        exact absurd hg (by simp)
      dsimp only [List.nil_append, List.cons_append]
      apply relS_if (mask := [false, false, false, false, false, false, false, false, false, false, false, true, false]) (t := 111) (want := true) (g := false) (x := undef)
      · rfl
      · kernel_rfl
      · kernel_rfl
      · dsimp only [oblS]
        refine ⟨⟨undef, by rfl, (fun h => by cases h), (fun _ h => by cases h)⟩, ?_⟩
        intro hg
        rintro w9 h9
        exact absurd hg (by simp)
      dsimp only [List.nil_append, List.cons_append]
      apply relS_if (mask := [false, false, false, false, false, false, false, false, false, false, false, true, false, true]) (t := 111) (want := true) (g := false) (x := undef)
      · rfl
      · kernel_rfl
      · kernel_rfl
      · dsimp only [oblS]
        refine ⟨⟨undef, by rfl, (fun h => by cases h), (fun _ h => by cases h)⟩, ?_⟩
        intro hg
        rintro w9 h9
        exact absurd hg (by simp)
      dsimp only [List.nil_append, List.cons_append]
      apply relS_if (mask := [false, false, false, false, false, false, false, false, false, false, false, true, false, false, true]) (t := 111) (want := true) (g := false) (x := undef)
      · rfl
      · kernel_rfl
      · kernel_rfl
      · dsimp only [oblS]
        refine ⟨⟨undef, by rfl, (fun h => by cases h), (fun _ h => by cases h)⟩, ?_⟩
        intro hg
        rintro w9 h9
        exact absurd hg (by simp)
      dsimp only [List.nil_append, List.cons_append]
      apply relS_if (mask := [false, false, false, false, false, false, false, false, false, false, false, true, true, false, false, true]) (t := 111) (want := true) (g := false) (x := undef)
      · rfl
      · kernel_rfl
      · kernel_rfl
      · dsimp only [oblS]
        refine ⟨⟨undef, by rfl, (fun h => by cases h), (fun _ h => by cases h)⟩, ?_⟩
        intro hg
        rintro w9 h9
        exact absurd hg (by simp)
      dsimp only [List.nil_append, List.cons_append]
      apply relS_if (mask := [false, false, false, false, false, false, false, false, false, false, false, true, false, false, false, false, true]) (t := 111) (want := true) (g := false) (x := undef)
      · rfl
      · kernel_rfl
      · kernel_rfl
      · dsimp only [oblS]
        refine ⟨⟨undef, by rfl, (fun h => by cases h), (fun _ h => by cases h)⟩, ?_⟩
        intro hg
        rintro w9 h9
        exact absurd hg (by simp)
      dsimp only [List.nil_append, List.cons_append]
      apply relS_if (mask := [false, false, false, false, false, false, false, false, false, false, false, true, false, false, false, false, false, false]) (t := 111) (want := true) (g := false) (x := undef)
      · rfl
      · kernel_rfl
      · kernel_rfl
      · dsimp only [oblS]
        refine ⟨⟨undef, by rfl, (fun h => by cases h), (fun _ h => by cases h)⟩, ?_⟩
        intro hg
        rintro w9 h9
        exact absurd hg (by simp)
      dsimp only [List.nil_append, List.cons_append]
      apply relS_if (mask := [false, false, false, false, false, false, false, false, false, false, false, true, false, false, false, false, false, false, true]) (t := 111) (want := true) (g := false) (x := undef)
      · rfl
      · kernel_rfl
      · kernel_rfl
      · dsimp only [oblS]
        refine ⟨⟨undef, by rfl, (fun h => by cases h), (fun _ h => by cases h)⟩, ?_⟩
        intro hg
        rintro w9 h9
        exact absurd hg (by simp)
      dsimp only [List.nil_append, List.cons_append]
      apply relS_if (mask := [false, false, false, false, false, false, false, false, false, false, false, true, false, false, false, false, false, false, false, false]) (t := 111) (want := true) (g := false) (x := undef)
      · rfl
      · kernel_rfl
      · kernel_rfl
      · dsimp only [oblS]
        refine ⟨⟨undef, by rfl, (fun h => by cases h), (fun _ h => by cases h)⟩, ?_⟩
        intro hg
        rintro w9 h9
        exact absurd hg (by simp)
      dsimp only [List.nil_append, List.cons_append]
      apply relS_if (mask := [false, false, false, false, false, false, false, false, false, false, false, true, false, false, false, false, false, false, false, true, true]) (t := 111) (want := true) (g := false) (x := undef)
      · rfl
      · kernel_rfl
      · kernel_rfl
      · dsimp only [oblS]
        refine ⟨⟨undef, by rfl, (fun h => by cases h), (fun _ h => by cases h)⟩, ?_⟩
        intro hg
        rintro w9 h9
        exact absurd hg (by simp)
      dsimp only [List.nil_append, List.cons_append]
      apply relS_if (mask := [false, false, false, false, false, false, false, false, false, false, false, true, false, false, false, false, false, false, false, false, false, true]) (t := 111) (want := true) (g := false) (x := undef)
      · rfl
      · kernel_rfl
      · kernel_rfl
      · dsimp only [oblS]
        refine ⟨⟨undef, by rfl, (fun h => by cases h), (fun _ h => by cases h)⟩, ?_⟩
        intro hg
        rintro w9 h9
        exact absurd hg (by simp)
      dsimp only [List.nil_append, List.cons_append]
      apply relS_if (mask := [false, false, false, false, false, false, false, false, false, false, false, true, false, false, false, false, false, true, false, false, false, false, true]) (t := 111) (want := true) (g := false) (x := undef)
      · rfl
      · kernel_rfl
      · kernel_rfl
      · dsimp only [oblS]
        refine ⟨⟨undef, by rfl, (fun h => by cases h), (fun _ h => by cases h)⟩, ?_⟩
        intro hg
        rintro w9 h9
        exact absurd hg (by simp)
      dsimp only [List.nil_append, List.cons_append]
      apply relS_if (mask := [false, false, false, false, false, false, false, false, false, false, false, true, false, false, false, false, false, false, false, false, false, false, false, true]) (t := 111) (want := true) (g := false) (x := undef)
      · rfl
      · kernel_rfl
      · kernel_rfl
      · dsimp only [oblS]
        refine ⟨⟨undef, by rfl, (fun h => by cases h), (fun _ h => by cases h)⟩, ?_⟩
        intro hg
        rintro w9 h9
        exact absurd hg (by simp)
      dsimp only [List.nil_append, List.cons_append]
      apply relS_not (mask := [false, false, false, false, false, false, false, true, false, false, false, true, false, false, false, false, false, false, false, false, false, false, false, false, true]) (t := 107) (want := false) (hf := by rfl) (hg := by kernel_rfl) (hm := by kernel_rfl)
      · rfl
      dsimp only [List.nil_append, List.cons_append]
      apply relS_det (mask := [false, false, false, false, false, false, false, true, false, false, false, false, false, false, false, false, false, false, false, false, false, false, false, false, false, true]) (x := .bool true)
      · rfl
      · kernel_rfl
      · kernel_rfl
      · dsimp only [oblS]
        rintro w9 h9
        go_simp
        exact ⟨Below.refl _ _, rfl⟩
      dsimp only [List.nil_append, List.cons_append]
      refine relS_end (by rfl) ?_
      dsimp only [finS]
      rintro wz hbz
      go_simp
      go_wp2_with fail
      go_meet
      exact ⟨rfl, hbz⟩
    · rcases Nat.eq_zero_or_pos m'.length with hm0 | hm0
      · obtain rfl : m' = [] := List.length_eq_zero_iff.1 hm0
        obtain rfl : nx = true := by rw [← HNx.out]; unfold nextOk; rw [HO.out]; rfl
        clear hm0
        refine wp_region_S wx.heap.size 27 (fun _ => false) (Nat.le_refl _) (by kernel_rfl) (by kernel_rfl) (by kernel_rfl) ?_
        dsimp only [List.take, List.drop]
        apply relS_det (mask := [])
        · rfl
        · kernel_rfl
        · kernel_rfl
        · dsimp only [oblS]
          rintro w9 h9
          go_simp
          exact ⟨Below.refl _ _, rfl⟩
        dsimp only [List.nil_append, List.cons_append]
        apply relS_det (mask := [true]) (x := .slice g.fA g.fn g.fc)
        · rfl
        · kernel_rfl
        · kernel_rfl
        · dsimp only [oblS]
          rintro w9 h9
          have hc9 := (bcell h9).1
          go_simp
          exact ⟨Below.refl _ _, rfl⟩
        dsimp only [List.nil_append, List.cons_append]
        apply relS_det (mask := [false, false])
        · rfl
        · kernel_rfl
        · kernel_rfl
        · dsimp only [oblS]
          rintro w9 h9
          go_simp
          exact ⟨Below.refl _ _, rfl⟩
        dsimp only [List.nil_append, List.cons_append]
        apply relS_det (mask := [false, true, true])
        · rfl
        · kernel_rfl
        · kernel_rfl
        · dsimp only [oblS]
          rintro w9 h9
          go_simp
          exact ⟨Below.refl _ _, rfl⟩
        dsimp only [List.nil_append, List.cons_append]
        apply relS_det (mask := [false, false, false, true]) (x := .agg #[.int .i64 f.key.kind, .int .i64 f.key.subj, .int .i64 f.key.obj, .int .i64 f.val, .int .i64 f.fr, .int .i64 f.to, .int .i64 f.known, .int .i64 f.no])
        · rfl
        · kernel_rfl
        · kernel_rfl
        · dsimp only [oblS]
          rintro w9 h9
          have hc9 := (bcell h9).1
          go_simp
          exact ⟨Below.refl _ _, rfl⟩
        dsimp only [List.nil_append, List.cons_append]
        apply relS_det (mask := [false, false, false, false, true]) (x := .bool true)
        · rfl
        · kernel_rfl
        · kernel_rfl
        · dsimp only [oblS]
          rintro w9 h9
          have hc9 := (bcell h9).1
          go_simp
          refine (rValid_any f w9).mono ?_
          rintro e w7 ⟨rfl, hb7⟩
          exact ⟨_, rfl, hb7, by show _ = _; rw [HO.out]⟩
        dsimp only [List.nil_append, List.cons_append]
        apply relS_det (mask := [false, false, false, false, false, true]) (x := .bool false)
        · rfl
        · kernel_rfl
        · kernel_rfl
        · dsimp only [oblS]
          rintro w9 h9
          go_simp
          exact ⟨Below.refl _ _, rfl⟩
        dsimp only [List.nil_append, List.cons_append]
        apply relS_det (mask := [false, false, false, false, false, false, true]) (x := .bool false)
        · rfl
        · kernel_rfl
        · kernel_rfl
        · dsimp only [oblS]
          rintro w9 h9
          go_simp
          exact ⟨Below.refl _ _, rfl⟩
        dsimp only [List.nil_append, List.cons_append]
        apply relS_detg (mask := [false, false, false, false, false, false, false, true]) (t := 107) (want := false)
        · rfl
        · kernel_rfl
        · kernel_rfl
        · dsimp only [oblS]
          refine ⟨by rfl, ?_⟩
          rintro w9 h9
          go_simp
          exact ⟨Below.refl _ _, rfl⟩
        dsimp only [List.nil_append, List.cons_append]
        apply relS_detg (mask := [false, false, false, false, false, false, false, true, true]) (t := 107) (want := false)
        · rfl
        · kernel_rfl
        · kernel_rfl
        · dsimp only [oblS]
          refine ⟨by rfl, ?_⟩
          rintro w9 h9
          go_simp
          exact ⟨Below.refl _ _, rfl⟩
        dsimp only [List.nil_append, List.cons_append]
        apply relS_detg (mask := [false, false, false, false, false, false, false, true, false, true]) (t := 107) (want := false) (x := .bool false)
        · rfl
        · kernel_rfl
        · kernel_rfl
        · dsimp only [oblS]
          refine ⟨by rfl, ?_⟩
          rintro w9 h9
          go_simp
          exact ⟨Below.refl _ _, rfl⟩
        dsimp only [List.nil_append, List.cons_append]
        apply relS_detg (mask := [false, false, false, false, false, false, false, true, false, false, true]) (t := 107) (want := false) (x := .bool false)
        · rfl
        · kernel_rfl
        · kernel_rfl
        · dsimp only [oblS]
          refine ⟨by rfl, ?_⟩
          rintro w9 h9
          go_simp
          exact ⟨Below.refl _ _, rfl⟩
        dsimp only [List.nil_append, List.cons_append]
        apply relS_not (mask := [false, false, false, false, false, false, false, false, false, false, false, true]) (t := 111) (want := true) (hf := by rfl) (hg := by kernel_rfl) (hm := by kernel_rfl)
        · rfl
        dsimp only [List.nil_append, List.cons_append]
        apply relS_not (mask := [false, false, false, false, false, false, false, false, false, false, false, true, false]) (t := 111) (want := true) (hf := by rfl) (hg := by kernel_rfl) (hm := by kernel_rfl)
        · rfl
        dsimp only [List.nil_append, List.cons_append]
        apply relS_not (mask := [false, false, false, false, false, false, false, false, false, false, false, true, false, true]) (t := 111) (want := true) (hf := by rfl) (hg := by kernel_rfl) (hm := by kernel_rfl)
        · rfl
        dsimp only [List.nil_append, List.cons_append]
        apply relS_not (mask := [false, false, false, false, false, false, false, false, false, false, false, true, false, false, true]) (t := 111) (want := true) (hf := by rfl) (hg := by kernel_rfl) (hm := by kernel_rfl)
        · rfl
        dsimp only [List.nil_append, List.cons_append]
        apply relS_not (mask := [false, false, false, false, false, false, false, false, false, false, false, true, true, false, false, true]) (t := 111) (want := true) (hf := by rfl) (hg := by kernel_rfl) (hm := by kernel_rfl)
        · rfl
        dsimp only [List.nil_append, List.cons_append]
        apply relS_not (mask := [false, false, false, false, false, false, false, false, false, false, false, true, false, false, false, false, true]) (t := 111) (want := true) (hf := by rfl) (hg := by kernel_rfl) (hm := by kernel_rfl)
        · rfl
        dsimp only [List.nil_append, List.cons_append]
        apply relS_not (mask := [false, false, false, false, false, false, false, false, false, false, false, true, false, false, false, false, false, false]) (t := 111) (want := true) (hf := by rfl) (hg := by kernel_rfl) (hm := by kernel_rfl)
        · rfl
        dsimp only [List.nil_append, List.cons_append]
        apply relS_not (mask := [false, false, false, false, false, false, false, false, false, false, false, true, false, false, false, false, false, false, true]) (t := 111) (want := true) (hf := by rfl) (hg := by kernel_rfl) (hm := by kernel_rfl)
        · rfl
        dsimp only [List.nil_append, List.cons_append]
        apply relS_not (mask := [false, false, false, false, false, false, false, false, false, false, false, true, false, false, false, false, false, false, false, false]) (t := 111) (want := true) (hf := by rfl) (hg := by kernel_rfl) (hm := by kernel_rfl)
        · rfl
        dsimp only [List.nil_append, List.cons_append]
        apply relS_not (mask := [false, false, false, false, false, false, false, false, false, false, false, true, false, false, false, false, false, false, false, true, true]) (t := 111) (want := true) (hf := by rfl) (hg := by kernel_rfl) (hm := by kernel_rfl)
        · rfl
        dsimp only [List.nil_append, List.cons_append]
        apply relS_not (mask := [false, false, false, false, false, false, false, false, false, false, false, true, false, false, false, false, false, false, false, false, false, true]) (t := 111) (want := true) (hf := by rfl) (hg := by kernel_rfl) (hm := by kernel_rfl)
        · rfl
        dsimp only [List.nil_append, List.cons_append]
        apply relS_not (mask := [false, false, false, false, false, false, false, false, false, false, false, true, false, false, false, false, false, true, false, false, false, false, true]) (t := 111) (want := true) (hf := by rfl) (hg := by kernel_rfl) (hm := by kernel_rfl)
        · rfl
        dsimp only [List.nil_append, List.cons_append]
        apply relS_not (mask := [false, false, false, false, false, false, false, false, false, false, false, true, false, false, false, false, false, false, false, false, false, false, false, true]) (t := 111) (want := true) (hf := by rfl) (hg := by kernel_rfl) (hm := by kernel_rfl)
        · rfl
        dsimp only [List.nil_append, List.cons_append]
        apply relS_detg (mask := [false, false, false, false, false, false, false, true, false, false, false, true, false, false, false, false, false, false, false, false, false, false, false, false, true]) (t := 107) (want := false) (x := .bool false)
        · rfl
        · kernel_rfl
        · kernel_rfl
        · dsimp only [oblS]
          refine ⟨by rfl, ?_⟩
          rintro w9 h9
          go_simp
          exact ⟨Below.refl _ _, rfl⟩
        dsimp only [List.nil_append, List.cons_append]
        apply relS_det (mask := [false, false, false, false, false, false, false, true, false, false, false, false, false, false, false, false, false, false, false, false, false, false, false, false, false, true]) (x := .bool false)
        · rfl
        · kernel_rfl
        · kernel_rfl
        · dsimp only [oblS]
          rintro w9 h9
          go_simp
          exact ⟨Below.refl _ _, rfl⟩
        dsimp only [List.nil_append, List.cons_append]
        refine relS_end (by rfl) ?_
        dsimp only [finS]
        rintro wz hbz
        go_simp
        go_wp2_with fail
        go_meet
        exact ⟨rfl, hbz⟩
      · obtain ⟨n, hn⟩ : ∃ n, m'.length = n := ⟨_, rfl⟩
        obtain ⟨i, HI⟩ : ∃ i, Hid (n = i + 1) := ⟨n - 1, (by omega : n = n - 1 + 1)⟩
        have hin : i < m'.length := by have := HI.out; omega
        obtain ⟨zb, zo, z, hzA, _, hzz, e0, e1, e2, e3, e4, e5, e6, e7⟩ := fSl.get HMr.out hin
        have hixz := fun W => ix_FactsP (c := mc) hzA hin W
        have lz := lt_of_cell e0
        have hwi : IntKind.i64.wrap ((n : Int) - 1) = (i : Int) := by have := HI.out; rw [show (n : Int) - 1 = i by omega]; exact IntWalk.i64_in _ (by omega)
        have HNe : Hid (ltP z f = nx) := by
          show _ = _
          rw [← HNx.out]
          unfold nextOk
          rw [HO.out, List.getLast?_eq_getElem?, show m'.length - 1 = i by have := HI.out; omega, hzz]
          rfl
        have hn0 : decide (0 < n) = true := decide_eq_true (by omega)
        rw [hn] at hixz ⊢
        have HNl := hidp hn
        clear hm0 hzA hzz hin hn
        refine wp_region_S wx.heap.size 27 (fun _ => false) (Nat.le_refl _) (by kernel_rfl) (by kernel_rfl) (by kernel_rfl) ?_
        dsimp only [List.take, List.drop]
        apply relS_det (mask := [])
        · rfl
        · kernel_rfl
        · kernel_rfl
        · dsimp only [oblS]
          rintro w9 h9
          go_simp
          exact ⟨Below.refl _ _, rfl⟩
        dsimp only [List.nil_append, List.cons_append]
        apply relS_det (mask := [true]) (x := .slice g.fA g.fn g.fc)
        · rfl
        · kernel_rfl
        · kernel_rfl
        · dsimp only [oblS]
          rintro w9 h9
          have hc9 := (bcell h9).1
          go_simp
          exact ⟨Below.refl _ _, rfl⟩
        dsimp only [List.nil_append, List.cons_append]
        apply relS_det (mask := [false, false])
        · rfl
        · kernel_rfl
        · kernel_rfl
        · dsimp only [oblS]
          rintro w9 h9
          go_simp
          exact ⟨Below.refl _ _, rfl⟩
        dsimp only [List.nil_append, List.cons_append]
        apply relS_det (mask := [false, true, true])
        · rfl
        · kernel_rfl
        · kernel_rfl
        · dsimp only [oblS]
          rintro w9 h9
          go_simp
          exact ⟨Below.refl _ _, rfl⟩
        dsimp only [List.nil_append, List.cons_append]
        apply relS_det (mask := [false, false, false, true]) (x := .agg #[.int .i64 f.key.kind, .int .i64 f.key.subj, .int .i64 f.key.obj, .int .i64 f.val, .int .i64 f.fr, .int .i64 f.to, .int .i64 f.known, .int .i64 f.no])
        · rfl
        · kernel_rfl
        · kernel_rfl
        · dsimp only [oblS]
          rintro w9 h9
          have hc9 := (bcell h9).1
          go_simp
          exact ⟨Below.refl _ _, rfl⟩
        dsimp only [List.nil_append, List.cons_append]
        apply relS_det (mask := [false, false, false, false, true]) (x := .bool true)
        · rfl
        · kernel_rfl
        · kernel_rfl
        · dsimp only [oblS]
          rintro w9 h9
          have hc9 := (bcell h9).1
          go_simp
          refine (rValid_any f w9).mono ?_
          rintro e w7 ⟨rfl, hb7⟩
          exact ⟨_, rfl, hb7, by show _ = _; rw [HO.out]⟩
        dsimp only [List.nil_append, List.cons_append]
        apply relS_det (mask := [false, false, false, false, false, true]) (x := .bool false)
        · rfl
        · kernel_rfl
        · kernel_rfl
        · dsimp only [oblS]
          rintro w9 h9
          go_simp
          exact ⟨Below.refl _ _, rfl⟩
        dsimp only [List.nil_append, List.cons_append]
        apply relS_det (mask := [false, false, false, false, false, false, true]) (x := .bool false)
        · rfl
        · kernel_rfl
        · kernel_rfl
        · dsimp only [oblS]
          rintro w9 h9
          go_simp
          exact ⟨Below.refl _ _, rfl⟩
        dsimp only [List.nil_append, List.cons_append]
        apply relS_detg (mask := [false, false, false, false, false, false, false, true]) (t := 107) (want := false) (x := .slice mA n mc)
        · rfl
        · kernel_rfl
        · kernel_rfl
        · dsimp only [oblS]
          refine ⟨by rfl, ?_⟩
          rintro w9 h9
          go_simp
          exact ⟨Below.refl _ _, rfl⟩
        dsimp only [List.nil_append, List.cons_append]
        apply relS_detg (mask := [false, false, false, false, false, false, false, true, true]) (t := 107) (want := false)
        · rfl
        · kernel_rfl
        · kernel_rfl
        · dsimp only [oblS]
          refine ⟨by rfl, ?_⟩
          rintro w9 h9
          go_simp
          exact ⟨Below.refl _ _, rfl⟩
        dsimp only [List.nil_append, List.cons_append]
        apply relS_detg (mask := [false, false, false, false, false, false, false, true, false, true]) (t := 107) (want := false) (x := .bool true)
        · rfl
        · kernel_rfl
        · kernel_rfl
        · dsimp only [oblS]
          refine ⟨by rfl, ?_⟩
          rintro w9 h9
          go_simp
          exact ⟨Below.refl _ _, rfl⟩
        dsimp only [List.nil_append, List.cons_append]
        apply relS_detg (mask := [false, false, false, false, false, false, false, true, false, false, true]) (t := 107) (want := false) (x := .bool true)
        · rfl
        · kernel_rfl
        · kernel_rfl
        · dsimp only [oblS]
          refine ⟨by rfl, ?_⟩
          rintro w9 h9
          go_simp
          exact ⟨Below.refl _ _, rfl⟩
        dsimp only [List.nil_append, List.cons_append]
        apply relS_detg (mask := [false, false, false, false, false, false, false, false, false, false, false, true]) (t := 111) (want := true)
        · rfl
        · kernel_rfl
        · kernel_rfl
        · dsimp only [oblS]
          refine ⟨by rfl, ?_⟩
          rintro w9 h9
          go_simp
          exact ⟨Below.refl _ _, rfl⟩
        dsimp only [List.nil_append, List.cons_append]
        apply relS_detg (mask := [false, false, false, false, false, false, false, false, false, false, false, true, false]) (t := 111) (want := true)
        · rfl
        · kernel_rfl
        · kernel_rfl
        · dsimp only [oblS]
          refine ⟨by rfl, ?_⟩
          rintro w9 h9
          go_simp
          exact ⟨Below.refl _ _, rfl⟩
        dsimp only [List.nil_append, List.cons_append]
        apply relS_detg (mask := [false, false, false, false, false, false, false, false, false, false, false, true, false, true]) (t := 111) (want := true)
        · rfl
        · kernel_rfl
        · kernel_rfl
        · dsimp only [oblS]
          refine ⟨by rfl, ?_⟩
          rintro w9 h9
          go_simp
          exact ⟨Below.refl _ _, rfl⟩
        dsimp only [List.nil_append, List.cons_append]
        apply relS_detg (mask := [false, false, false, false, false, false, false, false, false, false, false, true, false, false, true]) (t := 111) (want := true) (x := .int .i64 (i : Int))
        · rfl
        · kernel_rfl
        · kernel_rfl
        · dsimp only [oblS]
          refine ⟨by rfl, ?_⟩
          rintro w9 h9
          go_simp
          exact ⟨Below.refl _ _, rfl⟩
        dsimp only [List.nil_append, List.cons_append]
        apply relS_detg (mask := [false, false, false, false, false, false, false, false, false, false, false, true, true, false, false, true]) (t := 111) (want := true)
        · rfl
        · kernel_rfl
        · kernel_rfl
        · dsimp only [oblS]
          refine ⟨by rfl, ?_⟩
          rintro w9 h9
          go_simp
          exact ⟨Below.refl _ _, rfl⟩
        dsimp only [List.nil_append, List.cons_append]
        apply relS_detg (mask := [false, false, false, false, false, false, false, false, false, false, false, true, false, false, false, false, true]) (t := 111) (want := true) (x := .agg #[.int .i64 z.key.kind, .int .i64 z.key.subj, .int .i64 z.key.obj, .int .i64 z.val, .int .i64 z.fr, .int .i64 z.to, .int .i64 z.known, .int .i64 z.no])
        · rfl
        · kernel_rfl
        · kernel_rfl
        · dsimp only [oblS]
          refine ⟨by rfl, ?_⟩
          rintro w9 h9
          have hc9 := (bcell h9).1
          go_simp
          exact ⟨Below.refl _ _, rfl⟩
        dsimp only [List.nil_append, List.cons_append]
        apply relS_detg (mask := [false, false, false, false, false, false, false, false, false, false, false, true, false, false, false, false, false, false]) (t := 111) (want := true)
        · rfl
        · kernel_rfl
        · kernel_rfl
        · dsimp only [oblS]
          refine ⟨by rfl, ?_⟩
          rintro w9 h9
          go_simp
          exact ⟨Below.refl _ _, rfl⟩
        dsimp only [List.nil_append, List.cons_append]
        apply relS_detg (mask := [false, false, false, false, false, false, false, false, false, false, false, true, false, false, false, false, false, false, true]) (t := 111) (want := true) (x := .slice g.fA g.fn g.fc)
        · rfl
        · kernel_rfl
        · kernel_rfl
        · dsimp only [oblS]
          refine ⟨by rfl, ?_⟩
          rintro w9 h9
          have hc9 := (bcell h9).1
          go_simp
          exact ⟨Below.refl _ _, rfl⟩
        dsimp only [List.nil_append, List.cons_append]
        apply relS_detg (mask := [false, false, false, false, false, false, false, false, false, false, false, true, false, false, false, false, false, false, false, false]) (t := 111) (want := true)
        · rfl
        · kernel_rfl
        · kernel_rfl
        · dsimp only [oblS]
          refine ⟨by rfl, ?_⟩
          rintro w9 h9
          go_simp
          exact ⟨Below.refl _ _, rfl⟩
        dsimp only [List.nil_append, List.cons_append]
        apply relS_detg (mask := [false, false, false, false, false, false, false, false, false, false, false, true, false, false, false, false, false, false, false, true, true]) (t := 111) (want := true)
        · rfl
        · kernel_rfl
        · kernel_rfl
        · dsimp only [oblS]
          refine ⟨by rfl, ?_⟩
          rintro w9 h9
          go_simp
          exact ⟨Below.refl _ _, rfl⟩
        dsimp only [List.nil_append, List.cons_append]
        apply relS_detg (mask := [false, false, false, false, false, false, false, false, false, false, false, true, false, false, false, false, false, false, false, false, false, true]) (t := 111) (want := true) (x := .agg #[.int .i64 f.key.kind, .int .i64 f.key.subj, .int .i64 f.key.obj, .int .i64 f.val, .int .i64 f.fr, .int .i64 f.to, .int .i64 f.known, .int .i64 f.no])
        · rfl
        · kernel_rfl
        · kernel_rfl
        · dsimp only [oblS]
          refine ⟨by rfl, ?_⟩
          rintro w9 h9
          have hc9 := (bcell h9).1
          go_simp
          exact ⟨Below.refl _ _, rfl⟩
        dsimp only [List.nil_append, List.cons_append]
        apply relS_detg (mask := [false, false, false, false, false, false, false, false, false, false, false, true, false, false, false, false, false, true, false, false, false, false, true]) (t := 111) (want := true) (x := .bool nx)
        · rfl
        · kernel_rfl
        · kernel_rfl
        · dsimp only [oblS]
          refine ⟨by rfl, ?_⟩
          rintro w9 h9
          have hc9 := (bcell h9).1
          go_simp
          refine (r47Before_any z f w9).mono ?_
          rintro e w7 ⟨rfl, hb7⟩
          exact ⟨_, rfl, hb7, by show _ = _; rw [HNe.out]⟩
        dsimp only [List.nil_append, List.cons_append]
        apply relS_detg (mask := [false, false, false, false, false, false, false, false, false, false, false, true, false, false, false, false, false, false, false, false, false, false, false, true]) (t := 111) (want := true) (x := .bool (!nx))
        · rfl
        · kernel_rfl
        · kernel_rfl
        · dsimp only [oblS]
          refine ⟨by rfl, ?_⟩
          rintro w9 h9
          go_simp
          exact ⟨Below.refl _ _, rfl⟩
        dsimp only [List.nil_append, List.cons_append]
        apply relS_detg (mask := [false, false, false, false, false, false, false, true, false, false, false, true, false, false, false, false, false, false, false, false, false, false, false, false, true]) (t := 107) (want := false) (x := .bool (!nx))
        · rfl
        · kernel_rfl
        · kernel_rfl
        · dsimp only [oblS]
          refine ⟨by rfl, ?_⟩
          rintro w9 h9
          go_simp
          exact ⟨Below.refl _ _, rfl⟩
        dsimp only [List.nil_append, List.cons_append]
        apply relS_det (mask := [false, false, false, false, false, false, false, true, false, false, false, false, false, false, false, false, false, false, false, false, false, false, false, false, false, true]) (x := .bool (!nx))
        · rfl
        · kernel_rfl
        · kernel_rfl
        · dsimp only [oblS]
          rintro w9 h9
          go_simp
          exact ⟨Below.refl _ _, rfl⟩
        dsimp only [List.nil_append, List.cons_append]
        refine relS_end (by rfl) ?_
        dsimp only [finS]
        rintro wz hbz
        go_simp
        go_wp2_with fail
        obtain rfl := HNl.out
        go_meet
        exact ⟨rfl, hbz⟩
  case rest =>
  obtain ⟨rfl, hbz⟩ := hcut
  rename World => wz
  have HSz := hidp (HSx.out.later hbz)
  clear x0 x1 g0 g1 lx lg c0 c1 c2 c3 c4 c5 c6 c7 lf hixf hbz HMr
  cases nx
  case false =>
    have HN := hidp (HNone.out j hjn (by rw [HStep.out, HNx.out]; rfl))
    go_wp2_with fail
    go_ret3
    exact walk_no HN.out HSz.out.kept
  obtain ⟨x0, x1, g0, g1, lx, lg⟩ := HSz.out.cells
  obtain ⟨fb, fo, f', hfA, _, hf, c0, c1, c2, c3, c4, c5, c6, c7⟩ := fSl.get ((HWP.out _ HSz.out.kept).each g (List.mem_of_getElem? HGg.out)).1 hjf
  obtain rfl : f' = f := Option.some.inj (hf.symm.trans HF.out)
  have hixf := fun W => ix_FactsP (c := g.fc) hfA hjf W
  have lf := lt_of_cell c0
  have hzr := Nat.le_trans HBw.out HSz.out.kept.size
  obtain ⟨v5, w5', hrun, hown5, hg5, hat5⟩ := run_append_one (P := Try.prog) (ty := 41) (l := m') (enc := fEnc) (w := wz) (base := base) Try.underlying41 hi hz hs hbb rfl fEnc_len (by decide) fEnc_one HSz.out.own f' (by omega) (by omega) hzr
  have hk5 : Kept (fun b => (Value.slice mA m'.length mc).ownBlock = some b) wz w5' := ((Kept.refl _ wz).alloc _).grown hg5 fun r e => .inl e
  have HS5 : Hid (WkSt s g base v0 w v5 (m' ++ [f']) w5') := HSz.out.turn hk5 (by rw [List.length_append, List.length_singleton]; exact hown5) fun b e => by
    rcases hat5 with h | h
    · exact .inl (h ▸ e)
    · rw [h] at e; cases e; exact .inr (by omega)
  have HR5 := hidp hrun
  have HStep2 : Hid (loopW (kidW (psV s) q) (pgV g) l (j + 1) = some (m' ++ [f'], lv')) := by show _ = _; rw [HStep.out, HNx.out]; rfl
  clear hf hfA hrun hown5 hg5 hat5 hk5 hzr
  go_wp2_with (at_builtin; refine wpList_append_known rfl (.tmp 127) (.tmp 133) 41 rfl rfl rfl HR5.out ?_)
  go_roundw
  case rel => exact ⟨j + 1, _, m' ++ [f'], lv', _, _, _, _, by omega, by go_num, rfl, rfl, rfl, rfl, rfl, rfl, HStep2.out, HS5.out⟩
  case measure => simp [intOf]; omega
end Go.Proofs.Ytpnfpdkoeednhaa

