import Derived.Test.YtbegdcjofnfkiaaGreatDoorA24
import Derived.Test.YtbegdcjofnfkiaaGreatDoorQ20
import Derived.Test.YtbegdcjofnfkiaaGreatDoorQ21
import Derived.Test.YtbegdcjofnfkiaaGreatDoorA8
import Derived.Deep.DeepCutAuto
import Derived.Deep.CutBlock
import Derived.Deep.CutRange
namespace Go.Proofs.YtbegdcjofnfkiaaGreatDoor
open Go.RowKit Go.Shelf
attribute [local go_sem] Oper.semAt_some
def compB (f : Fc) (l : List Fc) : Bool := l.all fun x => decide (cmpP f x ≠ 0)
def putErr (s : Ps) (f : Fc) : Int := if checkP (psV s) s.roots = true then (if checkF [f] = 0 then errP (compB f (allT (psV s) (lastR s.roots))) else checkF [f]) else 470
def PsBl (s : Ps) (x : Nat) : Prop := (0 < s.pn ∧ ∃ off, s.pA = some ⟨x, off, none⟩) ∨ (0 < s.rn ∧ ∃ off, s.rA = some ⟨x, off, none⟩) ∨ ∃ g ∈ s.gs, PgBl g x
def PutPost (s : Ps) (f : Fc) (w : World) (e : Ending) (w' : World) : Prop :=
 ∃ s', e = .returned (.tuple #[.agg #[.slice s'.pA s'.pn s'.pc, .slice s'.rA s'.rn s'.rc], .int .i64 (putErr s f)]) ∧ PsIn s' w' w'.heap.size ∧ Below w.heap.size w w' ∧ (∀ g ∈ s'.gs, g.fn ≤ 1000000 ∧ g.kn ≤ 1000000) ∧
  (putErr s f = 0 → psV s' = (putW (psV s) (lastR s.roots) f).1 ∧ s'.roots = s.roots ++ [((putW (psV s) (lastR s.roots) f).2 : Int)]) ∧ (putErr s f ≠ 0 → s'.gs = [] ∧ s'.roots = []) ∧ ∀ x, PsBl s' x → (∃ g ∈ s.gs, PgBl g x) ∨ w.heap.size ≤ x
structure PuB (s : Ps) (f : Fc) (b : Nat) (w0 w : World) : Prop where
 p : w.heap[b]? = some (.cells #[.slice s.pA s.pn s.pc, .slice s.rA s.rn s.rc] 45 (0, 0))
 f : w.heap[b + 1]? = some (.cells #[.int .i64 f.key.kind, .int .i64 f.key.subj, .int .i64 f.key.obj, .int .i64 f.val, .int .i64 f.fr, .int .i64 f.to, .int .i64 f.known, .int .i64 f.no] 54 (0, 0))
 x : w.heap[b + 2]? = some (.cells #[.slice none 0 0, .slice none 0 0] 45 (0, 0))
 e : w.heap[b + 3]? = some (.cells #[.int .i64 0] 31 (0, 0))
 below : Below b w0 w
 size : b + 4 ≤ w.heap.size
theorem PuB.later {s : Ps} {f : Fc} {b : Nat} {w0 w w' : World} (h : PuB s f b w0 w) (hb : Below w.heap.size w w') : PuB s f b w0 w' :=
 ⟨(hb.block _ (lt_of_heap h.p)).trans h.p, (hb.block _ (lt_of_heap h.f)).trans h.f, (hb.block _ (lt_of_heap h.x)).trans h.x, (hb.block _ (lt_of_heap h.e)).trans h.e, h.below.trans (hb.mono (by have := h.size; omega)), Nat.le_trans h.size hb.size⟩
theorem PuB.put {s : Ps} {f : Fc} {b D : Nat} {w0 w : World} (h : PuB s f b w0 w) (hD : b + 4 ≤ D) (o : Obj) : PuB s f b w0 (w.putObj D o) :=
 ⟨(World.putObj_heap_other (by omega)).trans h.p, (World.putObj_heap_other (by omega)).trans h.f, (World.putObj_heap_other (by omega)).trans h.x, (World.putObj_heap_other (by omega)).trans h.e, h.below.trans ⟨rfl, rfl, rfl, by simp, fun k hk => World.putObj_heap_other (by omega)⟩, by have := h.size; simpa using this⟩
theorem PgBl.lt {g : Pq} {w : World} {n x : Nat} (h : PgIn g w n) (hx : PgBl g x) : x < n := by
 rcases hx with ⟨hn, off, e⟩ | ⟨hn, off, e⟩
 ·obtain ⟨b, o, e2, hlt, _⟩ := h.1.2.2.2 hn
  rw [e] at e2; cases e2; exact hlt
 ·obtain ⟨b, o, e2, hlt, _⟩ := h.2.2.2.2 hn
  rw [e] at e2; cases e2; exact hlt
theorem comp_of {f : Fc} {l : List Fc} (h : compB f l = true) : Comp f l := fun x hx => by
 have := List.all_eq_true.1 h x hx
 simp only [ne_eq, decide_eq_true_eq] at this
 rcases cmpP_cases f x with ⟨_, h2⟩ | ⟨h1, _⟩ | ⟨_, h2⟩
 ·exact .inr h2
 ·exact absurd h1 this
 ·exact .inl h2
theorem relUponZ_append {P : Program} {B : World → Prop} {T : VT} {o : Oper} {a : Act} {w w' : World} {v u v' : Value} (s x : Operand) (t : TypeId) (ho : o.op = .call { callee := .builtin .append, args := #[s, x], argTypes := #[t, t] }) (hs : a.eval s = v) (hx : a.eval x = u)
  (hrun : (Builtin.append_ #[t, t] o.type #[v, u]).run P w = .ok v' w') (hb : B w') (hT : T v' w') : relUponZ P B T ((execOp a.eval o).run P w) := by
 unfold execOp
 simp only [ho, resolve, invoke, builtin, Sem.run_bind, Sem.run_pure, Result.andThen_ok, List.map_toArray, List.map_cons, List.map_nil, hs, hx, hrun]
 exact ⟨hb, hT⟩
theorem not_own {B base c x : Nat} {A : Option Addr} {ps : List Pq} {w : World} {o : Obj} (h : WrB B base A c ps w) (hx : w.heap[x]? = some o) (ho : ∀ cur, o ≠ .cells cur 86 (0, 0)) : ¬ OwnB B x w := fun h1 => by
 obtain ⟨cur, h2⟩ := own_heap h.own (h.ownB h1)
 rw [hx] at h2; cases h2; exact ho _ rfl
theorem WrR.keep {B base c x : Nat} {A : Option Addr} {ps : List Pq} {w w' : World} {o : Obj} (hr : WrR B w w') (h : WrB B base A c ps w) (hx : w.heap[x]? = some o) (hB : x ≠ B) (ho : ∀ cur, o ≠ .cells cur 86 (0, 0)) : w'.heap[x]? = some o :=
 (hr.block x (lt_of_heap hx) hB (not_own h hx ho)).trans hx
theorem PuB.turn {s : Ps} {f : Fc} {b B base c : Nat} {A : Option Addr} {ps : List Pq} {w0 w w' : World} (h : PuB s f b w0 w) (hw : WrB B base A c ps w) (hr : WrR B w w') (hB : b + 4 ≤ B) (hb : b ≤ base) : PuB s f b w0 w' :=
 ⟨hr.keep hw h.p (by omega) (fun _ e => by cases e), hr.keep hw h.f (by omega) (fun _ e => by cases e), hr.keep hw h.x (by omega) (fun _ e => by cases e), hr.keep hw h.e (by omega) (fun _ e => by cases e),
  h.below.trans ⟨hr.os, hr.tape, hr.output, hr.size, fun k hk => hr.block k (by have := h.size; omega) (by omega) fun h1 => by have := (hw.ownLt h1).1; omega⟩, Nat.le_trans h.size hr.size⟩
structure PuE (s : Ps) (f : Fc) (n0 b B X D base : Nat) (w0 w : World) (A : Option Addr) (c : Nat) (ps : List Pq) (one : Nat) (two : Int) (up : Option Addr) : Prop where
 wr : WrB B base A c ps w
 pages : ∀ g ∈ ps, PgAt B g w
 slim : ∀ g ∈ ps, g.fn ≤ 1000000 ∧ g.kn ≤ 1000000
 boxes : PuB s f b w0 w
 gr : w.heap[X]? = some (.cells #[.int .i64 one, .int .i64 two, .pointer up] 101 (0, 0))
 mark : w.heap[D]? = some (.deferred (some []))
 lB : b + 4 ≤ B
 lX : b + 4 ≤ X
 lD : b + 4 ≤ D
 lb : b ≤ base
 sz : base ≤ w.heap.size
 far : ∀ g ∈ ps, ∀ x, PgBl g x → (x < n0 ∧ ∃ g ∈ s.gs, PgBl g x) ∨ (x ≠ D ∧ b + 4 ≤ x)
theorem PuE.later {s : Ps} {f : Fc} {n0 b B X D base c one : Nat} {two : Int} {up A : Option Addr} {w0 w w' : World} {ps : List Pq} (h : PuE s f n0 b B X D base w0 w A c ps one two up) (hb : Below w.heap.size w w') : PuE s f n0 b B X D base w0 w' A c ps one two up :=
 ⟨h.wr.below hb, fun g hg => (h.pages g hg).turn (.of_below (lt_of_heap h.wr.box) hb), h.slim, h.boxes.later hb, (hb.block _ (lt_of_heap h.gr)).trans h.gr, (hb.block _ (lt_of_heap h.mark)).trans h.mark, h.lB, h.lX, h.lD, h.lb, Nat.le_trans h.sz hb.size, h.far⟩
theorem PuE.turn {s : Ps} {f : Fc} {n0 b B X D base c c2 one : Nat} {two : Int} {up A A2 : Option Addr} {w0 w w' : World} {ps ps2 : List Pq} (h : PuE s f n0 b B X D base w0 w A c ps one two up) (hr : WrR B w w') (hw : WrB B base A2 c2 ps2 w') (hp : ∀ g ∈ ps2, PgAt B g w') (hs : ∀ g ∈ ps2, g.fn ≤ 1000000 ∧ g.kn ≤ 1000000) (hf : ∀ g ∈ ps2, ∀ x, PgBl g x → (x < n0 ∧ ∃ g ∈ s.gs, PgBl g x) ∨ (x ≠ D ∧ b + 4 ≤ x)) : PuE s f n0 b B X D base w0 w' A2 c2 ps2 one two up :=
 ⟨hw, hp, hs, h.boxes.turn h.wr hr h.lB h.lb, hr.keep h.wr h.gr (fun e => by have h1 := h.wr.box; rw [← e, h.gr] at h1; cases h1) (fun _ e => by cases e), hr.keep h.wr h.mark (fun e => by have h1 := h.wr.box; rw [← e, h.mark] at h1; cases h1) (fun _ e => by cases e), h.lB, h.lX, h.lD, h.lb, Nat.le_trans h.sz hr.size, hf⟩
theorem PuE.only {s : Ps} {f : Fc} {n0 b B X D base c one one2 : Nat} {two : Int} {up A : Option Addr} {w0 w w' : World} {ps : List Pq} (h : PuE s f n0 b B X D base w0 w A c ps one two up) (hO : Only X w w') (hg : w'.heap[X]? = some (.cells #[.int .i64 one2, .int .i64 two, .pointer up] 101 (0, 0))) (hbl : ∀ g ∈ ps, ∀ x, PgBl g x → x ≠ X) : PuE s f n0 b B X D base w0 w' A c ps one2 two up := by
 have hBX : B ≠ X := fun e => by have h1 := h.wr.box; rw [e, h.gr] at h1; cases h1
 have hnX := not_own h.wr h.gr (fun _ e => by cases e)
 have hDX : D ≠ X := fun e => by have h1 := h.mark; rw [e, h.gr] at h1; cases h1
 have hown : ∀ x, OwnB B x w' → OwnB B x w := fun x ⟨A, n, c, h1, h2⟩ => ⟨A, n, c, (hO.block B hBX).symm.trans h1, h2⟩
 have hl := h.lX
 refine ⟨⟨(hO.block B hBX).trans h.wr.box, own_keepB h.wr.own fun x e => hO.block x fun e2 => hnX (e2 ▸ h.wr.owned e)⟩, fun g hg => (h.pages g hg).move fun x hx => ?_, h.slim, ?_, hg, (hO.block D hDX).trans h.mark, h.lB, hl, h.lD, h.lb, by have := h.sz; have := hO.size; omega, h.far⟩
 ·have ha := (h.pages g hg).away x hx
  exact ⟨hO.block x (hbl g hg x hx), by have := ha.1; have := hO.size; omega, ha.2.1, fun h1 => ha.2.2 (hown x h1)⟩
 ·have hq := h.boxes
  exact ⟨(hO.block _ (by omega)).trans hq.p, (hO.block _ (by omega)).trans hq.f, (hO.block _ (by omega)).trans hq.x, (hO.block _ (by omega)).trans hq.e, hq.below.trans ⟨hO.os, hO.tape, hO.output, by have := hO.size; omega, fun k hk => hO.block k (by omega)⟩, by have := hq.size; have := hO.size; omega⟩
set_option maxRecDepth 100000 in
set_option maxHeartbeats 8000000 in
theorem pgPut_any (s : Ps) (f : Fc) (n0 : Nat) (w : World) (hps : PsIn s w n0) (hn0 : n0 ≤ w.heap.size) (hsm : ∀ g ∈ s.gs, g.fn ≤ 1000000 ∧ g.kn ≤ 1000000) (hn : s.gs.length ≤ 100000 ∧ s.roots.length ≤ 100000) :
  Calls Tryz.prog 19 #[.agg #[.slice s.pA s.pn s.pc, .slice s.rA s.rn s.rc], .agg #[.int .i64 f.key.kind, .int .i64 f.key.subj, .int .i64 f.key.obj, .int .i64 f.val, .int .i64 f.fr, .int .i64 f.to, .int .i64 f.known, .int .i64 f.no]] w (PutPost s f w) := by
 obtain ⟨b, hb⟩ : ∃ b, w.heap.size = b := ⟨_, rfl⟩
 refine calls_of_wp_marks Tryz.func19 rfl ?_
 simp only [Tryz.ntmps19, List.size_toArray, List.length_cons, List.length_nil, Nat.reduceAdd, Nat.reduceSub, Array.replicate_succ, Array.replicate_zero, List.push_toArray, List.append_toArray, List.nil_append, List.cons_append]
 obtain ⟨V0, hV0⟩ : ∃ V, w.alloc (.cells #[.slice s.pA s.pn s.pc, .slice s.rA s.rn s.rc] 45) = V := ⟨_, rfl⟩
 obtain ⟨V1, hV1⟩ : ∃ V, V0.alloc (.cells #[.int .i64 f.key.kind, .int .i64 f.key.subj, .int .i64 f.key.obj, .int .i64 f.val, .int .i64 f.fr, .int .i64 f.to, .int .i64 f.known, .int .i64 f.no] 54) = V := ⟨_, rfl⟩
 obtain ⟨V2, hV2⟩ : ∃ V, V1.alloc (.cells #[.slice none 0 0, .slice none 0 0] 45) = V := ⟨_, rfl⟩
 obtain ⟨W0, hW0⟩ : ∃ W0, V2.alloc (.cells #[.int .i64 0] 31) = W0 := ⟨_, rfl⟩
 have z0 : V0.heap.size = b + 1 := by rw [← hV0]; simp [hb]
 have z1 : V1.heap.size = b + 2 := by rw [← hV1]; simp [z0]
 have z2 : V2.heap.size = b + 3 := by rw [← hV2]; simp [z1]
 have z3 : W0.heap.size = b + 4 := by rw [← hW0]; simp [z2]
 have c0 : Below b w V0 := by rw [← hV0, ← hb]; exact (Below.refl _ w).alloc (Nat.le_refl _) _
 have c1 : Below V0.heap.size V0 V1 := by rw [← hV1]; exact (Below.refl _ _).alloc (Nat.le_refl _) _
 have c2 : Below V1.heap.size V1 V2 := by rw [← hV2]; exact (Below.refl _ _).alloc (Nat.le_refl _) _
 have c3 : Below V2.heap.size V2 W0 := by rw [← hW0]; exact (Below.refl _ _).alloc (Nat.le_refl _) _
 have hst : PuB s f b w W0 := by
  refine ⟨?_, ?_, ?_, ?_, ((c0.trans (c1.mono (by omega))).trans (c2.mono (by omega))).trans (c3.mono (by omega)), by omega⟩
  ·refine (c3.block _ (by omega)).trans ((c2.block _ (by omega)).trans ((c1.block _ (by omega)).trans ?_))
   rw [← hV0, ← hb]; exact World.alloc_heap_new _ _
  ·refine (c3.block _ (by omega)).trans ((c2.block _ (by omega)).trans ?_)
   rw [← hV1, ← z0]; exact World.alloc_heap_new _ _
  ·refine (c3.block _ (by omega)).trans ?_
   rw [← hV2, ← z1]; exact World.alloc_heap_new _ _
  ·rw [← hW0, ← z2]; exact World.alloc_heap_new _ _
 have HSt := hidp hst
 have HPs : Hid (∀ W, Below b w W → PsIn s W W.heap.size) := fun W h => hps.keep (by have := h.size; omega) fun k hk => h.block k (by omega)
 have HPsN : Hid (∀ W, Below b w W → PsIn s W n0) := fun W h => hps.keep (Nat.le_refl _) fun k hk => h.block k (by omega)
 have hn0b : n0 ≤ b := by omega
 have HSm := hidp hsm
 have HN := hidp hn
 have HBs := hidp hb
 have p0 := cell_of_heap (o := 0) hst.p
 have p1 := cell_of_heap (o := 1) hst.p
 have lp := lt_of_heap hst.p
 simp only [List.getElem?_toArray, List.getElem?_cons_zero, List.getElem?_cons_succ] at p0 p1
 clear c0 c1 c2 c3 hst hps hsm hn
 go_wp2_with fail
 refine (pgCheck_any s W0 (HPs.out W0 HSt.out.below) HSm.out).mono ?_
 rintro e w1 ⟨rfl, hb1⟩
 have hst1 := HSt.out.later hb1
 have HSt1 := hidp hst1
 clear hst1 hb1
 obtain ⟨ck, hck⟩ : ∃ c, checkP (psV s) s.roots = c := ⟨_, rfl⟩
 rw [hck]
 have HCk := hidp hck
 clear hck p0 p1 lp hV0 hV1 hV2 hW0
 go_wp2_with fail
 refine (pgtry_any (errP ck) _).mono ?_
 rintro e w1 ⟨rfl, rfl⟩
 cases ck
 ·simp only [demandE, errP, Bool.false_eq_true, if_false, show ((470 : Int) == 0) = false from rfl]
  show LeavesInM Fence.wide 0 Tryz.prog Tryz.f19 _ (PutPost s f w) _ (.panicking [failV 470]) _
  refine leaves_call (f := 37) (args := #[.pointer (some ⟨b + 3, 0, none⟩)]) (by simp) (by simp [go_sem]) ?_
  refine (catchPW_panicking 0 (b + 3) 0 470 [] _ HSt1.out.e).mono ?_
  rintro en u' w9 ⟨rfl, rfl, h1, h2⟩
  have hce := cell_of_heap (o := 0) h1
  have hx9 := (h2.block (b + 2) (lt_of_heap HSt1.out.x) (by omega)).trans HSt1.out.x
  have hcx0 := cell_of_heap (o := 0) hx9
  have hcx1 := cell_of_heap (o := 1) hx9
  simp only [List.getElem?_toArray, List.getElem?_cons_zero, List.getElem?_cons_succ] at hce hcx0 hcx1
  have hb9 : Below w.heap.size w w9 := by have h3 := HSt1.out.below; have h4 := HSt1.out.size; rw [← HBs.out] at h3; exact h3.trans (h2.toBelow h3.size fun k hk e => by have := HBs.out; omega)
  simp [LeavesInM, LeavesIn, settle, results, Tryz.results19, go_sem, hce, hcx0, hcx1]
  have hpe : putErr s f = 470 := by unfold putErr; rw [HCk.out]; rfl
  have hpn : (470 : Int) ≠ 0 := by decide
  exact ⟨⟨none, 0, 0, [], none, 0, 0, []⟩, by rw [hpe], ⟨Rows.nil (by decide), (fun g hg => by cases hg), Rows.nil (by decide)⟩, hb9, (fun g hg => by cases hg), (fun h => absurd (hpe.symm.trans h) hpn), fun _ => ⟨rfl, rfl⟩, (fun x hx => by rcases hx with ⟨h, _⟩ | ⟨h, _⟩ | ⟨g, hg, _⟩; exact absurd h (by decide); exact absurd h (by decide); cases hg)⟩
 simp only [demandE, errP, if_true, show ((0 : Int) == 0) = true from rfl]
 have y0 := cell_of_heap (o := 0) HSt1.out.f
 have y1 := cell_of_heap (o := 1) HSt1.out.f
 have y2 := cell_of_heap (o := 2) HSt1.out.f
 have y3 := cell_of_heap (o := 3) HSt1.out.f
 have y4 := cell_of_heap (o := 4) HSt1.out.f
 have y5 := cell_of_heap (o := 5) HSt1.out.f
 have y6 := cell_of_heap (o := 6) HSt1.out.f
 have y7 := cell_of_heap (o := 7) HSt1.out.f
 have ly := lt_of_heap HSt1.out.f
 simp only [List.getElem?_toArray, List.getElem?_cons_zero, List.getElem?_cons_succ] at y0 y1 y2 y3 y4 y5 y6 y7
 go_wp2_with fail
 have bal : Below w1.heap.size w1 (w1.alloc (.cells (fEnc f).toArray 54)) := (Below.refl _ _).alloc (Nat.le_refl _) _
 refine (fCheck_any (some ⟨w1.heap.size, 0, none⟩) 1 1 [f] _ (rows_of_heap (g := w1.heap.size) (l := [f]) (c := 1) fEnc_len (World.alloc_heap_new w1 (.cells (fEnc f).toArray 54)) (by simp) (by decide) (by simp [fEnc]))).mono ?_
 rintro e w2 ⟨rfl, hb2⟩
 have hst2 := (HSt1.out.later bal).later hb2
 have HSt2 := hidp hst2
 clear hst2 hb2 bal y0 y1 y2 y3 y4 y5 y6 y7 ly
 obtain ⟨fe, hfe⟩ : ∃ c, checkF [f] = c := ⟨_, rfl⟩
 rw [hfe]
 have HFe := hidp hfe
 clear hfe
 go_wp2_with fail
 refine (pgtry_any fe _).mono ?_
 rintro e w3 ⟨rfl, rfl⟩
 by_cases hfz : fe = 0
 rotate_left
 ·have hf0 : (fe == 0) = false := by simpa using hfz
  simp only [demandE, hf0, Bool.false_eq_true, if_false]
  show LeavesInM Fence.wide 0 Tryz.prog Tryz.f19 _ (PutPost s f w) _ (.panicking [failV fe]) _
  refine leaves_call (f := 37) (args := #[.pointer (some ⟨b + 3, 0, none⟩)]) (by simp) (by simp [go_sem]) ?_
  refine (catchPW_panicking 0 (b + 3) 0 fe [] _ HSt2.out.e).mono ?_
  rintro en u' w9 ⟨rfl, rfl, h1, h2⟩
  have hce := cell_of_heap (o := 0) h1
  have hx9 := (h2.block (b + 2) (lt_of_heap HSt2.out.x) (by omega)).trans HSt2.out.x
  have hcx0 := cell_of_heap (o := 0) hx9
  have hcx1 := cell_of_heap (o := 1) hx9
  simp only [List.getElem?_toArray, List.getElem?_cons_zero, List.getElem?_cons_succ] at hce hcx0 hcx1
  have hb9 : Below w.heap.size w w9 := by have h3 := HSt2.out.below; have h4 := HSt2.out.size; rw [← HBs.out] at h3; exact h3.trans (h2.toBelow h3.size fun k hk e => by have := HBs.out; omega)
  simp [LeavesInM, LeavesIn, settle, results, Tryz.results19, go_sem, hce, hcx0, hcx1]
  have hpe : putErr s f = fe := by unfold putErr; rw [HCk.out, HFe.out]; simp [hfz]
  have hpn : fe ≠ 0 := hfz
  exact ⟨⟨none, 0, 0, [], none, 0, 0, []⟩, by rw [hpe], ⟨Rows.nil (by decide), (fun g hg => by cases hg), Rows.nil (by decide)⟩, hb9, (fun g hg => by cases hg), (fun h => absurd (hpe.symm.trans h) hpn), fun _ => ⟨rfl, rfl⟩, (fun x hx => by rcases hx with ⟨h, _⟩ | ⟨h, _⟩ | ⟨g, hg, _⟩; exact absurd h (by decide); exact absurd h (by decide); cases hg)⟩
 have hf0 : (fe == 0) = true := by simp [hfz]
 simp only [demandE, hf0, if_true]
 have HFz : Hid (checkF [f] = 0) := HFe.out.trans hfz
 clear hf0 hfz
 -- the last root
 have hroots := HCk.out
 have hcp := checkP_iff.1 hroots
 obtain ⟨r, hr⟩ : ∃ r, s.roots.getLast? = some r := by
  cases h : s.roots.getLast? with
  | some r => exact ⟨r, rfl⟩
  | none => rw [List.getLast?_eq_none_iff] at h; exact absurd h hcp.1
 obtain ⟨hr0, d, hgood⟩ := hcp.2 r (List.mem_of_getLast? hr)
 obtain ⟨q, rfl⟩ : ∃ q : Nat, r = (q : Int) := ⟨r.toNat, by omega⟩
 rw [Int.toNat_natCast] at hgood
 have hlast : lastR s.roots = q := by unfold lastR; rw [hr]; rfl
 have hPR := (HPs.out w2 HSt2.out.below).roots
 have hrn : s.rn = s.roots.length := hPR.1
 have hrc := hPR.2.1
 have hrcc := hPR.2.2.1
 have hrpos : 0 < s.rn := by
  rw [hrn]; exact List.length_pos_iff.2 hcp.1
 have hget : s.roots[s.rn - 1]? = some (q : Int) := by rw [hrn, ← List.getLast?_eq_getElem?]; exact hr
 obtain ⟨rb, off, v5, cs5, hA, hrb, hv5, rfl, hc5⟩ := Rows.get hPR (i := s.rn - 1) (by omega)
 rw [hget] at hv5; cases hv5
 have hcR := hc5 0 _ rfl
 rw [Nat.mul_one, Nat.add_zero] at hcR
 have hix : ∀ W, (Instr.indexAt 23 (.slice s.rA s.rn s.rc) (.int .i64 ((s.rn : Int) - 1))).run Tryz.prog W = .ok (.pointer (some ⟨rb, off + (s.rn - 1), none⟩)) W := fun W => by
  have := ix_intsP (n := s.rn) (c := s.rc) hA (k := s.rn - 1) (by omega) W
  rw [show ((s.rn - 1 : Nat) : Int) = (s.rn : Int) - 1 by omega] at this
  exact this
 have lR := lt_of_cell hcR
 have hrn1 : s.rn ≤ 100000 := by have := HN.out.2; omega
 have hgl : q < (psV s).length := hgood.1.lt
 have HGood := hidp hgood
 have HLast := hidp hlast
 have HRn := hidp hrn
 have HA := hidp hA
 have HGl := hidp hgl
 have p0 := cell_of_heap (o := 0) HSt2.out.p
 have p1 := cell_of_heap (o := 1) HSt2.out.p
 have lp := lt_of_heap HSt2.out.p
 simp only [List.getElem?_toArray, List.getElem?_cons_zero, List.getElem?_cons_succ] at p0 p1
 have HCk2 := hidp hroots
 clear hroots hcp hr hr0 hgood hlast hPR hrn hget hc5 hA hgl HCk
 go_wp2_with fail
 refine (pgall_any s (q : Int) w2).mono ?_
 rintro e w4 ⟨rfl, gp4, ga4, hb4⟩
 have hst4 := HSt2.out.later hb4
 have HSt4 := hidp hst4
 have hz4 : w2.heap.size + 2 ≤ w4.heap.size := by have := lt_of_heap ga4; omega
 have hbz : b + 4 ≤ w2.heap.size := HSt2.out.size
 obtain ⟨P2, hP2⟩ : ∃ P, w2.heap.size = P := ⟨_, rfl⟩
 rw [hP2] at gp4 ga4
 have HOkT : OkT (psV s) q := ⟨true, [], by rw [(walkP_iff (l := [])).2 ⟨HGood.out.1, rfl, ChainP.of_none.2 HGood.out.2⟩]; rfl⟩
 have HSeq := hidp (all1_seq s n0 (q + 1) q (by omega) HOkT P2 (P2 + 1) w4 (by omega) (by omega) gp4 ga4 (HPsN.out w4 HSt4.out.below) HSm.out)
 clear hst4 gp4 ga4 hb4 p0 p1 lp lR hcR hix
 rw [hP2]
 go_wp2_with fail
 have hl2 := lt_of_heap HSt4.out.p
 refine wp_rangeP (gf := 85) (lb := #[.pointer (some ⟨P2, 0, none⟩), .pointer (some ⟨P2 + 1, 0, none⟩)]) rfl (enters_of Tryz.func85 (by kernel_rfl) rfl) HSeq.out (fun _ => False) ?S (fun _ => rfl) ?CC
  (fun pre C W => C = (fun _ => False) ∧ Below w4.heap.size w4 W ∧ compB f pre = true)
  (fun _ _ _ => False)
  (fun ch C W => C = (fun _ => False) ∧ ch = [failV 470] ∧ Below w4.heap.size w4 W ∧ compB f (allT (psV s) q) = false)
  ?hI ?hIx ?h0
  (fun ll pre x C a' W => ∃ B7, C = (fun _ => False) ∧ Below w4.heap.size w4 W ∧ compB f pre = true ∧ B7 ≠ ll ∧ w4.heap.size ≤ B7 ∧ W.heap[B7]? = some (.cells #[.int .i64 x.key.kind, .int .i64 x.key.subj, .int .i64 x.key.obj, .int .i64 x.val, .int .i64 x.fr, .int .i64 x.to, .int .i64 x.known, .int .i64 x.no] 54 (0, 0)) ∧ a' = { tmps := #[.agg #[.slice s.pA s.pn s.pc, .slice s.rA s.rn s.rc], .agg #[.int .i64 f.key.kind, .int .i64 f.key.subj, .int .i64 f.key.obj, .int .i64 f.val, .int .i64 f.fr, .int .i64 f.to, .int .i64 f.known, .int .i64 f.no], .pointer (some ⟨b, 0, none⟩), .pointer (some ⟨b + 1, 0, none⟩), .pointer (some ⟨b + 2, 0, none⟩), .pointer (some ⟨b + 3, 0, none⟩), .int .i64 q, .pointer (some ⟨B7, 0, none⟩), undef, undef, .func (.func 37) #[] #[.pointer (some ⟨b + 3, 0, none⟩)], .agg #[.slice s.pA s.pn s.pc, .slice s.rA s.rn s.rc], .int .i64 0, .tuple #[], .agg #[.int .i64 f.key.kind, .int .i64 f.key.subj, .int .i64 f.key.obj, .int .i64 f.val, .int .i64 f.fr, .int .i64 f.to, .int .i64 f.known, .int .i64 f.no], .slice (some ⟨w1.heap.size, 0, none⟩) 1 1, .int .i64 fe, .tuple #[], .pointer (some ⟨b, 1, none⟩), .slice s.rA s.rn s.rc, .pointer (some ⟨b, 1, none⟩), .slice s.rA s.rn s.rc, .int .i64 s.rn, .int .i64 ((s.rn : Int) - 1), .pointer (some ⟨rb, off + (s.rn - 1), none⟩), .int .i64 q, .agg #[.slice s.pA s.pn s.pc, .slice s.rA s.rn s.rc], .int .i64 q, .func (.func 85) #[] #[.pointer (some ⟨P2, 0, none⟩), .pointer (some ⟨P2 + 1, 0, none⟩)], .agg #[.int .i64 x.key.kind, .int .i64 x.key.subj, .int .i64 x.key.obj, .int .i64 x.val, .int .i64 x.fr, .int .i64 x.to, .int .i64 x.known, .int .i64 x.no], undef, undef, undef, undef, undef, undef, undef, undef, undef, undef, undef, undef, undef, undef, undef, undef, undef, undef, undef, undef, undef, undef, undef, undef, undef, undef, undef, undef, undef, undef, undef, undef, undef, undef, undef, undef, undef, undef], defers := [] })
  ?hIp ⟨?hAx, ?assign, ?body⟩ ?done ?stop ?panic
 case S =>
  rintro k (hk | rfl | rfl)
  ·exact ⟨by have := HSt4.out.size; omega, rfl, fun h => h⟩
  ·exact ⟨by omega, rfl, fun h => h⟩
  ·exact ⟨by omega, rfl, fun h => h⟩
 case CC => exact fun k hk => hk.elim
 case hI =>
  rintro pre C1 W1 W2 ⟨rfl, h1, h2⟩ hk
  exact ⟨rfl, h1.trans (hk.toBelow h1.size fun k hk h => by omega), h2⟩
 case hIx => rintro c C1 W1 W2 h; exact h.elim
 case h0 => exact ⟨rfl, Below.refl _ _, rfl⟩
 case hIp =>
  rintro ch C1 W1 W2 ⟨rfl, h0, h1, h2⟩ hk
  exact ⟨rfl, h0, h1.trans (hk.toBelow h1.size fun k hk h => by omega), h2⟩
 case hAx =>
  rintro ll pre x C1 a' W2 W3 hll hnl ⟨B7, rfl, h1, h2, h3, h4, h5, rfl⟩ _ hk
  exact ⟨B7, rfl, h1.trans (hk.toBelow h1.size fun k hk h => by omega), h2, h3, h4, (hk.block _ (lt_of_heap h5) h3).trans h5, rfl⟩
 case assign =>
  rintro ll m pre x suf C1 W1 K hll hlt hnl _ ⟨rfl, h1, h2⟩ _ hK
  have H1 := hidp h1
  have H2 := hidp h2
  clear h1 h2
  simp only [fArgs]
  gi_wp2
  exact hK _ _ ((Kept.refl _ _).alloc _) ⟨W1.heap.size, (by first | rfl | trivial), H1.out.alloc (by have := H1.out.size; omega) _, H2.out, by omega, by omega, World.alloc_heap_new _ _, rfl⟩
 case body =>
  rintro ll m pre x suf C1 a' W2 hll hnl hxs ⟨B7, rfl, h1, h2, h3, h4, h5, rfl⟩ _ _
  have HSt5 := hidp (HSt4.out.later h1)
  have H1 := hidp h1
  have H2 := hidp h2
  have HXs := hidp hxs
  have f0 := cell_of_heap (o := 0) h5
  have f1 := cell_of_heap (o := 1) h5
  have f2 := cell_of_heap (o := 2) h5
  have f3 := cell_of_heap (o := 3) h5
  have f4 := cell_of_heap (o := 4) h5
  have f5 := cell_of_heap (o := 5) h5
  have f6 := cell_of_heap (o := 6) h5
  have f7 := cell_of_heap (o := 7) h5
  have f8 := lt_of_heap h5
  have y0 := cell_of_heap (o := 0) HSt5.out.f
  have y1 := cell_of_heap (o := 1) HSt5.out.f
  have y2 := cell_of_heap (o := 2) HSt5.out.f
  have y3 := cell_of_heap (o := 3) HSt5.out.f
  have y4 := cell_of_heap (o := 4) HSt5.out.f
  have y5 := cell_of_heap (o := 5) HSt5.out.f
  have y6 := cell_of_heap (o := 6) HSt5.out.f
  have y7 := cell_of_heap (o := 7) HSt5.out.f
  have ly := lt_of_heap HSt5.out.f
  simp only [List.getElem?_toArray, List.getElem?_cons_zero, List.getElem?_cons_succ] at f0 f1 f2 f3 f4 f5 f6 f7 y0 y1 y2 y3 y4 y5 y6 y7
  clear h1 h2 hxs h5
  refine wpK_block (wpK_region_lit ?_)
  gi_wp2_with fail
  refine ⟨trivial, fun h => by simp [Fence.wide] at h, (CallsIn.inRound ll (callsIn_wide.2 (pgcmp_any f x W2))).mono ?_⟩
  rintro e w7 ⟨rfl, hb7⟩
  have HB7 := hidp hb7.b
  clear hb7
  obtain ⟨z, hz⟩ : ∃ z, (cmpP f x != 0) = z := ⟨_, rfl⟩
  have HZ := hidp hz
  gi_wp2_with fail
  refine ⟨trivial, fun h => by simp [Fence.wide] at h, (CallsIn.inRound ll (callsIn_wide.2 (demand_any z 470 w7))).mono ?_⟩
  rintro e w8 ⟨rfl, rfl⟩
  have HK7 : Hid (Kept (fun _ => False) W2 w7) := (Kept.refl _ W2).below HB7.out fun k h1 h2 => by omega
  have HB8 : Hid (Below w4.heap.size w4 w7) := H1.out.trans (HB7.out.mono H1.out.size)
  clear hz f0 f1 f2 f3 f4 f5 f6 f7 f8 y0 y1 y2 y3 y4 y5 y6 y7 ly
  cases z
  ·simp only [demandE, Bool.false_eq_true, if_false]
   refine ⟨rfl, fun _ => False, HK7.out, (fun k hk => hk.elim), (by first | rfl | trivial), rfl, HB8.out, ?_⟩
   rw [HXs.out]
   unfold compB
   rw [List.all_append]
   have hz2 := HZ.out
   simp at hz2
   simp [hz2]
  ·simp only [demandE, if_true]
   gi_wp2
   refine ⟨fun _ => False, HK7.out, (fun k hk => hk.elim), (by first | rfl | trivial), HB8.out, ?_⟩
   unfold compB
   have hz2 := HZ.out
   have h2 := H2.out
   unfold compB at h2
   rw [List.all_append, h2]
   simp at hz2
   simp [hz2]
 case stop => rintro D c C' W _ _ _ h; exact h.elim
 case panic =>
  rintro D ch C' W hD hlt _ ⟨rfl, rfl, hb5, hcmp⟩ hDh
  have hst5 := (HSt4.out.later hb5).put (D := D) (by have := HSt4.out.size; omega) (.deferred none)
  have HSt5 := hidp hst5
  have HCmp := hidp hcmp
  show LeavesInM Fence.wide 0 Tryz.prog Tryz.f19 _ (PutPost s f w) _ (.panicking [failV 470]) _
  refine leaves_mark (by simp) hDh ?_
  refine leaves_call (f := 37) (args := #[.pointer (some ⟨b + 3, 0, none⟩)]) (by simp) (by simp [go_sem]) ?_
  refine (catchPW_panicking 0 (b + 3) 0 470 [] _ HSt5.out.e).mono ?_
  rintro en u' w9 ⟨rfl, rfl, h1, h2⟩
  have hce := cell_of_heap (o := 0) h1
  have hx9 := (h2.block (b + 2) (lt_of_heap HSt5.out.x) (by omega)).trans HSt5.out.x
  have hcx0 := cell_of_heap (o := 0) hx9
  have hcx1 := cell_of_heap (o := 1) hx9
  simp only [List.getElem?_toArray, List.getElem?_cons_zero, List.getElem?_cons_succ] at hce hcx0 hcx1
  have hb9 : Below w.heap.size w w9 := by have h3 := HSt5.out.below; have h4 := HSt5.out.size; rw [← HBs.out] at h3; exact h3.trans (h2.toBelow h3.size fun k hk e => by have := HBs.out; omega)
  simp [LeavesInM, LeavesIn, settle, results, Tryz.results19, go_sem, hce, hcx0, hcx1]
  have hpe : putErr s f = 470 := by unfold putErr; rw [if_pos HCk2.out, if_pos HFz.out, HLast.out, HCmp.out]; rfl
  have hpn : (470 : Int) ≠ 0 := by decide
  exact ⟨⟨none, 0, 0, [], none, 0, 0, []⟩, by rw [hpe], ⟨Rows.nil (by decide), (fun g hg => by cases hg), Rows.nil (by decide)⟩, hb9, (fun g hg => by cases hg), (fun h => absurd (hpe.symm.trans h) hpn), fun _ => ⟨rfl, rfl⟩, (fun x hx => by rcases hx with ⟨h, _⟩ | ⟨h, _⟩ | ⟨g, hg, _⟩; exact absurd h (by decide); exact absurd h (by decide); cases hg)⟩
 case done =>
  rintro D C' W hD hlt _ ⟨rfl, hb5, hcmp⟩ hDh
  have hst5 := HSt4.out.later hb5
  have HSt5 := hidp hst5
  have HCmp := hidp hcmp
  have HDh := hidp hDh
  clear hst5 hb5 hcmp hDh
  have p0 := cell_of_heap (o := 0) HSt5.out.p
  have p1 := cell_of_heap (o := 1) HSt5.out.p
  have lp := lt_of_heap HSt5.out.p
  simp only [List.getElem?_toArray, List.getElem?_cons_zero, List.getElem?_cons_succ] at p0 p1
  go_wp2_with fail
  have hPg := (HPs.out W HSt5.out.below).pages
  have hpn : s.pn = s.gs.length := hPg.1
  have hn5 := HN.out.1
  refine (pgClone_any s.pA s.pn s.pc s.gs W hPg (by omega)).mono ?_
  rintro e w5 ⟨v5, rfl, ho5, _, _, hb5⟩
  rw [hpn] at ho5
  obtain ⟨A5, c5, rfl, _, _⟩ := own_slice pgEnc_len (by decide) ho5
  obtain ⟨W6, hW6⟩ : ∃ W6, w5.alloc (.cells #[.slice A5 s.gs.length c5] 98) = W6 := ⟨_, rfl⟩
  have b56 : Below w5.heap.size w5 W6 := hW6 ▸ (Below.refl _ _).alloc (Nat.le_refl _) _
  have bW6 : Below W.heap.size W W6 := hb5.trans (b56.mono hb5.size)
  have hwr : WrB w5.heap.size W.heap.size A5 c5 s.gs W6 := ⟨hW6 ▸ World.alloc_heap_new _ _, own_keepB ho5 fun k e => b56.block k (ho5.lt k e).2⟩
  have hz6 : W6.heap.size = w5.heap.size + 1 := by rw [← hW6]; simp
  have hst6 := HSt5.out.later bW6
  have hWb : b + 4 ≤ W.heap.size := HSt5.out.size
  have hps6 : ∀ g ∈ s.gs, PgAt w5.heap.size g W6 := fun g hg => by
   refine ⟨(HPs.out W6 hst6.below).each g hg, fun x hx => ?_⟩
   have hlt := hx.lt ((HPsN.out W6 hst6.below).each g hg)
   have := hb5.size
   exact ⟨by omega, by omega, fun h1 => by have := (hwr.ownLt h1).1; omega⟩
  have hmk : W6.heap[D]? = some (.deferred (some [])) := (bW6.block D hlt).trans HDh.out
  obtain ⟨B, hB⟩ : ∃ B, w5.heap.size = B := ⟨_, rfl⟩
  rw [hB] at hwr hps6 hz6
  have hBb : b + 4 ≤ B := by have := hb5.size; omega
  have hDb : b + 4 ≤ D := by have := HSt4.out.size; omega
  have HWr := hidp hwr
  have HPs6 := hidp hps6
  have HSt6 := hidp hst6
  have HMk := hidp hmk
  have HBW := hidp bW6
  have HPn := hidp hpn
  have HW6 := hidp hW6
  have q0 := cell_of_heap (o := 0) HSt6.out.f
  have q1 := cell_of_heap (o := 1) HSt6.out.f
  have q2 := cell_of_heap (o := 2) HSt6.out.f
  have q3 := cell_of_heap (o := 3) HSt6.out.f
  have q4 := cell_of_heap (o := 4) HSt6.out.f
  have q5 := cell_of_heap (o := 5) HSt6.out.f
  have q6 := cell_of_heap (o := 6) HSt6.out.f
  have q7 := cell_of_heap (o := 7) HSt6.out.f
  have lq := lt_of_heap HSt6.out.f
  simp only [List.getElem?_toArray, List.getElem?_cons_zero, List.getElem?_cons_succ] at q0 q1 q2 q3 q4 q5 q6 q7
  rw [hpn]
  clear hwr hps6 hst6 hmk bW6 hpn b56 ho5 hPg p0 p1 lp
  go_wp2_with fail
  have hZ6 : W.heap.size ≤ W6.heap.size := HBW.out.size
  refine (pginsert_any B W.heap.size f (q + 1) q (by omega) s.gs true d A5 c5 W6 HWr.out hZ6 HPs6.out HGood.out.1 HGood.out.2.2 (comp_of HCmp.out) (by have := HGl.out; rw [psV_len] at this; omega)).mono ?_
  rintro e w7 ⟨new, one, two, up, ov, A', c', rfl, hd⟩
  simp only [grV]
  obtain ⟨W8, hW8⟩ : ∃ W8, w7.alloc (.cells #[.int .i64 one, .int .i64 two, .pointer up] 101) = W8 := ⟨_, rfl⟩
  have b78 : Below w7.heap.size w7 W8 := hW8 ▸ (Below.refl _ _).alloc (Nat.le_refl _) _
  have hd8 := hd.later b78
  have hsz78 := hd.turn.size
  have hE : PuE s f n0 b B w7.heap.size D W.heap.size w W8 A' c' (s.gs ++ new) one two up := by
   refine ⟨hd8.wr, hd8.pages, fun g hg => ?_, (HSt6.out.turn HWr.out hd.turn hBb (by omega)).later b78, hW8 ▸ World.alloc_heap_new _ _, (b78.block _ (lt_of_heap (hd.turn.keep HWr.out HMk.out (by have := lt_of_heap HMk.out; have := hz6; intro e; have h1 := HWr.out.box; rw [← e, HMk.out] at h1; cases h1) (fun _ e => by cases e)))).trans (hd.turn.keep HWr.out HMk.out (by intro e; have h1 := HWr.out.box; rw [← e, HMk.out] at h1; cases h1) (fun _ e => by cases e)), hBb, by omega, hDb, by omega, by have := b78.size; omega, fun g hg x hx => ?_⟩
   rotate_left
   ·rcases List.mem_append.1 hg with h | h
    ·exact .inl ⟨hx.lt ((HPsN.out W6 HSt6.out.below).each g h), g, h, hx⟩
    ·have := (hd8.fresh g h x hx).1
     right
     omega
   rcases List.mem_append.1 hg with h | h
   ·exact HSm.out g h
   ·exact hd8.slim g h
  have HE := hidp hE
  have HD8 := hidp hd8
  obtain ⟨X9, hX9⟩ : ∃ X, w7.heap.size = X := ⟨_, rfl⟩
  rw [hX9] at hE
  have HE9 := hidp hE
  have HW8 := hidp hW8
  have hlim2 : (s.gs ++ new).length ≤ 900000 := by have := hd8.few; have := HGl.out; rw [psV_len] at this; rw [List.length_append]; omega
  clear hd hd8 b78 hE q0 q1 q2 q3 q4 q5 q6 q7 lq
  have r0 := cell_of_heap (o := 0) HE9.out.gr
  have r1 := cell_of_heap (o := 1) HE9.out.gr
  have r2 := cell_of_heap (o := 2) HE9.out.gr
  have r3 := lt_of_heap HE9.out.gr
  have r4 := frozen_of_heap (o := 0) HE9.out.gr
  simp only [List.getElem?_toArray, List.getElem?_cons_zero, List.getElem?_cons_succ] at r0 r1 r2
  go_upto_if 44 with fail
  go_cut [] from 45 to 57 (fun wx => ∃ A2 c2 ps2 one2 two2 up2, PuE s f n0 b B X9 D W.heap.size w wx A2 c2 ps2 one2 two2 up2 ∧ (ps2.map pgV, one2) = putW (psV s) q f ∧ ps2.length ≤ 1000000)
  case first =>
   rcases ov with _ | ⟨m, b2⟩
   ·have hup := HD8.out.none rfl
    subst hup
    go_wp2_with fail
    go_meet
    refine ⟨_, _, _, _, _, _, HE9.out, ?_, by omega⟩
    have hi : insW f (q + 1) (psV s) q = _ := HD8.out.ins
    unfold putW
    rw [hi]
   ·obtain ⟨rfl, u, rfl, hu, hua, hu6⟩ := HD8.out.some m b2 rfl
    have HU := hidp hu
    have HUa := hidp hua
    have m0 := cell_of_heap (o := 0) hu
    have m1 := cell_of_heap (o := 1) hu
    have m2 := cell_of_heap (o := 2) hu
    have m3 := cell_of_heap (o := 3) hu
    have m4 := cell_of_heap (o := 4) hu
    have m5 := cell_of_heap (o := 5) hu
    have m6 := cell_of_heap (o := 6) hu
    have m7 := cell_of_heap (o := 7) hu
    have m8 := lt_of_heap hu
    simp only [fEnc, List.getElem?_toArray, List.getElem?_cons_zero, List.getElem?_cons_succ] at m0 m1 m2 m3 m4 m5 m6 m7
    have hB8 := lt_of_heap HE9.out.wr.box
    have hX9n : ∀ g ∈ s.gs ++ new, ∀ x, PgBl g x → x ≠ X9 := fun g hg x hx e => by
     rcases List.mem_append.1 hg with hg | hg
     ·have := hx.lt ((HPsN.out W6 HSt6.out.below).each g hg)
      have := HE9.out.lX
      omega
     ·obtain ⟨_, cur, t, h1, h2⟩ := HD8.out.fresh g hg x hx
      rw [e, HE9.out.gr] at h1; cases h1
      rcases h2 with h2 | h2 <;> exact absurd h2 (by decide)
    have HXn := hidp hX9n
    clear hu hua hX9n
    go_wp2_with fail
    refine wp_region_YS (WrR B) 13 (fun k => k == 11) (fun k => k == 4 || k == 9 || k == 10 || k == 11) (fun k => k == 0 || k == 1 || k == 2 || k == 3 || k == 4 || k == 5 || k == 6 || k == 7 || k == 8 || k == 9 || k == 10 || k == 11) (fun _ _ _ h k => h.trans k) (fun w1 w2 h hb => .of_below (by rcases h with rfl | h; exact hB8; exact Nat.lt_of_lt_of_le h.lt h.size) hb) (by kernel_rfl) (by kernel_rfl) (by kernel_rfl) (by kernel_rfl) (by kernel_rfl) (by kernel_rfl) ?_
    dsimp only [List.take, List.drop]
    apply zs_det (mask := []) (S := (Below W8.heap.size W8)) (m := (fun w => Below w.heap.size w)) (hS := by rfl) (hm := by rfl) (hg := by kernel_rfl) (hk := by kernel_rfl)
    ·dsimp only [oblS]
     rintro w9 h9
     go_simp
     exact ⟨Below.refl _ _, rfl⟩
    dsimp only [naL, caL]
    apply zs_det (mask := [true]) (S := (Below W8.heap.size W8)) (m := (fun w => Below w.heap.size w)) (x := .pointer (some ⟨u, 0, none⟩)) (hS := by rfl) (hm := by rfl) (hg := by kernel_rfl) (hk := by kernel_rfl)
    ·dsimp only [oblS]
     rintro w9 h9
     have hc9 := (bcell h9).1
     go_simp
     exact ⟨Below.refl _ _, rfl⟩
    dsimp only [naL, caL]
    apply zs_det (mask := [false, true]) (S := (Below W8.heap.size W8)) (m := (fun w => Below w.heap.size w)) (hS := by rfl) (hm := by rfl) (hg := by kernel_rfl) (hk := by kernel_rfl)
    ·dsimp only [oblS]
     rintro w9 h9
     go_simp
     exact ⟨Below.refl _ _, rfl⟩
    dsimp only [naL, caL]
    apply zs_det (mask := [false, false, true]) (S := (Below W8.heap.size W8)) (m := (fun w => Below w.heap.size w)) (x := .agg #[.int .i64 m.key.kind, .int .i64 m.key.subj, .int .i64 m.key.obj, .int .i64 m.val, .int .i64 m.fr, .int .i64 m.to, .int .i64 m.known, .int .i64 m.no]) (hS := by rfl) (hm := by rfl) (hg := by kernel_rfl) (hk := by kernel_rfl)
    ·dsimp only [oblS]
     rintro w9 h9
     have hc9 := (bcell h9).1
     go_simp
     exact ⟨Below.refl _ _, rfl⟩
    dsimp only [naL, caL]
    apply zs_any (mask := [false, false, false, true]) (S := (Below W8.heap.size W8)) (m := (fun w => Below w.heap.size w)) (T := fun v w => ∃ x, v = .slice (some ⟨x, 0, none⟩) 1 1 ∧ W8.heap.size ≤ x ∧ w.heap[x]? = some (.cells (fEnc m).toArray 54 (0, 0))) (hT := fun v w w' hb ⟨x, e, h1, h2⟩ => ⟨x, e, h1, (hb.block x (lt_of_heap h2)).trans h2⟩) (hf := by kernel_rfl) (hS := by rfl) (hm := by rfl) (hg := by kernel_rfl) (hk := by kernel_rfl)
    ·dsimp only [oblS]
     rintro w9 h9 T' hT'
     go_simp
     exact ⟨(Below.refl _ _).alloc (Nat.le_refl _) _, hT' _ _ ⟨_, rfl, h9.size, World.alloc_heap_new _ _⟩⟩
    dsimp only [naL, caL]
    apply zs_det (mask := [false, false, false, false, false]) (S := (Below W8.heap.size W8)) (m := (fun w => Below w.heap.size w)) (hS := by rfl) (hm := by rfl) (hg := by kernel_rfl) (hk := by kernel_rfl)
    ·dsimp only [oblS]
     rintro w9 h9
     go_simp
     exact ⟨Below.refl _ _, rfl⟩
    dsimp only [naL, caL]
    apply zs_det (mask := [false, false, false, false, false, true]) (S := (Below W8.heap.size W8)) (m := (fun w => Below w.heap.size w)) (x := .int .i64 one) (hS := by rfl) (hm := by rfl) (hg := by kernel_rfl) (hk := by kernel_rfl)
    ·dsimp only [oblS]
     rintro w9 h9
     have hc9 := (bcell h9).1
     go_simp
     exact ⟨Below.refl _ _, rfl⟩
    dsimp only [naL, caL]
    apply zs_det (mask := [false, false, false, false, false, false, false]) (S := (Below W8.heap.size W8)) (m := (fun w => Below w.heap.size w)) (hS := by rfl) (hm := by rfl) (hg := by kernel_rfl) (hk := by kernel_rfl)
    ·dsimp only [oblS]
     rintro w9 h9
     go_simp
     exact ⟨Below.refl _ _, rfl⟩
    dsimp only [naL, caL]
    apply zs_det (mask := [false, false, false, false, false, false, false, true]) (S := (Below W8.heap.size W8)) (m := (fun w => Below w.heap.size w)) (x := .int .i64 (b2 : Nat)) (hS := by rfl) (hm := by rfl) (hg := by kernel_rfl) (hk := by kernel_rfl)
    ·dsimp only [oblS]
     rintro w9 h9
     have hc9 := (bcell h9).1
     go_simp
     exact ⟨Below.refl _ _, rfl⟩
    dsimp only [naL, caL]
    apply zs_any (mask := [false, false, false, false, false, false, true, false, true]) (S := (Below W8.heap.size W8)) (m := (fun w => Below w.heap.size w)) (T := fun v w => ∃ x, v = .slice (some ⟨x, 0, none⟩) 2 2 ∧ W8.heap.size ≤ x ∧ w.heap[x]? = some (.cells ([(one : Int), (b2 : Int)].flatMap iEnc).toArray 3 (0, 0))) (hT := fun v w w' hb ⟨x, e, h1, h2⟩ => ⟨x, e, h1, (hb.block x (lt_of_heap h2)).trans h2⟩) (hf := by kernel_rfl) (hS := by rfl) (hm := by rfl) (hg := by kernel_rfl) (hk := by kernel_rfl)
    ·dsimp only [oblS]
     rintro w9 h9 T' hT'
     go_simp
     exact ⟨(Below.refl _ _).alloc (Nat.le_refl _) _, hT' _ _ ⟨_, rfl, h9.size, World.alloc_heap_new _ _⟩⟩
    dsimp only [naL, caL]
    apply zs_any (mask := [false, false, false, false, true, false, false, false, false, true]) (S := (Below W8.heap.size W8)) (m := (fun w => Below w.heap.size w)) (T := fun v w => ∃ x y, v = .agg #[.slice (some ⟨x, 0, none⟩) 1 1, .slice (some ⟨y, 0, none⟩) 2 2] ∧ W8.heap.size ≤ x ∧ W8.heap.size ≤ y ∧ w.heap[x]? = some (.cells (fEnc m).toArray 54 (0, 0)) ∧ w.heap[y]? = some (.cells ([(one : Int), (b2 : Int)].flatMap iEnc).toArray 3 (0, 0))) (hT := fun v w w' hb ⟨x, y, e, h1, h2, h3, h4⟩ => ⟨x, y, e, h1, h2, (hb.block x (lt_of_heap h3)).trans h3, (hb.block y (lt_of_heap h4)).trans h4⟩) (hf := by kernel_rfl) (hS := by rfl) (hm := by rfl) (hg := by kernel_rfl) (hk := by kernel_rfl)
    ·dsimp only [oblS]
     intro v49 v54
     rintro w9 ⟨⟨h9, t49⟩, t54⟩ T' hT'
     obtain ⟨x, rfl, hx1, hx2⟩ := t49
     obtain ⟨y, rfl, hy1, hy2⟩ := t54
     go_simp
     exact ⟨Below.refl _ _, hT' _ _ ⟨_, _, rfl, hx1, hy1, hx2, hy2⟩⟩
    dsimp only [naL, caL]
    apply zs_any (mask := [false, false, false, false, false, false, false, false, false, false, true]) (S := (Below W8.heap.size W8)) (m := (WrR B)) (T := fun v w => ∃ x y A7 c7, v = .int .i64 ((s.gs ++ new).length : Nat) ∧ WrB B W.heap.size A7 c7 (s.gs ++ new ++ [⟨some ⟨x, 0, none⟩, 1, 1, [m], some ⟨y, 0, none⟩, 2, 2, [(one : Int), (b2 : Int)]⟩]) w ∧ W8.heap.size ≤ x ∧ W8.heap.size ≤ y ∧ Away B x w ∧ Away B y w ∧ w.heap[x]? = some (.cells (fEnc m).toArray 54 (0, 0)) ∧ w.heap[y]? = some (.cells ([(one : Int), (b2 : Int)].flatMap iEnc).toArray 3 (0, 0))) (hT := fun v w w' hb ⟨x, y, A7, c7, e, h1, h2, h3, h4, h5, h6, h7⟩ => ⟨x, y, A7, c7, e, h1.below hb, h2, h3, h4.turn (.of_below (lt_of_heap h1.box) hb), h5.turn (.of_below (lt_of_heap h1.box) hb), (hb.block x h4.1).trans h6, (hb.block y h5.1).trans h7⟩) (hf := by kernel_rfl) (hS := by rfl) (hm := by rfl) (hg := by kernel_rfl) (hk := by kernel_rfl)
    ·dsimp only [oblS]
     intro v55
     rintro w9 ⟨h9, t55⟩ T' hT'
     obtain ⟨x, y, rfl, hx1, hy1, hx2, hy2⟩ := t55
     go_simp
     have hw9 := HE9.out.wr.below h9
     have ax := Away.new HE9.out.wr h9 hx1 (lt_of_heap hx2)
     have ay := Away.new HE9.out.wr h9 hy1 (lt_of_heap hy2)
     refine (pgadd_any B W.heap.size A' c' (s.gs ++ new) ⟨some ⟨x, 0, none⟩, 1, 1, [m], some ⟨y, 0, none⟩, 2, 2, [(one : Int), (b2 : Int)]⟩ w9 hw9 (by have := HE9.out.sz; have := h9.size; omega) (by omega)).mono ?_
     rintro e w7 ⟨rfl, A7, c7, hw7, hat7, hk7⟩
     have hr7 := WrR.of_add hw9 hw7 hk7 (by simpa [Nat.add_assoc] using hat7)
     exact ⟨_, rfl, hr7, hT' _ _ ⟨x, y, A7, c7, rfl, hw7, hx1, hy1, ax.turn hr7, ay.turn hr7, (ax.same hr7).trans hx2, (ay.same hr7).trans hy2⟩⟩
    dsimp only [naL, caL]
    apply zs_det (mask := [false, false, false, false, false, false, false, false, false, false, false, false]) (S := ((WrR B) W8)) (m := (fun w => Below w.heap.size w)) (hS := by rfl) (hm := by rfl) (hg := by kernel_rfl) (hk := by kernel_rfl)
    ·dsimp only [oblS]
     rintro w9 h9
     go_simp
     exact ⟨Below.refl _ _, rfl⟩
    dsimp only [naL, caL]
    refine zs_end [false, false, false, false, true, false, false, false, false, true, true, false, false] (by kernel_rfl) (by kernel_rfl) ?_
    dsimp only [finQ]
    rintro v49 v54 v55 v56 w9 ⟨hr9, ⟨x, y, A7, c7, rfl, hw9, hx1, hy1, hxa, hya, hx2, hy2⟩⟩
    have hg2 : PgAt B ⟨some ⟨x, 0, none⟩, 1, 1, [m], some ⟨y, 0, none⟩, 2, 2, [(one : Int), (b2 : Int)]⟩ w9 := by
     refine ⟨⟨rows_of_heap (l := [m]) (c := 1) fEnc_len hx2 (by simp) (by omega) (by simp [fEnc]), rows_of_heap (l := [(one : Int), (b2 : Int)]) (c := 2) iEnc_len hy2 (by simp) (by omega) (by simp [iEnc])⟩, ?_⟩
     rintro k (⟨_, off, e⟩ | ⟨_, off, e⟩)
     ·cases e; exact hxa
     ·cases e; exact hya
    have hE10 := HE9.out.turn hr9 hw9 (fun g hg => by
     rcases List.mem_append.1 hg with hg | hg
     ·exact (HE9.out.pages g hg).turn hr9
     ·rw [List.mem_singleton] at hg; subst hg; exact hg2) (fun g hg => by
     rcases List.mem_append.1 hg with hg | hg
     ·exact HE9.out.slim g hg
     ·rw [List.mem_singleton] at hg; subst hg; simp) (fun g hg k hk => by
     rcases List.mem_append.1 hg with hg | hg
     ·exact HE9.out.far g hg k hk
     ·rw [List.mem_singleton] at hg; subst hg
      have h1 := lt_of_heap HE9.out.mark
      have h2 := HE9.out.boxes.size
      right
      rcases hk with ⟨_, off, e⟩ | ⟨_, off, e⟩
      ·cases e; omega
      ·cases e; omega)
    have hbl : ∀ g ∈ s.gs ++ new ++ [⟨some ⟨x, 0, none⟩, 1, 1, [m], some ⟨y, 0, none⟩, 2, 2, [(one : Int), (b2 : Int)]⟩], ∀ k, PgBl g k → k ≠ X9 := fun g hg k hk => by
     rcases List.mem_append.1 hg with hg | hg
     ·exact HXn.out g hg k hk
     ·rw [List.mem_singleton] at hg; subst hg
      have := lt_of_heap HE9.out.gr
      rcases hk with ⟨_, off, e⟩ | ⟨_, off, e⟩
      ·cases e; omega
      ·cases e; omega
    have hset := heap_setN hE10.gr 0 (.int .i64 ((s.gs ++ new).length : Nat))
    have hE11 := hE10.only (Only.setCell w9 X9 0 (.int .i64 ((s.gs ++ new).length : Nat))) (one2 := (s.gs ++ new).length) (by simpa using hset) hbl
    have hcast : (((s.gs ++ new).length : Nat) : Int) = (s.gs.length : Int) + (new.length : Int) := by simp
    rw [hcast] at hE11
    have HE11 := hidp hE11
    have s0 := cell_of_heap (o := 0) hE10.gr
    have s1 := lt_of_heap hE10.gr
    have s2 := frozen_of_heap (o := 0) hE10.gr
    simp only [List.getElem?_toArray, List.getElem?_cons_zero] at s0
    clear hcast hE11 hset hbl hE10 hg2 hw9 hxa hya hx2 hy2 hr9 r0 r1 r2 r3 r4 m0 m1 m2 m3 m4 m5 m6 m7 m8
    go_simp
    go_wp2_with fail
    go_meet
    refine ⟨_, _, _, _, _, _, HE11.out, ?_, ?_⟩
    ·have hi : insW f (q + 1) (psV s) q = _ := HD8.out.ins
     unfold putW
     rw [hi]
     simp [pgV]
    ·simp at hlim2 ⊢; omega
  case rest =>
   obtain ⟨A2, c2, ps2, one2, two2, up2, hE, hput, hlim3⟩ := hcut
   rename World => wz
   have HZ := hidp hE
   have HPut := hidp hput
   obtain ⟨i0, hi, hz, hss, hbb⟩ := info_parts iInfo
   have hZs := HZ.out.sz
   have hZb := HZ.out.boxes.size
   have q0 := cell_of_heap (o := 0) HZ.out.wr.box
   have q1 := lt_of_heap HZ.out.wr.box
   have p1 := cell_of_heap (o := 1) HZ.out.boxes.p
   have lp := lt_of_heap HZ.out.boxes.p
   have r0 := cell_of_heap (o := 0) HZ.out.gr
   have r3 := lt_of_heap HZ.out.gr
   have hRo := (HPs.out wz HZ.out.boxes.below).roots
   have hrl : s.rn = s.roots.length := hRo.1
   have HRo : Hid (∀ W', Below wz.heap.size wz W' → iSl W' W'.heap.size s.rA s.rn s.rc s.roots) := fun W' h => hRo.keep (Rep.flat_stable _) h.size h.block
   have HRl := hidp hrl
   simp only [List.getElem?_toArray, List.getElem?_cons_zero, List.getElem?_cons_succ] at q0 p1 r0
   clear hE hput hRo hrl
   go_wp2_with fail
   refine wp_region_YS (Below wz.heap.size) 10 (fun k => k == 8) (fun k => k == 4 || k == 7 || k == 8 || k == 9) (fun k => k == 2 || k == 3 || k == 4 || k == 5 || k == 6 || k == 7) (fun _ _ _ h k => h.trans k) (fun w1 w2 h hb => hb.mono (by rcases h with rfl | h; exact Nat.le_refl _; exact h.size)) (by kernel_rfl) (by kernel_rfl) (by kernel_rfl) (by kernel_rfl) (by kernel_rfl) (by kernel_rfl) ?_
   dsimp only [List.take, List.drop]
   apply zs_det (mask := []) (S := ((Below wz.heap.size) wz)) (m := (fun w => Below w.heap.size w)) (hS := by rfl) (hm := by rfl) (hg := by kernel_rfl) (hk := by kernel_rfl)
   ·dsimp only [oblS]
    rintro w9 h9
    go_simp
    exact ⟨Below.refl _ _, rfl⟩
   dsimp only [naL, caL]
   apply zs_det (mask := [true]) (S := ((Below wz.heap.size) wz)) (m := (fun w => Below w.heap.size w)) (x := .slice A2 ps2.length c2) (hS := by rfl) (hm := by rfl) (hg := by kernel_rfl) (hk := by kernel_rfl)
   ·dsimp only [oblS]
    rintro w9 h9
    have hc9 := (bcell h9).1
    go_simp
    exact ⟨Below.refl _ _, rfl⟩
   dsimp only [naL, caL]
   apply zs_det (mask := [false, false]) (S := (Below wz.heap.size wz)) (m := (fun w => Below w.heap.size w)) (hS := by rfl) (hm := by rfl) (hg := by kernel_rfl) (hk := by kernel_rfl)
   ·dsimp only [oblS]
    rintro w9 h9
    go_simp
    exact ⟨Below.refl _ _, rfl⟩
   dsimp only [naL, caL]
   apply zs_det (mask := [false, false, true]) (S := (Below wz.heap.size wz)) (m := (fun w => Below w.heap.size w)) (x := .slice s.rA s.rn s.rc) (hS := by rfl) (hm := by rfl) (hg := by kernel_rfl) (hk := by kernel_rfl)
   ·dsimp only [oblS]
    rintro w9 h9
    have hc9 := (bcell h9).1
    go_simp
    exact ⟨Below.refl _ _, rfl⟩
   dsimp only [naL, caL]
   apply zs_any (mask := [false, false, false, true]) (S := (Below wz.heap.size wz)) (m := (fun w => Below w.heap.size w)) (T := fun v w => w.ownsRow wz.heap.size 3 1 v (s.rn) ((s.roots).flatMap iEnc)) (hT := fun v w w' hb h => own_keepB h fun x e => hb.block x (h.lt x e).2) (hf := by kernel_rfl) (hS := by rfl) (hm := by rfl) (hg := by kernel_rfl) (hk := by kernel_rfl)
   ·dsimp only [oblS]
    rintro w9 h9 T' hT'
    go_simp
    refine (iClone_any s.rA s.rn s.rc s.roots w9 (HRo.out w9 h9) (by omega)).mono ?_
    rintro e w7 ⟨v, rfl, hv, _, _, hb7⟩
    exact ⟨_, rfl, hb7, hT' _ _ (own_base hv fun x e => by have := (hv.lt x e).1; have := h9.size; omega)⟩
   dsimp only [naL, caL]
   apply zs_det (mask := [false, false, false, false, false]) (S := (Below wz.heap.size wz)) (m := (fun w => Below w.heap.size w)) (hS := by rfl) (hm := by rfl) (hg := by kernel_rfl) (hk := by kernel_rfl)
   ·dsimp only [oblS]
    rintro w9 h9
    go_simp
    exact ⟨Below.refl _ _, rfl⟩
   dsimp only [naL, caL]
   apply zs_det (mask := [false, false, false, false, false, true]) (S := (Below wz.heap.size wz)) (m := (fun w => Below w.heap.size w)) (x := .int .i64 (one2 : Nat)) (hS := by rfl) (hm := by rfl) (hg := by kernel_rfl) (hk := by kernel_rfl)
   ·dsimp only [oblS]
    rintro w9 h9
    have hc9 := (bcell h9).1
    go_simp
    exact ⟨Below.refl _ _, rfl⟩
   dsimp only [naL, caL]
   apply zs_any (mask := [false, false, false, false, false, false, true]) (S := (Below wz.heap.size wz)) (m := (fun w => Below w.heap.size w)) (T := fun v w => ∃ x, v = .slice (some ⟨x, 0, none⟩) 1 1 ∧ wz.heap.size ≤ x ∧ w.heap[x]? = some (.cells (iEnc (one2 : Int)).toArray 3 (0, 0))) (hT := fun v w w' hb ⟨x, e, h1, h2⟩ => ⟨x, e, h1, (hb.block x (lt_of_heap h2)).trans h2⟩) (hf := by kernel_rfl) (hS := by rfl) (hm := by rfl) (hg := by kernel_rfl) (hk := by kernel_rfl)
   ·dsimp only [oblS]
    rintro w9 h9 T' hT'
    go_simp
    exact ⟨(Below.refl _ _).alloc (Nat.le_refl _) _, hT' _ _ ⟨_, rfl, h9.size, World.alloc_heap_new _ _⟩⟩
   dsimp only [naL, caL]
   apply zs_any (mask := [false, false, false, false, true, false, false, true]) (S := ((Below wz.heap.size) wz)) (m := (Below wz.heap.size)) (T := fun v w => w.ownsRow wz.heap.size 3 1 v (s.rn + 1) ((s.roots ++ [(one2 : Int)]).flatMap iEnc)) (hT := fun v w w' hb h => own_keepB h fun x e => hb.block x (h.lt x e).2) (hf := by kernel_rfl) (hS := by rfl) (hm := by rfl) (hg := by kernel_rfl) (hk := by kernel_rfl)
   ·dsimp only [oblS]
    intro v62 v65
    rintro w9 ⟨⟨h9, t62⟩, t65⟩ T' hT'
    obtain ⟨x, rfl, hx1, hx2⟩ := t65
    obtain ⟨v', w', hrun, hown', hg, hat⟩ := run_append_rows (P := Tryz.prog) (ty := 23) (enc := iEnc) (s := [(one2 : Int)]) Tryz.underlying23 hi hz hss hbb rfl iEnc_len (by decide) iEnc_one t62 (rows_of_heap (l := [(one2 : Int)]) (c := 1) iEnc_len hx2 (by simp) (by omega) (by simp [iEnc])) (by simp only [List.length_cons, List.length_nil]; omega) (by simp only [List.length_cons, List.length_nil]; omega) h9.size
    simp only [List.length_cons, List.length_nil] at hrun
    exact relUponZ_append (.tmp 62) (.tmp 65) 23 rfl rfl rfl hrun ((Below.refl _ w9).grown hg h9.size (fun g hg => (t62.lt g hg).1)) (hT' _ _ hown')
   dsimp only [naL, caL]
   apply zs_any (mask := [false, true, false, false, false, false, false, false, true]) (S := ((Below wz.heap.size) wz)) (m := (fun w => Below w.heap.size w)) (T := fun v w => ∃ v66, v = .agg #[.slice A2 ps2.length c2, v66] ∧ w.ownsRow wz.heap.size 3 1 v66 (s.rn + 1) ((s.roots ++ [(one2 : Int)]).flatMap iEnc)) (hT := fun v w w' hb ⟨v66, e, h⟩ => ⟨v66, e, own_keepB h fun x e => hb.block x (h.lt x e).2⟩) (hf := by kernel_rfl) (hS := by rfl) (hm := by rfl) (hg := by kernel_rfl) (hk := by kernel_rfl)
   ·dsimp only [oblS]
    intro v66
    rintro w9 ⟨h9, t66⟩ T' hT'
    obtain ⟨A6, c6, rfl, _, _⟩ := own_slice iEnc_len (by decide) t66
    go_simp
    exact ⟨Below.refl _ _, hT' _ _ ⟨_, rfl, t66⟩⟩
   dsimp only [naL, caL]
   refine zs_end [false, false, false, false, true, false, false, true, false, false] (by kernel_rfl) (by kernel_rfl) ?_
   dsimp only [finQ]
   rintro v62 v65 v66 v67 w9 ⟨⟨hb9, _⟩, ⟨v9, rfl, hown⟩⟩
   obtain ⟨A6, c6, rfl, _, _⟩ := own_slice iEnc_len (by decide) hown
   have hb9 : Below wz.heap.size wz w9 := hb9
   have hE9 := HZ.out.later hb9
   have hX := hE9.boxes.x
   have hXe := hE9.boxes.e
   have h8 := setRow_heap w9 (b + 2) _ (putAt #[.slice none 0 0, .slice none 0 0] 0 [.slice A2 ps2.length c2, .slice A6 (s.rn + 1) c6]) _ _ hX
   have hOn := Only.setRow w9 (b + 2) (putAt #[.slice none 0 0, .slice none 0 0] 0 [.slice A2 ps2.length c2, .slice A6 (s.rn + 1) c6])
   obtain ⟨w10, hw10⟩ : ∃ W, w9.setRow (b + 2) (putAt #[.slice none 0 0, .slice none 0 0] 0 [.slice A2 ps2.length c2, .slice A6 (s.rn + 1) c6]) = W := ⟨_, rfl⟩
   rw [hw10] at h8 hOn
   have h8 : w10.heap[b + 2]? = some (.cells #[.slice A2 ps2.length c2, .slice A6 (s.rn + 1) c6] 45 (0, 0)) := h8
   have h8e : w10.heap[b + 3]? = some (.cells #[.int .i64 0] 31 (0, 0)) := (hOn.block _ (by omega)).trans hXe
   have HOn := hidp hOn
   have H8 := hidp h8
   have H8e := hidp h8e
   have HW10 := hidp hw10
   have HOwn := hidp hown
   have HE := hidp hE9
   clear hb9 hE9 hOn hw10 hown hXe q0 q1 p1 lp r0 r3
   go_simp
   refine wpList_store_at (vs := [.slice A2 ps2.length c2, .slice A6 (s.rn + 1) c6]) 45 (.tmp 4) (.tmp 67) rfl rfl rfl rfl hX (by kernel_rfl) (by simp) (by intro v hv; simp at hv; rcases hv with rfl | rfl <;> rfl) ?_
   rw [HW10.out]
   have e0 := cell_of_heap (o := 0) h8e
   have e1 := lt_of_heap h8e
   have e2 := frozen_of_heap (o := 0) h8e
   simp only [List.getElem?_toArray, List.getElem?_cons_zero] at e0
   clear h8 h8e hX
   go_wp2_with fail
   have hDne : D ≠ b + 2 ∧ D ≠ b + 3 := by have := HE.out.lD; omega
   have hsame : ∀ x, x ≠ b + 2 → x ≠ b + 3 → x ≠ D → ((w10.setCell ⟨b + 3, 0, none⟩ (.int .i64 0)).putObj D (.deferred none)).heap[x]? = w9.heap[x]? := fun x h1 h2 h3 => (World.putObj_heap_other h3).trans ((heap_set_ne rfl h2 _ _).trans (HOn.out.block x h1))
   have hmk : (w10.setCell ⟨b + 3, 0, none⟩ (.int .i64 0)).heap[D]? = some (.deferred (some [])) := (heap_set_ne rfl hDne.2 _ _).trans ((HOn.out.block D hDne.1).trans HE.out.mark)
   have hzz : ((w10.setCell ⟨b + 3, 0, none⟩ (.int .i64 0)).putObj D (.deferred none)).heap.size = w9.heap.size := by rw [World.putObj_size, ← HOn.out.size]; simp [World.setCell]
   have hx10 : ((w10.setCell ⟨b + 3, 0, none⟩ (.int .i64 0)).putObj D (.deferred none)).heap[b + 2]? = some (.cells #[.slice A2 ps2.length c2, .slice A6 (s.rn + 1) c6] 45 (0, 0)) := (World.putObj_heap_other (by omega)).trans ((heap_set_ne rfl (by omega) _ _).trans H8.out)
   have he10 : ((w10.setCell ⟨b + 3, 0, none⟩ (.int .i64 0)).putObj D (.deferred none)).heap[b + 3]? = some (.cells #[.int .i64 0] 31 (0, 0)) := (World.putObj_heap_other (by omega)).trans (heap_set1 H8e.out _)
   have x0 := cell_of_heap (o := 0) hx10
   have x1 := cell_of_heap (o := 1) hx10
   have x2 := cell_of_heap (o := 0) he10
   simp only [List.getElem?_toArray, List.getElem?_cons_zero, List.getElem?_cons_succ] at x0 x1 x2
   have hpe : putErr s f = 0 := by
    unfold putErr
    rw [if_pos HCk2.out, if_pos HFz.out, HLast.out, HCmp.out]; rfl
   have hbz : Below b w9 ((w10.setCell ⟨b + 3, 0, none⟩ (.int .i64 0)).putObj D (.deferred none)) := ⟨HOn.out.os, HOn.out.tape, HOn.out.output, by rw [hzz]; exact Nat.le_refl _, fun k hk => hsame k (by omega) (by omega) (by have := HE.out.lD; omega)⟩
   obtain ⟨A3, c3, e3, hPr, hPo⟩ := own_slice pgEnc_len (by decide) HE.out.wr.own
   injection e3 with e1 e2 e3
   subst e1 e3
   obtain ⟨A4, c4, e4, hRr, hRo⟩ := own_slice iEnc_len (by decide) HOwn.out
   injection e4 with e1 e2 e3
   subst e1 e3
   have hps' : PsIn ⟨A2, ps2.length, c2, ps2, A6, s.rn + 1, c6, s.roots ++ [(one2 : Int)]⟩ ((w10.setCell ⟨b + 3, 0, none⟩ (.int .i64 0)).putObj D (.deferred none)) ((w10.setCell ⟨b + 3, 0, none⟩ (.int .i64 0)).putObj D (.deferred none)).heap.size := by
    have hDb := lt_of_heap HZ.out.mark
    refine ⟨rows_at hPr fun _ k off e => ?_, fun g hg => ?_, rows_at hRr fun _ k off e => ?_⟩
    ·have hk := hPo k off none e
     have h1 := HE.out.wr.own.lt k hk
     have h2 := HE.out.lb
     have hkD : k ≠ D := fun e2 => by
      obtain ⟨cur, h3⟩ := own_heap HE.out.wr.own hk
      rw [e2, HE.out.mark] at h3; cases h3
     exact ⟨by rw [hzz]; exact h1.2, hsame k (by have := hWb; omega) (by have := hWb; omega) hkD⟩
    ·have hm := (HE.out.pages g hg).move (w' := w9) (fun x hx => ⟨rfl, (HE.out.pages g hg).away x hx⟩)
     refine ⟨rows_at hm.inn.1 fun hn k off e => ?_, rows_at hm.inn.2 fun hn k off e => ?_⟩
     ·have h1 := (HE.out.far g hg k (.inl ⟨hn, off, e⟩)).imp And.left id
      have h2 := (hm.away k (.inl ⟨hn, off, e⟩)).1
      exact ⟨by rw [hzz]; exact h2, hsame k (by omega) (by omega) (by have := HE.out.lD; omega)⟩
     ·have h1 := (HE.out.far g hg k (.inr ⟨hn, off, e⟩)).imp And.left id
      have h2 := (hm.away k (.inr ⟨hn, off, e⟩)).1
      exact ⟨by rw [hzz]; exact h2, hsame k (by omega) (by omega) (by have := HE.out.lD; omega)⟩
    ·have hk := hRo k off none e
     have h1 := HOwn.out.lt k hk
     exact ⟨by rw [hzz]; exact h1.2, hsame k (by omega) (by omega) (by omega)⟩
   show LeavesInM Fence.wide 0 Tryz.prog Tryz.f19 _ (PutPost s f w) _ .returning _
   refine leaves_mark (by simp) hmk ?_
   refine leaves_call (f := 37) (args := #[.pointer (some ⟨b + 3, 0, none⟩)]) (by simp) (by simp [go_sem]) ?_
   refine (catchPW_idle 0 (b + 3) _).mono ?_
   rintro en u' w11 ⟨rfl, rfl, rfl⟩
   simp [LeavesInM, LeavesIn, settle, results, Tryz.results19, go_sem, x0, x1, x2]
   refine ⟨_, by rw [hpe], hps', ?_, HE.out.slim, fun _ => ⟨?_, ?_⟩, (fun h => absurd hpe h), ?_⟩
   ·exact (HE.out.boxes.below.trans hbz).mono (Nat.le_of_eq HBs.out)
   ·rw [HLast.out, ← HPut.out]; rfl
   ·rw [HLast.out, ← HPut.out]
   ·intro x hx
    have hzw : w.heap.size ≤ W.heap.size := by have := HSt5.out.size; have := HBs.out; omega
    have hbs := HBs.out
    rcases hx with ⟨_, off, e⟩ | ⟨_, off, e⟩ | ⟨g, hg, hx⟩
    ·have := (HE.out.wr.own.lt x (hPo x off none e)).1
     right; omega
    ·have := (HOwn.out.lt x (hRo x off none e)).1
     right; omega
    ·rcases HE.out.far g hg x hx with ⟨_, h1⟩ | ⟨_, h1⟩
     ·exact .inl h1
     ·right; omega
end Go.Proofs.YtbegdcjofnfkiaaGreatDoor
