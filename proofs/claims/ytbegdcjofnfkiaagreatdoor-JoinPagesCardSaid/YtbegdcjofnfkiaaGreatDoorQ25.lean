/- Several texts in one: JG Door DoorR. -/
import Derived.Test.YtbegdcjofnfkiaaGreatDoorQ23
import Derived.Test.YtbegdcjofnfkiaaGreatDoorQ24
import Derived.Test.YtbegdcjofnfkiaaGreatDoorQ15
import Derived.Test.YtbegdcjofnfkiaaGreatDoorQ19
import Derived.Deep.DeepCutAuto
import Derived.Deep.CutBlock
import Derived.Deep.RegionHeld3
import Derived.BigRegion
import Derived.Test.YtbegdcjofnfkiaaGreatDoorQ1
import Derived.Deep.Slices
import Derived.ChangeArms
import Derived.WideShapes
import Derived.ProofKit
import Derived.OpenShut
import Derived.SizedLaws
namespace Go.Proofs.YtbegdcjofnfkiaaGreatDoor
section
open Go.RowKit Go.Shelf Go.Sort
theorem oeJ (w : World) (base k : Nat) (e : TypeId) (hb : base ≤ w.heap.size) : (w.alloc (.cells #[] e)).ownsRow base e k (.slice (some ⟨w.heap.size, 0, none⟩) 0 0) 0 [] :=
 ⟨by simp, .inr ⟨w.heap.size, 0, #[], rfl, hb, World.alloc_heap_new _ _, Nat.le_refl _, by decide, by simp, by simp⟩⟩
theorem raJ {α : Type} {k : Nat} {e : TypeId} {enc : α → List Value} {w : World} {P : Program} {t ty : TypeId} {i : TypeInfo} {z : Value} {bytes n₁ m c base g : Nat} {A : Option Addr} {s : List α} (ht : P.underlying t = some (.slice e)) (hi : P.info? e = some i) (hz : i.zero = some z) (hsize : i.size = k) (hby : i.bytes = bytes) (hzs : z.cells.size = k)
  (hk : ∀ x, (enc x).length = k) (h0 : 0 < k) (h1 : ∀ x, ∀ u ∈ enc x, u.oneCell' = true) (hown : w.ownsRow base e k (.slice (some ⟨g, 0, none⟩) 0 0) 0 (([] : List α).flatMap enc)) (hs : Rows k (Rep.flat enc) w n₁ A m c s)
  (hn : m * bytes ≤ 140737488355328) (hnm : m ≤ 9223372036854775807) (hb : base ≤ w.heap.size) :
  ∃ v' w', (Builtin.append_ #[t, t] ty #[.slice (some ⟨g, 0, none⟩) 0 0, .slice A m c]).run P w = .ok v' w' ∧ w'.ownsRow base e k v' m (s.flatMap enc) ∧ Below w.heap.size w w' := by
 obtain ⟨v', w', hrun, ho, _, _⟩ := run_append_rows (P := P) (ty := ty) (l := []) ht hi hz hsize hby hzs hk h0 h1 hown hs (by rw [Nat.zero_add]; exact hn) (by rw [Nat.zero_add]; exact hnm) hb
 obtain ⟨A2, c2, w2, hrun2, _, hb2⟩ := run_append_clipR (P := P) (ty := ty) (A := some ⟨g, 0, none⟩) (n := 0) (c := 0) (l := []) ht hi hz hsize hby hzs hk h0 h1 (Rows.nil (n₀ := w.heap.size) (by omega)) (Nat.le_refl _) hs (by rw [Nat.zero_add]; exact hn) (by rw [Nat.zero_add]; exact hnm)
 rw [hrun] at hrun2
 injection hrun2 with e1 e2
 subst e2
 rw [Nat.zero_add, List.nil_append] at ho
 exact ⟨v', w', hrun, ho, hb2⟩
theorem PsIn.stJ {s : Ps} {w w' : World} (h : PsIn s w w.heap.size) (hz : w.heap.size ≤ w'.heap.size) (hX : ∀ x, PsBl s x → w'.heap[x]? = w.heap[x]?) : PsIn s w' w'.heap.size := by
 have hb : ∀ {α : Type} {k : Nat} {enc : α → List Value} {n c : Nat} {A : Option Addr} {l : List α}, Rows k (Rep.flat enc) w w.heap.size A n c l → (∀ x off, 0 < n → A = some ⟨x, off, none⟩ → w'.heap[x]? = w.heap[x]?) → Rows k (Rep.flat enc) w' w'.heap.size A n c l := fun hr hx =>
  rows_at hr fun hn b off e => by
   obtain ⟨b2, o2, e2, hlt, _⟩ := hr.2.2.2 hn
   rw [e] at e2; cases e2
   exact ⟨Nat.lt_of_lt_of_le hlt hz, hx b off hn e⟩
 exact ⟨hb h.pages fun x off hn e => hX x (.inl ⟨hn, off, e⟩), fun g hg => ⟨hb (h.each g hg).1 fun x off hn e => hX x (.inr (.inr ⟨g, hg, .inl ⟨hn, off, e⟩⟩)), hb (h.each g hg).2 fun x off hn e => hX x (.inr (.inr ⟨g, hg, .inr ⟨hn, off, e⟩⟩))⟩, hb h.roots fun x off hn e => hX x (.inr (.inl ⟨hn, off, e⟩))⟩
structure JgM (x : List Fc) (XA : Option Addr) (xc P N : Nat) (w0 w : World) : Prop where
 st : ∃ s, FlS (fillF x) s w ∧ w.heap[P]? = some (.cells #[.slice s.pA s.pn s.pc, .slice s.rA s.rn s.rc] 45 (0, 0)) ∧ ∀ y, PsBl s y → y ≠ P ∧ (Value.slice XA x.length xc).ownBlock ≠ some y
 own : w.ownsRow (P + 1) 54 8 (.slice XA x.length xc) x.length (x.flatMap fEnc)
 below : Below N w0 w
 lt : P < w.heap.size
 at_ : N ≤ P
theorem JgM.later {x : List Fc} {XA : Option Addr} {xc P N : Nat} {w0 w w' : World} (h : JgM x XA xc P N w0 w) (hb : Below w.heap.size w w') : JgM x XA xc P N w0 w' := by
 obtain ⟨s, h1, h2, h3⟩ := h.st
 exact ⟨⟨s, h1.later hb, (hb.block _ h.lt).trans h2, h3⟩, own_keepB h.own fun g hg => hb.block g (h.own.lt g hg).2, h.below.trans (hb.mono (by have := h.at_; have := h.lt; omega)), Nat.lt_of_lt_of_le h.lt hb.size, h.at_⟩
set_option maxRecDepth 100000 in
set_option maxHeartbeats 8000000 in
theorem pgJ (q : Qu) (FA : Option Addr) (fn fc : Nat) (l : List Fc) (w : World) (hq : QuIn q w w.heap.size) (hw : WordsAt w) (hl : fSl w w.heap.size FA fn fc l) :
  Calls Tryz.prog 5 #[.agg #[.slice q.nA q.nn q.nc, .slice q.sA q.sn q.sc, .slice q.aA q.an q.ac, .slice q.tA q.tn q.tc], .slice FA fn fc] w fun e w' => e = .returned (.bool true) ∧ Below w.heap.size w w' := by
 obtain ⟨i0, hfi, hfz, hfs, hfb⟩ := info_parts fInfo
 have HQu : Hid (∀ W, Below w.heap.size w W → QuIn q W W.heap.size) := fun W hb => hq.keep hb.size hb.block
 have HWd : Hid (∀ W, Below w.heap.size w W → WordsAt W) := fun W hb => hw.below hb
 have HFa : Hid (∀ W, Below w.heap.size w W → fSl W W.heap.size FA fn fc l) := fun W h => hl.keep (Rep.flat_stable _) h.size h.block
 have HFn := hidp hl.1
 have hfc := hl.2.1
 have hfcc := hl.2.2.1
 obtain ⟨W0, hW0⟩ : ∃ W0, w.alloc (.cells #[.slice q.nA q.nn q.nc, .slice q.sA q.sn q.sc, .slice q.aA q.an q.ac, .slice q.tA q.tn q.tc] 27) = W0 := ⟨_, rfl⟩
 have hBW : Below w.heap.size w W0 := hW0 ▸ (Below.refl _ w).alloc (Nat.le_refl _) _
 have hb0 : QBox q w.heap.size W0 := ⟨hW0 ▸ World.alloc_heap_new _ _⟩
 have HBW := hidp hBW
 have HB0 := hidp hb0
 have HW0 := hidp hW0
 clear hBW hb0 hq hw hl hW0
 go_enter Tryz.func5, Tryz.ntmps5
 go_wp2_with fail
 rw [HW0.out]
 refine (sane_any _ (HWd.out _ HBW.out)).mono ?_
 rintro e w1 ⟨rfl, hb1⟩
 have HB1 := hidp (HBW.out.trans (hb1.mono HBW.out.size))
 have HQ1 := hidp (HB0.out.later hb1)
 obtain ⟨x0, x1, x2, x3, l0⟩ := HQ1.out.cells
 clear hb1
 go_wp2_with fail
 refine (few_any q FA fn fc l _ (HQu.out _ HB1.out) (HFa.out _ HB1.out)).mono ?_
 rintro e w5 ⟨rfl, hb5⟩
 have HB5 := hidp (HB1.out.trans (hb5.mono HB1.out.size))
 have HQ5 := hidp (HQ1.out.later hb5)
 clear x0 x1 x2 x3 l0 hb5
 obtain ⟨fw, hfw⟩ : ∃ b, fewJ q l = b := ⟨_, rfl⟩
 rw [hfw]
 have HFw := hidp hfw
 clear hfw
 cases fw
 ·go_wp2_with fail
  go_ret
  exact ⟨rfl, HB5.out⟩
 have hfew : fn ≤ 10 ∧ (domR l).length ^ q.names.length ≤ 4096 := by
  have h := HFw.out
  unfold fewJ at h
  simp only [Bool.and_eq_true, decide_eq_true_eq] at h
  have h1 := HFn.out
  exact ⟨by omega, h.2⟩
 obtain ⟨hx10, hpw⟩ := hfew
 have HPw := hidp hpw
 clear hpw
 go_wp2_with fail
 refine (pgNew_any w5).mono ?_
 rintro e w6 ⟨s0, rfl, hs0, hps0, hro0, hb6, -, -⟩
 have HB6 := hidp (HB5.out.trans (hb6.mono HB5.out.size))
 have HQ6 := hidp (HQ5.out.later hb6)
 have HS0 : Hid (FlS (fillF []) s0 w6) := ⟨hs0, hps0, hro0⟩
 clear hs0 hps0 hro0 hb6
 obtain ⟨P, hP⟩ : ∃ P, w6.heap.size = P := ⟨_, rfl⟩
 obtain ⟨V6, hV6⟩ : ∃ W, w6.alloc (.cells #[.slice s0.pA s0.pn s0.pc, .slice s0.rA s0.rn s0.rc] 45) = W := ⟨_, rfl⟩
 obtain ⟨W6, hW6⟩ : ∃ W, V6.alloc (.cells #[] 54) = W := ⟨_, rfl⟩
 have c6 : Below w6.heap.size w6 V6 := hV6 ▸ (Below.refl _ w6).alloc (Nat.le_refl _) _
 have c7 : Below V6.heap.size V6 W6 := hW6 ▸ (Below.refl _ V6).alloc (Nat.le_refl _) _
 have z6 : V6.heap.size = P + 1 := by rw [← hV6]; simp [hP]
 have g6 : V6.heap[P]? = some (.cells #[.slice s0.pA s0.pn s0.pc, .slice s0.rA s0.rn s0.rc] 45 (0, 0)) := by rw [← hV6, ← hP]; exact World.alloc_heap_new _ _
 have cW := c6.trans (c7.mono c6.size)
 have HBq : Hid (w.heap.size < P) := by have := HQ6.out.cells.2.2.2.2; have := hP; exact (by omega : w.heap.size < P)
 have HM0 : Hid (JgM [] (some ⟨P + 1, 0, none⟩) 0 P P w6 W6) := by
  refine ⟨⟨s0, HS0.out.later cW, (c7.block _ (by omega)).trans g6, fun y hy => ?_⟩, ?_, hP ▸ cW, by have := c7.size; omega, Nat.le_refl _⟩
  ·have := hy.lt HS0.out.inn.inn
   exact ⟨by omega, fun e => by have e2 : some (P + 1) = some y := e; injection e2 with e2; omega⟩
  ·have h := oeJ V6 (P + 1) 8 54 (by omega)
   rw [hW6, z6] at h
   exact h
 have HQ7 := hidp (HQ6.out.later cW)
 have HB7 := hidp (HB6.out.trans (cW.mono HB6.out.size))
 clear c6 c7 g6 cW
 go_wp2_with fail
 clear hV6 hW6 z6
 go_loopw [6, 7, 8, 9] (fun s6 s7 s8 s9 wr => ∃ (k : Nat) (x : List Fc) (XA : Option Addr) (xc : Nat) (v8 v9 : Value), k ≤ fn ∧ s6 = .slice XA x.length xc ∧ s7 = .int .i64 k ∧ v8 = s8 ∧ v9 = s9 ∧ JgInv l k x ∧ JgM x XA xc P P w6 wr) (fun _ s7 _ _ _ => fn - (intOf s7).toNat)
 case atStart => exact ⟨0, [], _, 0, _, _, by omega, rfl, rfl, rfl, rfl, JgInv.nil l, HM0.out⟩
 case round =>
 obtain ⟨k, x, XA, xc, v8, v9, hk, rfl, rfl, rfl, rfl, hinv, hm⟩ := hrel
 have HInv := hidp hinv
 have HM := hidp hm
 have hxl := hinv.len
 have hfi' := fill_inv x
 have hal : (fillF x).acc.length ≤ 10 := by rw [hinv.acc]; omega
 have hsz : (fillF x).ps.length ≤ 2000 := by
  have h1 := hfi'.size
  have h2 : (2 * (fillF x).acc.length + 3) * (fillF x).acc.length ≤ 23 * 10 := Nat.mul_le_mul (by omega) (by omega)
  omega
 have hrz : (fillF x).roots.length ≤ 100 := by have := hfi'.len; omega
 obtain ⟨s1, hs1, hbx, hfar⟩ := hm.st
 have hgs : s1.gs.length ≤ 100000 ∧ s1.roots.length ≤ 100000 := by
  have h1 := congrArg List.length hs1.ps
  rw [psV_len] at h1
  rw [hs1.roots]; omega
 have HGs := hidp hgs
 have HFar := hidp hfar
 have HBx := hidp hbx
 have HS1 := hidp hs1
 have HXl := hidp hxl
 have hbw : P ≤ wr.heap.size := by have := hm.lt; omega
 have HBw : Hid (Below w.heap.size w wr) := HB6.out.trans (hm.below.mono (Nat.le_of_lt HBq.out))
 obtain ⟨st, hstd⟩ : ∃ st, fillF x = st := ⟨_, rfl⟩
 have HStd := hidp hstd
 have p0 := cell_of_heap (o := 0) hbx
 have p1 := cell_of_heap (o := 1) hbx
 have lp := lt_of_heap hbx
 simp only [List.getElem?_toArray, List.getElem?_cons_zero, List.getElem?_cons_succ] at p0 p1
 clear hinv hm hfi' hal hsz hrz hs1 hbx hfar hgs hxl hstd
 by_cases hkn : k < fn
 case pos =>
  have hkn' : (k : Int) < fn := by omega
  have hwk : IntKind.i64.wrap ((k : Int) + 1) = (k : Int) + 1 := IntWalk.i64_in _ (by omega)
  obtain ⟨fb, off, f, hA, hfb', hf, c0, c1, c2, c3, c4, c5, c6, c7⟩ := fSl.get (HFa.out wr HBw.out) hkn
  have hix := fun W => ix_FactsP (c := fc) hA hkn W
  have lf := lt_of_cell c0
  have HFb : Hid (fb < w.heap.size) := by
   obtain ⟨b0, o0, e0, hlt, _⟩ := (HFa.out w (Below.refl _ _)).2.2.2 (by omega)
   rw [hA] at e0
   cases e0
   exact hlt
  have HF := hidp hf
  have HKn := hidp hkn
  clear hf hA hkn
  obtain ⟨pe, hpe⟩ : ∃ e, putE st.ps st.roots f = e := ⟨_, rfl⟩
  have HPe := hidp hpe
  have HCall : Hid (∀ W, Below wr.heap.size wr W → Calls Tryz.prog 19 #[.agg #[.slice s1.pA s1.pn s1.pc, .slice s1.rA s1.rn s1.rc], .agg #[.int .i64 f.key.kind, .int .i64 f.key.subj, .int .i64 f.key.obj, .int .i64 f.val, .int .i64 f.fr, .int .i64 f.to, .int .i64 f.known, .int .i64 f.no]] W fun e w' => ∃ s', e = .returned (.tuple #[psVal s', .int .i64 pe]) ∧ PutRes st.ps st.roots f s' w' ∧ Below W.heap.size W w' ∧ ∀ x, PsBl s' x → (∃ g ∈ s1.gs, PgBl g x) ∨ W.heap.size ≤ x) := fun W hW => by
   have := put_any s1 f wr.heap.size W (HS1.out.inn.inn.keep (Nat.le_refl _) hW.block) hW.size HS1.out.inn.slim HGs.out
   rw [HS1.out.ps, HS1.out.roots, HStd.out, HPe.out] at this
   exact this
  clear hpe
  go_upto_region 10 with fail
  go_cut [8, 9] (fun s8 s9 wx => ∃ s2 X8, s8 = .pointer (some ⟨X8, 0, none⟩) ∧ s9 = .int .i64 pe ∧ PutRes st.ps st.roots f s2 wx ∧ wx.heap[X8]? = some (.cells #[.slice s2.pA s2.pn s2.pc, .slice s2.rA s2.rn s2.rc] 45 (0, 0)) ∧ Below wr.heap.size wr wx ∧ wr.heap.size ≤ X8 ∧ ∀ x, PsBl s2 x → (∃ g ∈ s1.gs, PgBl g x) ∨ wr.heap.size ≤ x)
  case first =>
   go_region_held3 (fun w' => w'.cell? ⟨P, 0, none⟩ = some (.slice s1.pA s1.pn s1.pc) ∧ w'.cell? ⟨P, 1, none⟩ = some (.slice s1.rA s1.rn s1.rc) ∧ w'.cell? ⟨fb, off + k * 8, none⟩ = some (.int .i64 f.key.kind) ∧ w'.cell? ⟨fb, off + k * 8 + 1, none⟩ = some (.int .i64 f.key.subj) ∧ w'.cell? ⟨fb, off + k * 8 + 2, none⟩ = some (.int .i64 f.key.obj) ∧ w'.cell? ⟨fb, off + k * 8 + 3, none⟩ = some (.int .i64 f.val) ∧ w'.cell? ⟨fb, off + k * 8 + 4, none⟩ = some (.int .i64 f.fr) ∧ w'.cell? ⟨fb, off + k * 8 + 5, none⟩ = some (.int .i64 f.to) ∧ w'.cell? ⟨fb, off + k * 8 + 6, none⟩ = some (.int .i64 f.known) ∧ w'.cell? ⟨fb, off + k * 8 + 7, none⟩ = some (.int .i64 f.no))
    (first | (refine ⟨cellB ?_ p0, cellB ?_ p1, cellB ?_ c0, cellB ?_ c1, cellB ?_ c2, cellB ?_ c3, cellB ?_ c4, cellB ?_ c5, cellB ?_ c6, cellB ?_ c7⟩ <;> (repeat (first | exact HB7'.out | exact Below.refl _ _ | refine Below.drew ?_ | refine Below.alloc ?_ (by first | exact Nat.le_refl _ | exact HB7'.out.size | omega | (simp <;> omega) | simp) _ | refine Below.setCell ?_ (by first | exact Nat.le_refl _ | omega | (simp <;> omega) | simp) _))))
    (first | (go_at_call 19; refine (HCall.out _ (by repeat (first | exact Below.refl _ _ | refine Below.drew ?_ | refine Below.alloc ?_ (by simp) _))).mono ?_; rintro e w7 ⟨s2, rfl, hr, hb7, hsep⟩; have HSep := hidp hsep; have hB7 : Below wr.heap.size wr w7 := Below.trans (by repeat (first | exact Below.refl _ _ | refine Below.drew ?_ | refine Below.alloc ?_ (by simp) _)) (hb7.mono (by simp)); have HB7' := hidp hB7; have hz7 := hB7.size; have HR7 := hidp hr; (try (have g8 := (hb7.block wr.heap.size (by simp)).trans (World.alloc_heap_new wr _); have HG8 := hidp g8; have g0 := cell_of_heap (o := 0) g8; have g1 := cell_of_heap (o := 1) g8; have g2 := frozen_of_heap (o := 0) g8; have g3 := frozen_of_heap (o := 1) g8; have g4 := lt_of_heap g8; clear g8)); clear hr hb7 hB7 hsep))
   ·go_wp2_with fail
    go_meet
    exact ⟨s2, _, rfl, rfl, HR7.out.later ((Below.refl _ _).alloc (Nat.le_refl _) _), World.alloc_heap_new _ _, HB7'.out.alloc hz7 _, hz7, fun x hx => (HSep.out x hx).imp id fun h => by simpa using h⟩
   ·go_wp2_with fail
    go_meet
    have hO : Only wr.heap.size w7 ((w7.setCell ⟨wr.heap.size, 0, none⟩ (.slice s2.pA s2.pn s2.pc)).setCell ⟨wr.heap.size, 1, none⟩ (.slice s2.rA s2.rn s2.rc)) := (Only.setCell _ _ _ _).trans (Only.setCell _ _ _ _)
    refine ⟨s2, wr.heap.size, rfl, rfl, HR7.out.only hO (fun x hx e => ?_), ?_, ?_, Nat.le_refl _, fun x hx => (HSep.out x hx).imp id fun h => by simp at h; omega⟩
    ·rcases HSep.out x hx with ⟨g, hg, h⟩ | h
     ·have := h.lt (HS1.out.inn.inn.each g hg)
      omega
     ·simp at h; omega
    ·have := heap_setN (heap_setN HG8.out 0 (.slice s2.pA s2.pn s2.pc)) 1 (.slice s2.rA s2.rn s2.rc)
     simpa using this
    ·exact (HB7'.out.setCell (p := ⟨wr.heap.size, 0, none⟩) (Nat.le_refl _) _).setCell (p := ⟨wr.heap.size, 1, none⟩) (Nat.le_refl _) _
  case rest =>
  obtain ⟨s2, X8, rfl, rfl, hres, hx8, hb8, hX8, hsep⟩ := hcut
  rename World => wc
  have HRes := hidp hres
  have HB8 := hidp hb8
  have HX8 := hidp hx8
  have HSep := hidp hsep
  have HMc := hidp (HM.out.later hb8)
  have HX8n := hidp hX8
  have HBc := hidp (HBw.out.trans (hb8.mono HBw.out.size))
  have gb := (hb8.block P lp).trans HBx.out
  have HGb := hidp gb
  have hbk : ∀ {o : Nat} {v : Value}, wr.cell? ⟨fb, o, none⟩ = some v → wc.cell? ⟨fb, o, none⟩ = some v := fun h => cellB hb8 h
  replace c0 := hbk c0; replace c1 := hbk c1; replace c2 := hbk c2; replace c3 := hbk c3; replace c4 := hbk c4; replace c5 := hbk c5; replace c6 := hbk c6; replace c7 := hbk c7
  have lf2 := lt_of_cell c0
  have r0 := cell_of_heap (o := 0) hx8
  have r1 := cell_of_heap (o := 1) hx8
  have r2 := lt_of_heap hx8
  simp only [List.getElem?_toArray, List.getElem?_cons_zero, List.getElem?_cons_succ] at r0 r1
  clear hres hx8 hb8 hsep hX8 gb hbk p0 p1 lp lf
  go_upto_region 11 with fail
  by_cases hp0 : pe = 0
  case neg =>
   have he0 : ((pe == 0) : Bool) = false := by simp [hp0]
   clear hp0
   refine wp_region_S wc.heap.size 15 (fun _ => false) (Nat.le_refl _) (by kernel_rfl) (by kernel_rfl) (by kernel_rfl) ?_
   dsimp only [List.take, List.drop]
   apply relS_det (mask := [])
   ·rfl
   ·kernel_rfl
   ·kernel_rfl
   ·dsimp only [oblS]
    rintro w9 h9
    go_simp
    exact ⟨Below.refl _ _, rfl⟩
   dsimp only [naL, caL]
   apply relS_det (mask := [true]) (x := .bool false)
   ·rfl
   ·kernel_rfl
   ·kernel_rfl
   ·dsimp only [oblS]
    rintro w9 h9
    go_simp
    exact ⟨Below.refl _ _, rfl⟩
   dsimp only [naL, caL]
   apply relS_det (mask := [false, true]) (x := .bool false)
   ·rfl
   ·kernel_rfl
   ·kernel_rfl
   ·dsimp only [oblS]
    rintro w9 h9
    go_simp
    exact ⟨Below.refl _ _, rfl⟩
   dsimp only [naL, caL]
   apply relS_not (mask := [false, false, true]) (t := 41) (want := true) (hf := by rfl) (hg := by kernel_rfl) (hm := by kernel_rfl)
   ·rfl
   dsimp only [naL, caL]
   apply relS_not (mask := [false, false, true, false]) (t := 41) (want := true) (hf := by rfl) (hg := by kernel_rfl) (hm := by kernel_rfl)
   ·rfl
   dsimp only [naL, caL]
   apply relS_not (mask := [false, false, true, true, true]) (t := 41) (want := true) (hf := by rfl) (hg := by kernel_rfl) (hm := by kernel_rfl)
   ·rfl
   dsimp only [naL, caL]
   apply relS_not (mask := [false, false, true, false, false, false]) (t := 41) (want := true) (hf := by rfl) (hg := by kernel_rfl) (hm := by kernel_rfl)
   ·rfl
   dsimp only [naL, caL]
   apply relS_not (mask := [false, false, true, false, false, false, false]) (t := 41) (want := true) (hf := by rfl) (hg := by kernel_rfl) (hm := by kernel_rfl)
   ·rfl
   dsimp only [naL, caL]
   apply relS_not (mask := [false, false, true, false, false, false, true, true]) (t := 41) (want := true) (hf := by rfl) (hg := by kernel_rfl) (hm := by kernel_rfl)
   ·rfl
   dsimp only [naL, caL]
   apply relS_not (mask := [false, false, true, false, false, false, false, false, true]) (t := 41) (want := true) (hf := by rfl) (hg := by kernel_rfl) (hm := by kernel_rfl)
   ·rfl
   dsimp only [naL, caL]
   apply relS_not (mask := [false, false, true, false, false, false, false, false, false, true]) (t := 41) (want := true) (hf := by rfl) (hg := by kernel_rfl) (hm := by kernel_rfl)
   ·rfl
   dsimp only [naL, caL]
   apply relS_not (mask := [false, false, true, false, false, true, false, false, false, false, true]) (t := 41) (want := true) (hf := by rfl) (hg := by kernel_rfl) (hm := by kernel_rfl)
   ·rfl
   dsimp only [naL, caL]
   apply relS_not (mask := [false, false, true, false, false, false, false, false, false, false, false, true]) (t := 41) (want := true) (hf := by rfl) (hg := by kernel_rfl) (hm := by kernel_rfl)
   ·rfl
   dsimp only [naL, caL]
   apply relS_not (mask := [false, false, true, false, false, false, false, false, false, false, false, false, true]) (t := 41) (want := true) (hf := by rfl) (hg := by kernel_rfl) (hm := by kernel_rfl)
   ·rfl
   dsimp only [naL, caL]
   apply relS_det (mask := [false, false, true, false, false, false, false, false, false, false, false, false, false, true]) (x := .bool false)
   ·rfl
   ·kernel_rfl
   ·kernel_rfl
   ·dsimp only [oblS]
    rintro w9 h9
    go_simp
    exact ⟨Below.refl _ _, rfl⟩
   dsimp only [naL, caL]
   refine relS_end (by rfl) ?_
   dsimp only [finS]
   rintro w7 hb7
   go_simp
   go_wp2_with fail
   go_roundw
   case rel => exact ⟨k + 1, x, XA, xc, _, _, by have := HKn.out; omega, rfl, by go_num, rfl, rfl, HInv.out.pass, HMc.out.later hb7⟩
   case measure => have := HKn.out; simp [intOf]; omega
  have he0 : ((pe == 0) : Bool) = true := by simp [hp0]
  have HP0 := hidp hp0
  clear hp0
  obtain ⟨cx, hcx⟩ : ∃ c, checkF (x ++ [f]) = c := ⟨_, rfl⟩
  obtain ⟨cb, hcb⟩ : ∃ b : Bool, (cx == 0) = b := ⟨_, rfl⟩
  have HCx := hidp hcx
  have HCb := hidp hcb
  have HRx : Hid (∀ W', Below wc.heap.size wc W' → ∃ A c, Value.slice XA x.length xc = .slice A x.length c ∧ fSl W' W'.heap.size A x.length c x) := fun W' h => own_rows fEnc_len (by decide) (own_keepB HMc.out.own fun g hg => h.block g (HMc.out.own.lt g hg).2)
  have hx9 : x.length ≤ 10 := by have := HXl.out; omega
  clear hcx hcb
  refine wp_region_YS (fun a b => Below wc.heap.size a b) 15 (fun k => k == 11) (fun k => k == 3 || k == 5 || k == 10 || k == 11) (fun k => k == 0 || k == 1 || k == 2 || k == 3 || k == 4 || k == 5 || k == 6 || k == 7 || k == 8 || k == 9 || k == 10) (fun _ _ _ h k => h.trans k) (fun w1 w2 h hb => hb.mono (by rcases h with rfl | h; exact Nat.le_refl _; exact h.size)) (by kernel_rfl) (by kernel_rfl) (by kernel_rfl) (by kernel_rfl) (by kernel_rfl) (by kernel_rfl) ?_
  dsimp only [List.take, List.drop]
  apply zs_det (mask := []) (S := (Below wc.heap.size wc)) (m := (fun w => Below w.heap.size w)) (x := .int .i64 pe) (hS := by rfl) (hm := by rfl) (hg := by kernel_rfl) (hk := by kernel_rfl)
  ·dsimp only [oblS]
   rintro w9 h9
   go_simp
   exact ⟨Below.refl _ _, rfl⟩
  dsimp only [naL, caL]
  apply zs_det (mask := [true]) (S := (Below wc.heap.size wc)) (m := (fun w => Below w.heap.size w)) (x := .bool true) (hS := by rfl) (hm := by rfl) (hg := by kernel_rfl) (hk := by kernel_rfl)
  ·dsimp only [oblS]
   rintro w9 h9
   go_simp
   exact ⟨Below.refl _ _, rfl⟩
  dsimp only [naL, caL]
  apply zs_det (mask := [false, true]) (S := (Below wc.heap.size wc)) (m := (fun w => Below w.heap.size w)) (x := .bool true) (hS := by rfl) (hm := by rfl) (hg := by kernel_rfl) (hk := by kernel_rfl)
  ·dsimp only [oblS]
   rintro w9 h9
   go_simp
   exact ⟨Below.refl _ _, rfl⟩
  dsimp only [naL, caL]
  apply zs_anyg (mask := [false, false, true]) (S := (Below wc.heap.size wc)) (m := (fun w => Below w.heap.size w)) (t := 41) (want := true) (T := fun v W' => ∃ x, v = .slice (some ⟨x, 0, none⟩) 0 0 ∧ W'.ownsRow wc.heap.size 54 8 v 0 []) (hT := fun v w w' hb ⟨x, e, h⟩ => ⟨x, e, own_keepB h fun g hg => hb.block g (h.lt g hg).2⟩) (hf := by kernel_rfl) (hS := by rfl) (hm := by rfl) (hg := by kernel_rfl) (hk := by kernel_rfl)
  ·dsimp only [oblS]
   refine ⟨by rfl, ?_⟩
   rintro w9 h9 T' hT'
   go_simp
   exact ⟨(Below.refl _ w9).alloc (Nat.le_refl _) _, hT' _ _ ⟨_, rfl, oeJ w9 wc.heap.size 8 54 h9.size⟩⟩
  dsimp only [naL, caL]
  apply zs_detg (mask := [false, false, true, false]) (S := (Below wc.heap.size wc)) (m := (fun w => Below w.heap.size w)) (t := 41) (want := true) (x := .slice XA x.length xc) (hS := by rfl) (hm := by rfl) (hg := by kernel_rfl) (hk := by kernel_rfl)
  ·dsimp only [oblS]
   refine ⟨by rfl, ?_⟩
   rintro w9 h9
   go_simp
   exact ⟨Below.refl _ _, rfl⟩
  dsimp only [naL, caL]
  apply zs_anyg (mask := [false, false, true, true, true]) (S := (Below wc.heap.size wc)) (m := (fun w => Below w.heap.size w)) (t := 41) (want := true) (T := fun v W' => W'.ownsRow wc.heap.size 54 8 v x.length (x.flatMap fEnc)) (hT := fun v w w' hb h => own_keepB h fun g hg => hb.block g (h.lt g hg).2) (hf := by kernel_rfl) (hS := by rfl) (hm := by rfl) (hg := by kernel_rfl) (hk := by kernel_rfl)
  ·dsimp only [oblS]
   intro v42
   refine ⟨by rfl, ?_⟩
   rintro w9 ⟨h9, t42⟩ T' hT'
   obtain ⟨z, ez, hz⟩ := t42
   subst ez
   obtain ⟨A3, c3x, e3x, hr3⟩ := HRx.out w9 h9
   cases e3x
   obtain ⟨v', w', hrun, hown', hb'⟩ := raJ (P := Tryz.prog) (ty := 28) (w := w9) (enc := fEnc) (base := wc.heap.size) Tryz.underlying28 hfi hfz hfs hfb rfl fEnc_len (by decide) fEnc_one hz hr3 (by omega) (by omega) h9.size
   exact relUponZ_append (.tmp 42) (.tmp 43) 28 rfl rfl rfl hrun hb' (hT' _ _ hown')
  dsimp only [naL, caL]
  apply zs_detg (mask := [false, false, true, false, false, false]) (S := (Below wc.heap.size wc)) (m := (fun w => Below w.heap.size w)) (t := 41) (want := true) (x := .slice FA fn fc) (hS := by rfl) (hm := by rfl) (hg := by kernel_rfl) (hk := by kernel_rfl)
  ·dsimp only [oblS]
   refine ⟨by rfl, ?_⟩
   rintro w9 h9
   go_simp
   exact ⟨Below.refl _ _, rfl⟩
  dsimp only [naL, caL]
  apply zs_detg (mask := [false, false, true, false, false, false, false]) (S := (Below wc.heap.size wc)) (m := (fun w => Below w.heap.size w)) (t := 41) (want := true) (x := .int .i64 (k : Int)) (hS := by rfl) (hm := by rfl) (hg := by kernel_rfl) (hk := by kernel_rfl)
  ·dsimp only [oblS]
   refine ⟨by rfl, ?_⟩
   rintro w9 h9
   go_simp
   exact ⟨Below.refl _ _, rfl⟩
  dsimp only [naL, caL]
  apply zs_detg (mask := [false, false, true, false, false, false, true, true]) (S := (Below wc.heap.size wc)) (m := (fun w => Below w.heap.size w)) (t := 41) (want := true) (hS := by rfl) (hm := by rfl) (hg := by kernel_rfl) (hk := by kernel_rfl)
  ·dsimp only [oblS]
   refine ⟨by rfl, ?_⟩
   rintro w9 h9
   go_simp
   exact ⟨Below.refl _ _, rfl⟩
  dsimp only [naL, caL]
  apply zs_detg (mask := [false, false, true, false, false, false, false, false, true]) (S := (Below wc.heap.size wc)) (m := (fun w => Below w.heap.size w)) (t := 41) (want := true) (x := .agg #[.int .i64 f.key.kind, .int .i64 f.key.subj, .int .i64 f.key.obj, .int .i64 f.val, .int .i64 f.fr, .int .i64 f.to, .int .i64 f.known, .int .i64 f.no]) (hS := by rfl) (hm := by rfl) (hg := by kernel_rfl) (hk := by kernel_rfl)
  ·dsimp only [oblS]
   refine ⟨by rfl, ?_⟩
   rintro w9 h9
   have hc9 := (bcell h9).1
   go_simp
   exact ⟨Below.refl _ _, rfl⟩
  dsimp only [naL, caL]
  apply zs_anyg (mask := [false, false, true, false, false, false, false, false, false, true]) (S := (Below wc.heap.size wc)) (m := (fun w => Below w.heap.size w)) (t := 41) (want := true) (T := fun v W => ∃ z, v = .slice (some ⟨z, 0, none⟩) 1 1 ∧ W.heap[z]? = some (.cells #[.int .i64 f.key.kind, .int .i64 f.key.subj, .int .i64 f.key.obj, .int .i64 f.val, .int .i64 f.fr, .int .i64 f.to, .int .i64 f.known, .int .i64 f.no] 54 (0, 0))) (hT := fun v w w' hb ⟨x, e, h⟩ => ⟨x, e, (hb.block _ (lt_of_heap h)).trans h⟩) (hf := by kernel_rfl) (hS := by rfl) (hm := by rfl) (hg := by kernel_rfl) (hk := by kernel_rfl)
  ·dsimp only [oblS]
   refine ⟨by rfl, ?_⟩
   rintro w9 h9 T' hT'
   go_simp
   exact ⟨(Below.refl _ w9).alloc (Nat.le_refl _) _, hT' _ _ ⟨_, rfl, World.alloc_heap_new w9 _⟩⟩
  dsimp only [naL, caL]
  apply zs_anyg (mask := [false, false, true, false, false, true, false, false, false, false, true]) (S := ((fun a b => Below wc.heap.size a b) wc)) (m := (fun a b => Below wc.heap.size a b)) (t := 41) (want := true) (T := fun v W' => W'.ownsRow wc.heap.size 54 8 v (x.length + 1) ((x ++ [f]).flatMap fEnc)) (hT := fun v w w' hb h => own_keepB h fun g hg => hb.block g (h.lt g hg).2) (hf := by kernel_rfl) (hS := by rfl) (hm := by rfl) (hg := by kernel_rfl) (hk := by kernel_rfl)
  ·dsimp only [oblS]
   intro v44 v49
   refine ⟨by rfl, ?_⟩
   rintro w9 ⟨⟨h9, t44⟩, t49⟩ T' hT'
   obtain ⟨z, ez, hz⟩ := t49
   subst ez
   obtain ⟨v', w', hrun, hown', hg', hat⟩ := run_append_rows (P := Tryz.prog) (ty := 28) (enc := fEnc) (s := [f]) Tryz.underlying28 hfi hfz hfs hfb rfl fEnc_len (by decide) fEnc_one t44 (rows_of_heap (l := [f]) (c := 1) fEnc_len hz (by simp) (by omega) (by simp [fEnc])) (by simp only [List.length_cons, List.length_nil]; omega) (by simp only [List.length_cons, List.length_nil]; omega) h9.size
   exact relUponZ_append (.tmp 44) (.tmp 49) 28 rfl rfl rfl hrun ((Below.refl wc.heap.size w9).grown hg' h9.size fun g e => (t44.lt g e).1) (hT' _ _ hown')
  dsimp only [naL, caL]
  apply zs_detg (mask := [false, false, true, false, false, false, false, false, false, false, false, true]) (S := ((fun a b => Below wc.heap.size a b) wc)) (m := (fun w => Below w.heap.size w)) (t := 41) (want := true) (x := .int .i64 cx) (hS := by rfl) (hm := by rfl) (hg := by kernel_rfl) (hk := by kernel_rfl)
  ·dsimp only [oblS]
   intro v50
   refine ⟨by rfl, ?_⟩
   rintro w9 ⟨h9, t50⟩
   obtain ⟨A5, c5x, e5, hr5⟩ := own_rows fEnc_len (by decide) t50
   subst e5
   go_simp
   refine (fCheck_any A5 (x.length + 1) c5x (x ++ [f]) w9 hr5).mono ?_
   rintro e w7 ⟨rfl, hb7⟩
   exact ⟨_, rfl, hb7, by show _ = _; rw [HCx.out]⟩
  dsimp only [naL, caL]
  apply zs_detg (mask := [false, false, true, false, false, false, false, false, false, false, false, false, true]) (S := ((fun a b => Below wc.heap.size a b) wc)) (m := (fun w => Below w.heap.size w)) (t := 41) (want := true) (x := .bool cb) (hS := by rfl) (hm := by rfl) (hg := by kernel_rfl) (hk := by kernel_rfl)
  ·dsimp only [oblS]
   refine ⟨by rfl, ?_⟩
   rintro w9 h9
   go_simp
   exact ⟨Below.refl _ _, by show _ = _; rw [HCb.out]⟩
  dsimp only [naL, caL]
  apply zs_det (mask := [false, false, true, false, false, false, false, false, false, false, false, false, false, true]) (S := ((fun a b => Below wc.heap.size a b) wc)) (m := (fun w => Below w.heap.size w)) (x := .bool cb) (hS := by rfl) (hm := by rfl) (hg := by kernel_rfl) (hk := by kernel_rfl)
  ·dsimp only [oblS]
   rintro w9 h9
   go_simp
   exact ⟨Below.refl _ _, rfl⟩
  dsimp only [naL, caL]
  refine zs_end [false, false, false, true, false, true, false, false, false, false, true, false, false, false, false] (by kernel_rfl) (by kernel_rfl) ?_
  dsimp only [finQ]
  rintro v42 v44 v49 v50 w8 ⟨hb, t50⟩
  have hb' : Below wc.heap.size wc w8 := hb
  have HB9 := hidp hb'
  have HM9 := hidp (HMc.out.later hb')
  clear hb hb' t50
  go_simp
  cases cb
  case false =>
   go_wp2_with fail
   go_roundw
   case rel => exact ⟨k + 1, x, XA, xc, _, _, by have := HKn.out; omega, rfl, by go_num, rfl, rfl, HInv.out.pass, HM9.out⟩
   case measure => have := HKn.out; simp [intOf]; omega
  have hcz : checkF (x ++ [f]) = 0 := by rw [HCx.out]; have := HCb.out; simpa using this
  have HCz := hidp hcz
  clear hcz
  have gx := (HB9.out.block _ r2).trans HX8.out
  have gp := (HB9.out.block _ (lt_of_heap HGb.out)).trans HGb.out
  clear r0 r1 r2
  have r0 := cell_of_heap (o := 0) gx
  have r1 := cell_of_heap (o := 1) gx
  have r2 := lt_of_heap gx
  have u0 := cell_of_heap (o := 0) gp
  have u1 := cell_of_heap (o := 1) gp
  have u2 := lt_of_heap gp
  have u3 := frozen_of_heap (o := 0) gp
  have u4 := frozen_of_heap (o := 1) gp
  simp only [List.getElem?_toArray, List.getElem?_cons_zero, List.getElem?_cons_succ] at r0 r1 u0 u1
  obtain ⟨w9, hw9⟩ : ∃ W, (w8.setCell ⟨P, 0, none⟩ (.slice s2.pA s2.pn s2.pc)).setCell ⟨P, 1, none⟩ (.slice s2.rA s2.rn s2.rc) = W := ⟨_, rfl⟩
  have hO : Only P w8 w9 := hw9 ▸ (Only.setCell _ _ _ _).trans (Only.setCell _ _ _ _)
  have hbx := heap_setN (heap_setN gp 0 (.slice s2.pA s2.pn s2.pc)) 1 (.slice s2.rA s2.rn s2.rc)
  rw [hw9] at hbx
  have hbx' : w9.heap[P]? = some (.cells #[.slice s2.pA s2.pn s2.pc, .slice s2.rA s2.rn s2.rc] 45 (0, 0)) := by simpa using hbx
  have hb9 : Below P w6 w9 := hw9 ▸ (HM9.out.below.setCell (p := ⟨P, 0, none⟩) (Nat.le_refl _) _).setCell (p := ⟨P, 1, none⟩) (Nat.le_refl _) _
  have hPw : P < wr.heap.size := HM.out.lt
  have hPfb : fb ≠ P := by have := HFb.out; have := HBq.out; omega
  have hck : ∀ {o : Nat} {v : Value}, wc.cell? ⟨fb, o, none⟩ = some v → w9.cell? ⟨fb, o, none⟩ = some v := fun {o v} h => by
   rw [World.cell?, hO.block fb hPfb]
   exact cellB HB9.out h
  replace c0 := hck c0; replace c1 := hck c1; replace c2 := hck c2; replace c3 := hck c3; replace c4 := hck c4; replace c5 := hck c5; replace c6 := hck c6; replace c7 := hck c7
  have lf3 := lt_of_cell c0
  have ho9 := own_keepB HM9.out.own fun y e => hO.block y (by have := (HM9.out.own.lt y e).1; omega)
  have hfar2 : ∀ y, PsBl s2 y → y ≠ P ∧ (Value.slice XA x.length xc).ownBlock ≠ some y := fun y hy => by
   rcases HSep.out y hy with ⟨g, hg, h⟩ | h
   ·exact HFar.out y (.inr (.inr ⟨g, hg, h⟩))
   ·exact ⟨by omega, fun e => by have := (HM.out.own.lt y e).2; omega⟩
  have hres9 := (HRes.out.later HB9.out).only hO fun y hy => (hfar2 y hy).1
  obtain ⟨W10, hW10⟩ : ∃ W, w9.alloc (.cells #[.int .i64 f.key.kind, .int .i64 f.key.subj, .int .i64 f.key.obj, .int .i64 f.val, .int .i64 f.fr, .int .i64 f.to, .int .i64 f.known, .int .i64 f.no] 54) = W := ⟨_, rfl⟩
  have c10 : Below w9.heap.size w9 W10 := hW10 ▸ (Below.refl _ w9).alloc (Nat.le_refl _) _
  have z10 : W10.heap.size = w9.heap.size + 1 := by rw [← hW10]; simp
  have g10 : W10.heap[w9.heap.size]? = some (.cells #[.int .i64 f.key.kind, .int .i64 f.key.subj, .int .i64 f.key.obj, .int .i64 f.val, .int .i64 f.fr, .int .i64 f.to, .int .i64 f.known, .int .i64 f.no] 54 (0, 0)) := by rw [← hW10]; exact World.alloc_heap_new _ _
  have ho10 := own_keepB ho9 fun y e => c10.block y (ho9.lt y e).2
  have hP9 : P < w9.heap.size := lt_of_heap hbx'
  obtain ⟨v', w', hrun, hown', hg', hat⟩ := run_append_rows (P := Tryz.prog) (ty := 28) (enc := fEnc) (s := [f]) Tryz.underlying28 hfi hfz hfs hfb rfl fEnc_len (by decide) fEnc_one ho10 (rows_of_heap (l := [f]) (c := 1) fEnc_len g10 (by simp) (by omega) (by simp [fEnc])) (by simp only [List.length_cons, List.length_nil]; omega) (by simp only [List.length_cons, List.length_nil]; omega) (by omega : P + 1 ≤ W10.heap.size)
  have hfill : fillF (x ++ [f]) = ⟨(putW st.ps (lastR st.roots) f).1, st.roots ++ [((putW st.ps (lastR st.roots) f).2 : Int)], (fillF x).acc ++ [f]⟩ := by
   have h1 := fill_put (x := x) (f := f) (by rw [HStd.out, HPe.out]; exact HP0.out)
   rw [HStd.out] at h1 ⊢
   exact h1
  have hres10 := hres9.later c10
  obtain ⟨A9, c9, e9, -⟩ := own_rows fEnc_len (by decide) (n := x.length + 1) hown'
  subst e9
  have HM' : Hid (JgM (x ++ [f]) A9 c9 P P w6 w') := by
   have hpe := HPe.out.trans HP0.out
   have hin : PsIn s2 w' w'.heap.size := hres10.1.inn.stJ hg'.size fun y hy => hg'.block y (hy.lt hres10.1.inn) fun e => (hfar2 y hy).2 e.symm
   refine ⟨⟨s2, ⟨⟨hin, hres10.1.slim⟩, ?_, ?_⟩, (hg'.block P (by omega) fun e => ?_).trans ((c10.block P hP9).trans hbx'), fun y hy => ⟨(hfar2 y hy).1, fun e => ?_⟩⟩, by simpa using hown', ?_, ?_, Nat.le_refl _⟩
   ·rw [hfill]; exact (hres10.2.1 hpe).1
   ·rw [hfill]; exact (hres10.2.1 hpe).2
   ·have := (ho10.lt P e.symm).1; omega
   ·have e' : (Value.slice A9 (x.length + 1) c9).ownBlock = some y := by simpa using e
    rcases hat with h | h
    ·exact (hfar2 y hy).2 (h.symm.trans e')
    ·have h2 : some W10.heap.size = some y := h.symm.trans e'
     injection h2 with h2
     have := hy.lt hres10.1.inn
     omega
   ·exact (hb9.trans (c10.mono (by omega))).trans ((Below.refl P W10).grown hg' (by omega) fun y e => by have := (ho10.lt y e).1; omega)
   ·have := hg'.size; omega
  have HR10 := hidp hrun
  have HI' := hidp (HInv.out.put (f := f) (by rw [HStd.out, HPe.out]; exact HP0.out) HCz.out (List.mem_of_getElem? HF.out))
  have HW10 := hidp hW10
  clear gx gp hO hbx hbx' hb9 hPw hPfb hck ho9 hfar2 hres9 c10 z10 g10 ho10 hP9 hrun hown' hg' hat hfill hres10 hW10
  go_wp2_with (at_builtin; first
   | (rw [HW10.out]; refine wpList_append_known rfl (.tmp 55) (.tmp 60) 28 rfl rfl rfl HR10.out ?_)
   | (refine wpList_append_known rfl (.tmp 55) (.tmp 60) 28 rfl rfl rfl HR10.out ?_))
  go_roundw
  case rel => exact ⟨k + 1, x ++ [f], A9, c9, _, _, by have := HKn.out; omega, by simp, by go_num, rfl, rfl, HI'.out, HM'.out⟩
  case measure => have := HKn.out; simp [intOf]; omega
 have hkn' : ¬ ((k : Int) < fn) := by omega
 clear hkn
 obtain ⟨hrl, hver, hperm⟩ := fill_last HInv.out.acc HS1.out.ps HS1.out.roots
 have hrn : s1.rn = x.length + 1 := by rw [HS1.out.inn.inn.roots.1]; exact hrl
 have hx9 : x.length ≤ 10 := by have := HXl.out; omega
 have hw1 : IntKind.i64.wrap ((s1.rn : Int) - 1) = ((x.length : Nat) : Int) := by
  rw [show (s1.rn : Int) - 1 = ((x.length : Nat) : Int) by omega]
  exact IntWalk.i64_in _ (by omega)
 obtain ⟨m, hm⟩ : ∃ m, allV s1 (x.length : Nat) = m := ⟨_, rfl⟩
 rw [hm] at hperm
 have HPerm := hidp hperm
 have HVer := hidp hver
 have HMm := hidp hm
 have HQr : Hid (QBox q w.heap.size wr) := ⟨(HM.out.below.block _ HBq.out).trans HQ6.out.box⟩
 have hps1 : PsIn s1 wr wr.heap.size := HS1.out.inn.inn
 clear hrl hver hperm hm hrn
 go_wp2_with fail
 refine (pgAll_any s1 (x.length : Nat) wr hps1 HS1.out.inn.slim (by rw [HMm.out, HPerm.out.length_eq]; omega)).mono ?_
 rintro e w7 ⟨MA, mn, mc, rfl, hm7, hb7⟩
 rw [HMm.out] at hm7
 rw [HVer.out, show errP true = 0 from rfl]
 have HB7' := hidp (HBw.out.trans (hb7.mono HBw.out.size))
 have HQ7' := hidp (HQr.out.later hb7)
 have HM7 := hidp (HM.out.later hb7)
 have HMl : Hid (∀ W', Below w7.heap.size w7 W' → fSl W' W'.heap.size MA mn mc m) := fun W' h => hm7.keep fStable h.size h.block
 have HMn : Hid (mn = x.length) := hm7.1.trans HPerm.out.length_eq
 clear hps1 hm7 hb7 hw1 p0 p1 lp
 obtain ⟨x0, x1, x2, x3, l0⟩ := HQ7'.out.cells
 obtain ⟨A5, c5, e5, hx7⟩ := own_rows fEnc_len (by decide) HM7.out.own
 cases e5
 have HX7 := hidp hx7
 clear hx7
 go_wp2_with fail
 refine (rows_any q XA x.length xc x w7 (HQu.out _ HB7'.out) (HWd.out _ HB7'.out) HX7.out (by omega) (fun _ => ful_less HPw.out HInv.out.mem)).mono ?_
 rintro e w8 ⟨A1, n1, c1, rfl, hr8, hb8⟩
 have HB8' := hidp (HB7'.out.trans (hb8.mono HB7'.out.size))
 have HQ8 := hidp (HQ7'.out.later hb8)
 have HR8 := hidp hr8
 have HM8 := hidp (HMl.out _ hb8)
 clear x0 x1 x2 x3 l0 hr8 hb8
 obtain ⟨x0, x1, x2, x3, l0⟩ := HQ8.out.cells
 go_wp2_with fail
 refine (rows_any q MA mn mc m w8 (HQu.out _ HB8'.out) (HWd.out _ HB8'.out) HM8.out (by have := HMn.out; omega) (fun _ => ful_less HPw.out fun f hf => HInv.out.mem f (HPerm.out.mem_iff.1 hf))).mono ?_
 rintro e w9 ⟨A2, n2, c2, rfl, hr9, hb9⟩
 have HB9' := hidp (HB8'.out.trans (hb9.mono HB8'.out.size))
 have HR9 := hidp (HR8.out.keep hb9)
 have HR9' := hidp hr9
 have HSame : Hid (rowsV q x = rowsV q m) := by
  show _ = _
  unfold rowsV
  rw [rows_same (checkF_tot HInv.out.check) fun f => (HPerm.out.mem_iff (a := f)).symm]
 obtain ⟨re, hre⟩ : ∃ e, rowsE q = e := ⟨_, rfl⟩
 rw [hre]
 have hrr : ((re == re) : Bool) = true := by simp
 clear x0 x1 x2 x3 l0 hr9 hb9 hre
 go_wp2_with fail
 refine (r51Same_any A1 A2 n1 n2 c1 c2 (rowsV q x) (rowsV q m) w9 HR9.out HR9'.out).mono ?_
 rintro e w10 ⟨rfl, hb10⟩
 have HB10 := hidp (HB9'.out.trans (hb10.mono HB9'.out.size))
 rw [show decide (rowsV q x = rowsV q m) = true from decide_eq_true HSame.out]
 clear hb10
 go_wp2_with fail
 go_ret
 exact ⟨rfl, HB10.out⟩
end
end Go.Proofs.YtbegdcjofnfkiaaGreatDoor
section
namespace Go.Proofs.YtbegdcjofnfkiaaGreatDoor
open Go.RowKit Go.ChangeShapes Go.WideShapes Go.Deep
def flatInt (P : Program) : Nat → TypeId → Bool
  | 0, _ => false
  | d + 1, t => match P.underlying t with
    | some (.int .i64) => P.cellsOf t == 1
    | some (.struct fs) => (List.range (P.cellsOf t)).all fun q => fs.any fun f => decide (f.offset ≤ q) && decide (q < f.offset + P.cellsOf f.type) && flatInt P d f.type
    | _ => false
def wf64 (z : Int) : Prop := (Lit.int .i64 z).wf = true
section
variable {H : Type} {enc : TypeId × Value → H} {P : Program} {w : World} {base : Nat} {spare : Nat → Bool} {held : Bool}
theorem flat_cells : ∀ (d : Nat) (t : TypeId) (fuel : Nat) (cs : List Value) (x : DataW H × List MemPlace), flatInt P d t = true → DataW.trod enc P w base spare held fuel t cs = some x →
    cs.length = P.cellsOf t ∧ ∀ v ∈ cs, ∃ z : Int, v = .int .i64 z ∧ wf64 z
  | 0, _, _, _, _, h, _ => by simp [flatInt] at h
  | d + 1, t, fuel, cs, x, h, ht => by
    unfold flatInt at h
    split at h
    · rename_i hu
      obtain ⟨n, rfl, _, hw⟩ := DataW.trod_int hu ht
      refine ⟨by simp at h; simp [h], fun v hv => ?_⟩
      simp at hv
      exact ⟨n, hv, hw⟩
    · rename_i fs hu
      obtain ⟨ys, n, _, _, hlen, _, hf⟩ := DataW.trod_struct hu ht
      refine ⟨hlen, fun v hv => ?_⟩
      obtain ⟨q, hq, rfl⟩ := List.mem_iff_getElem.1 hv
      rw [List.all_eq_true] at h
      have hc := h q (List.mem_range.2 (by omega))
      rw [Array.any_eq_true] at hc
      obtain ⟨j, hj, hc⟩ := hc
      simp only [Bool.and_eq_true, decide_eq_true_eq] at hc
      obtain ⟨⟨h1, h2⟩, h3⟩ := hc
      have hfj := hf j fs[j] (Array.getElem?_eq_getElem hj)
      have hys : ∃ y, ys[j]? = some y := by
        cases hy : ys[j]? with
        | some y => exact ⟨y, rfl⟩
        | none =>
          have := List.getElem?_eq_none_iff.1 hy
          omega
      obtain ⟨y, hy⟩ := hys
      rw [hy] at hfj
      refine (flat_cells d _ n _ y h3 hfj).2 _ ?_
      refine List.mem_iff_getElem?.2 ⟨q - fs[j].offset, ?_⟩
      rw [List.getElem?_take, if_pos (by omega), List.getElem?_drop, show fs[j].offset + (q - fs[j].offset) = q by omega, List.getElem?_eq_getElem hq]
    · cases h
theorem ints_of : ∀ (cs : List Value), (∀ v ∈ cs, ∃ z : Int, v = .int .i64 z ∧ wf64 z) → ∃ zs : List Int, cs = zs.map (.int .i64) ∧ ∀ z ∈ zs, wf64 z
  | [], _ => ⟨[], rfl, by simp⟩
  | v :: cs, h => by
    obtain ⟨z, rfl, hz⟩ := h v (by simp)
    obtain ⟨zs, rfl, hzs⟩ := ints_of cs fun v hv => h v (by simp [hv])
    exact ⟨z :: zs, rfl, fun y hy => by
      rcases List.mem_cons.1 hy with rfl | hy
      · exact hz
      · exact hzs y hy⟩
end
section
variable {H : Type} {enc : TypeId × Value → H} {P : Program}
theorem post_of_below {f : Func} {s : ChangeSpec} {apart fresh handsOn again : Bool} {W W' : World} {args : Array Value} {v : Value} {ds gs : List (DataW H)} {before pa pv : List MemPlace}
  (hW : DataW.Whole enc P f.params.toList s.vars apart W args.toList ds gs before)
  (hres : ∀ (b : Nat) (sp : Nat → Bool) (hd : Bool), DataW.TrodAll enc P W' b sp hd f.resultTypes.toList (v.resultList f.resultTypes.size) (s.fn H (ds ++ gs)).results [])
  (hargs : ∀ sp : Nat → Bool, (∀ p ∈ before, sp p.block = true) → DataW.TrodAll enc P W' 0 sp true f.params.toList args.toList (s.fn H (ds ++ gs)).args pa)
  (hvars : ∀ sp : Nat → Bool, (∀ p ∈ before, sp p.block = true) → DataW.TrodVars enc P W' sp s.vars (s.fn H (ds ++ gs)).vars pv)
  (hps : before = pa ++ pv) (hb : Below W.heap.size W W')
  (hok : ∀ (j : Nat) (t : TypeId) (r : Value), f.resultTypes[j]? = some t → (v.resultList f.resultTypes.size)[j]? = some r → Value.okWide P W' .any 0 t r) :
  s.post enc P f apart fresh handsOn again W args v W' := by
 have hlt : ∀ p ∈ before, p.block < W.heap.size := fun p hp => hW.lt p hp
 have hold : ∀ p ∈ before, (fun b => decide (b < W.heap.size)) p.block = true := fun p hp => by simpa using hlt p hp
 refine ⟨ds, gs, before, [], pa, pv, hW, hres _ _ _, hargs _ hold, hvars _ hold, World.keptBut_mono (fun p hp => ⟨hp, ?_⟩) (hb.frame (· ∈ before)), fun _ => ?_⟩
 ·rw [hps, List.mem_append] at hp
  exact Or.inr hp
 ·obtain ⟨_, _, _, _, _, hz, hn⟩ := hW
  refine ⟨hok, _, _, ([] ++ pa) ++ pv, ⟨[] ++ pa, pv, trodAll_append (hargs _ (fun _ _ => rfl)) (hres _ _ _), hvars _ (fun _ _ => rfl), rfl, ?_, ?_⟩, ?_⟩
  ·intro b off hp
   have hin : MemPlace.cell b off ∈ before := by rw [hps]; simpa using hp
   rw [hb.frozen (hlt _ hin)]
   exact hz b off hin
  ·intro ha
   have := hn ha
   rw [hps] at this
   simpa using this
  ·intro p hp _
   rw [hps]
   simpa using hp
end
section
variable {H : Type} {enc : TypeId × Value → H} {P : Program}
theorem trodAll_stays (hl : laidOutB P = true) {W W' : World} {sp : Nat → Bool} (hb : Below W.heap.size W W') : ∀ (ts : List TypeId) (vs : List Value) (ds : List (DataW H)) (ps : List MemPlace), (∀ t ∈ ts, P.readableRec t = true ∧ t < P.types.size) →
    DataW.TrodAll enc P W 0 (fun _ => true) true ts vs ds ps → (∀ x ∈ ps, x.block < W.heap.size ∧ sp x.block = true) → DataW.TrodAll enc P W' 0 sp true ts vs ds ps
  | [], vs, ds, ps, _, h, _ => by
    obtain ⟨rfl, rfl, rfl⟩ := trodAll_nil h
    exact trodAll_mk0
  | t :: ts, vs, ds, ps, hr, h, hp => by
    obtain ⟨v, vs', d, ds', p, q, rfl, rfl, rfl, h1, h2⟩ := trodAll_cons h
    exact trodAll_cons_mk (WideElems.Trod_stays hl (hr t (by simp)).1 (hr t (by simp)).2 h1 (fun x hx => hb.same (hp x (by simp [hx])).1) (fun x hx => (hp x (by simp [hx])).2))
      (trodAll_stays hl hb ts vs' ds' q (fun t' ht => hr t' (by simp [ht])) h2 (fun x hx => hp x (by simp [hx])))
theorem law_post {f : Func} {s : ChangeSpec} {apart fresh handsOn again : Bool} {W W' : World} {args : Array Value} {ds : List (DataW H)} {before : List MemPlace} {bt : TypeId} (hl : laidOutB P = true)
  (hW : DataW.Whole enc P f.params.toList s.vars apart W args.toList ds [] before) (hA : DataW.TrodAll enc P W 0 (fun _ => true) true f.params.toList args.toList ds before) (hs : s.fn H (ds ++ []) = { results := [.lit (.bool true)], args := ds }) (hvs : s.vars = [])
  (hrt : f.resultTypes = #[bt]) (hbt : P.underlying bt = some .bool) (hpt : ∀ t ∈ f.params.toList, P.readableRec t = true ∧ t < P.types.size) (hb : Below W.heap.size W W') : s.post enc P f apart fresh handsOn again W args (.bool true) W' := by
 refine post_of_below (pa := before) (pv := []) hW (fun _ _ _ => ?_) (fun sp h => ?_) (fun sp h => ?_) (by simp) hb ?_
 ·rw [hs, hrt]; exact trodAll_mk1 (shut_bool hbt true)
 ·rw [hs]; exact trodAll_stays hl hb _ _ _ _ hpt hA (fun x hx => ⟨hW.lt x hx, h x hx⟩)
 ·rw [hs, hvs]; rfl
 ·exact ok_one hrt rfl (okWide_bool_mk hbt true)
end
end Go.Proofs.YtbegdcjofnfkiaaGreatDoor
namespace Go.Proofs.YtbegdcjofnfkiaaGreatDoor
open Go.RowKit Go.ChangeShapes Go.WideShapes Go.Deep
end Go.Proofs.YtbegdcjofnfkiaaGreatDoor
end
namespace Go.Proofs.YtbegdcjofnfkiaaGreatDoor
section
open Go.RowKit Go.ChangeShapes Go.WideShapes Go.Deep
section
variable {H : Type} {enc : TypeId × Value → H} {P : Program} {w : World} {base : Nat} {spare : Nat → Bool} {held : Bool}
theorem weightsAll_mem {e : TypeId} {m : Nat} : ∀ {l : List (DataW H)} {d : DataW H}, d ∈ l → m ∈ d.weights P e → m ∈ DataW.weightsAll P e l
  | d0 :: l, d, hd, hm => by
    simp only [DataW.weightsAll, List.mem_append]
    rcases List.mem_cons.1 hd with rfl | hd
    · exact .inl hm
    · exact .inr (weightsAll_mem hd hm)
  | [], _, hd, _ => by simp at hd
def Light (P : Program) (t : TypeId) (d : DataW H) : Prop := ∀ m ∈ d.weights P t, m ≤ reachBytes
theorem light_arg {ts : List TypeId} {ds : List (DataW H)} {j : Nat} {t : TypeId} {d : DataW H} (h : (DataW.weightsEach P ts ds).all (· ≤ reachBytes) = true) (ht : ts[j]? = some t) (hd : ds[j]? = some d) : Light P t d := fun m hm => by
 have := List.all_eq_true.1 h _ (DataW.weights_mem_each ht hd m hm)
 simpa using this
theorem light_field {t : TypeId} {fs : Array Field} {xs : List (DataW H × List MemPlace)} (hu : P.underlying t = some (.struct fs)) (h : Light P t (.agg (xs.map (·.1)))) {j : Nat} {f : Field} {x : DataW H × List MemPlace} (hf : fs[j]? = some f) (hx : xs[j]? = some x) : Light P f.type x.1 := fun m hm => by
 refine h m ?_
 simp only [DataW.weights, hu]
 exact DataW.weights_mem_each (j := j) (by simp [hf]) (by simp [hx]) m hm
theorem open_cells {α : Type} {r : Rep α} {k : Nat} {t e : TypeId} {fuel : Nat} {cs : List Value} {x : DataW H × List MemPlace} (ht : P.underlying t = some (.slice e)) (hC : P.cellsOf e = k) (hk0 : 0 < k)
  (hel : ∀ fuel cs x, DataW.trod enc P w base spare held fuel e cs = some x → Light P e x.1 → ∃ a : α, r w w.heap.size a cs)
  (h : DataW.trod enc P w base spare held fuel t cs = some x) (hw : Light P t x.1) : ∃ A n c l, cs = [.slice A n c] ∧ Rows k r w w.heap.size A n c l ∧ n * P.bytesOf e ≤ reachBytes := by
 rcases open_slice ht h with ⟨hcs, _⟩ | ⟨a, len, cap, m, n, D, Pl, hcs, hb, hl, hm, hmm, hx, hi⟩
 ·exact ⟨none, 0, 0, [], hcs, Rows.nil (by decide), by simp⟩
 ·subst hx
  have hlm : len ≤ m := by rw [hmm]; split <;> omega
  have hwl : len * P.bytesOf e ≤ reachBytes := by
   have := hw ((len + (m - len)) * P.bytesOf e) (by simp [DataW.weights, ht])
   exact Nat.le_trans (Nat.mul_le_mul_right _ (by omega)) this
  have hel' : ∀ i, i < len → ∃ (y : α) (cs' : List Value), r w w.heap.size y cs' ∧ cs'.length = k ∧ ∀ j u, cs'[j]? = some u → w.cell? (a.add (i * k + j)) = some u := by
   intro i hil
   obtain ⟨cs', hc, htr⟩ := hi i (by omega)
   rw [hC] at hc
   obtain ⟨_, hlc, hcell⟩ := World.cells?_some hc
   obtain ⟨y, hy⟩ := hel n cs' _ htr fun q hq => hw q (by
    simp only [DataW.weights, ht]
    refine List.mem_cons_of_mem _ (List.mem_append_left _ (weightsAll_mem (d := D i) (List.mem_map.2 ⟨i, List.mem_range.2 hil, rfl⟩) hq)))
   refine ⟨y, cs', hy, hlc, fun j u hj => ?_⟩
   have hjk : j < k := by rw [← hlc]; exact (List.getElem?_eq_some_iff.1 hj).1
   have := hcell j hjk
   rw [hj] at this
   rw [← Go.Deep.add_add]
   exact this
  rcases Nat.eq_zero_or_pos len with h0 | h0
  ·subst h0
   exact ⟨some a, 0, cap, [], hcs, Rows.nil (by unfold maxLen at hm; omega), by simp⟩
  ·obtain ⟨y0, cs0, hr0, hl0, hc0⟩ := hel' 0 h0
   have ha : a.spot = none ∧ a.block < w.heap.size := by
    have := hc0 0 _ (List.getElem?_eq_getElem (by omega))
    simp only [Nat.zero_mul, Nat.add_zero] at this
    have ha0 : a.add 0 = a := by simp [Addr.add]
    rw [ha0] at this
    unfold World.cell? at this
    split at this
    ·rename_i ho
     split at this
     ·cases this
     ·rename_i hs
      exact ⟨by simpa using hs, lt_of_heap ho⟩
    ·cases this
   obtain ⟨b, off, sp⟩ := a
   obtain ⟨rfl, hlt⟩ := ha
   obtain ⟨f, hf⟩ : ∃ f : Nat → α, ∀ i, i < len → ∃ cs', r w w.heap.size (f i) cs' ∧ cs'.length = k ∧ ∀ j u, cs'[j]? = some u → w.cell? ((⟨b, off, none⟩ : Addr).add (i * k + j)) = some u := by
    refine ⟨fun i => if h : i < len then Classical.choose (hel' i h) else y0, fun i h => ?_⟩
    simp only [dif_pos h]
    exact Classical.choose_spec (hel' i h)
   refine ⟨_, len, cap, (List.range len).map f, hcs, ⟨by simp, hl, by unfold maxLen at hm; omega, fun _ => ⟨b, off, rfl, hlt, fun i x hx => ?_⟩⟩, hwl⟩
   rw [List.getElem?_map] at hx
   have hil : i < len := by
    rcases Nat.lt_or_ge i len with h | h
    ·exact h
    ·rw [List.getElem?_eq_none (by simpa using h)] at hx
     cases hx
   rw [List.getElem?_range hil] at hx
   simp at hx
   subst hx
   obtain ⟨cs', h1, _, h3⟩ := hf i hil
   refine ⟨cs', h1, fun j u hj => ?_⟩
   have := h3 j u hj
   rw [addr_add, ← Nat.add_assoc] at this
   exact this
theorem flat_el {α : Type} {en : α → List Value} {k d : Nat} {e : TypeId} (dec : List Int → α) (hfl : flatInt P d e = true) (hC : P.cellsOf e = k) (hdec : ∀ z : List Int, z.length = k → en (dec z) = z.map (.int .i64)) {fuel : Nat} {cs : List Value} {x : DataW H × List MemPlace}
  (h : DataW.trod enc P w base spare held fuel e cs = some x) : ∃ a : α, Rep.flat en w w.heap.size a cs := by
 obtain ⟨hl, hints⟩ := flat_cells d e fuel cs x hfl h
 obtain ⟨zs, rfl, _⟩ := ints_of cs hints
 refine ⟨dec zs, ?_⟩
 show _ = _
 rw [hdec zs (by simpa [hC] using hl)]
theorem open_arg {α : Type} {r : Rep α} {k : Nat} {t e : TypeId} {b0 : Nat} {rr : Reach} {v : Value} {dt : DataW H} {pl : List MemPlace} (ht : P.underlying t = some (.slice e)) (hC : P.cellsOf e = k) (hk0 : 0 < k)
  (hel : ∀ fuel cs x, DataW.trod enc P w base spare held fuel e cs = some x → Light P e x.1 → ∃ a : α, r w w.heap.size a cs)
  (hv : Value.okWide P w rr b0 t v) (h : DataW.Trod enc P w base spare held t v dt pl) (hw : Light P t dt) : ∃ A n c l, v = .slice A n c ∧ Rows k r w w.heap.size A n c l ∧ n * P.bytesOf e ≤ reachBytes := by
 obtain ⟨a0, len, cap, rfl⟩ := okWide_slice ht hv
 obtain ⟨fuel, hf⟩ := h
 obtain ⟨A, n, c, l, hcs, h1, h2⟩ := open_cells ht hC hk0 hel hf hw
 simp [Value.cells] at hcs
 obtain ⟨rfl, rfl, rfl⟩ := hcs
 exact ⟨_, _, _, l, rfl, h1, h2⟩
end
end
end Go.Proofs.YtbegdcjofnfkiaaGreatDoor
