/- The reference's Put (printed by tools/gen157.py). -/
import Derived.Test.YtpnfpdkoeednhaaA48
import Derived.Test.YtpnfpdkoeednhaaA41
import Derived.Deep.DeepCutAuto
import Derived.Deep.CutBlock
import Derived.Deep.CutRange
import Derived.BigRegion
import Derived.BigQuiet
namespace Go.Proofs.Ytpnfpdkoeednhaa
open Go.RowKit Go.Shelf

def PutPostR (s : Ps) (f : Fc) (w : World) (e : Ending) (w' : World) : Prop :=
  ∃ s', e = .returned (.tuple #[psVal s', .int .i64 (putErr s f)]) ∧ PsIn s' w' w'.heap.size ∧ Below w.heap.size w w' ∧ (putErr s f = 0 → psV s' = (putW (psV s) (lastR s.roots) f).1 ∧ s'.roots = s.roots ++ [((putW (psV s) (lastR s.roots) f).2 : Int)]) ∧ (putErr s f ≠ 0 → s'.gs = [] ∧ s'.roots = [])
theorem putR_no {s : Ps} {f : Fc} {w w' : World} {z : Int} (hz : putErr s f = z) (h0 : z ≠ 0) (hb : Below w.heap.size w w') : PutPostR s f w (.returned (.tuple #[.agg #[.slice none 0 0, .slice none 0 0], .int .i64 z])) w' :=
  ⟨⟨none, 0, 0, [], none, 0, 0, []⟩, by rw [hz], ⟨Rows.nil (by decide), (fun g hg => by cases hg), Rows.nil (by decide)⟩, hb, (fun h => absurd (hz.symm.trans h) h0), fun _ => ⟨rfl, rfl⟩⟩
/-- The boxes of Put's own. -/
structure PrB (s : Ps) (f : Fc) (b : Nat) (w0 w : World) : Prop where
  p : w.heap[b]? = some (.cells #[.slice s.pA s.pn s.pc, .slice s.rA s.rn s.rc] 25 (0, 0))
  f : w.heap[b + 1]? = some (.cells #[.int .i64 f.key.kind, .int .i64 f.key.subj, .int .i64 f.key.obj, .int .i64 f.val, .int .i64 f.fr, .int .i64 f.to, .int .i64 f.known, .int .i64 f.no] 31 (0, 0))
  x : w.heap[b + 2]? = some (.cells #[.slice none 0 0, .slice none 0 0] 25 (0, 0))
  below : Below b w0 w
  at_ : w0.heap.size = b
theorem PrB.later {s : Ps} {f : Fc} {b : Nat} {w0 w w' : World} (h : PrB s f b w0 w) (hb : Below w.heap.size w w') : PrB s f b w0 w' :=
  ⟨(hb.block _ (lt_of_heap h.p)).trans h.p, (hb.block _ (lt_of_heap h.f)).trans h.f, (hb.block _ (lt_of_heap h.x)).trans h.x, h.below.trans (hb.mono (by have := lt_of_heap h.p; omega)), h.at_⟩
theorem PrB.cells {s : Ps} {f : Fc} {b : Nat} {w0 w : World} (h : PrB s f b w0 w) :
    (w.cell? ⟨b, 0, none⟩ = some (.slice s.pA s.pn s.pc) ∧ w.cell? ⟨b, 1, none⟩ = some (.slice s.rA s.rn s.rc) ∧ b < w.heap.size) ∧
    (w.cell? ⟨b + 1, 0, none⟩ = some (.int .i64 f.key.kind) ∧ w.cell? ⟨b + 1, 1, none⟩ = some (.int .i64 f.key.subj) ∧ w.cell? ⟨b + 1, 2, none⟩ = some (.int .i64 f.key.obj) ∧ w.cell? ⟨b + 1, 3, none⟩ = some (.int .i64 f.val) ∧ w.cell? ⟨b + 1, 4, none⟩ = some (.int .i64 f.fr) ∧ w.cell? ⟨b + 1, 5, none⟩ = some (.int .i64 f.to) ∧ w.cell? ⟨b + 1, 6, none⟩ = some (.int .i64 f.known) ∧ w.cell? ⟨b + 1, 7, none⟩ = some (.int .i64 f.no) ∧ b + 1 < w.heap.size) ∧
    w.cell? ⟨b + 2, 0, none⟩ = some (.slice none 0 0) ∧ w.cell? ⟨b + 2, 1, none⟩ = some (.slice none 0 0) ∧ w.frozen? ⟨b + 2, 0, none⟩ = false ∧ w.frozen? ⟨b + 2, 1, none⟩ = false ∧ b + 2 < w.heap.size :=
  ⟨⟨by rw [cell_of_heap h.p]; rfl, by rw [cell_of_heap h.p]; rfl, lt_of_heap h.p⟩, ⟨by rw [cell_of_heap h.f]; rfl, by rw [cell_of_heap h.f]; rfl, by rw [cell_of_heap h.f]; rfl, by rw [cell_of_heap h.f]; rfl, by rw [cell_of_heap h.f]; rfl, by rw [cell_of_heap h.f]; rfl, by rw [cell_of_heap h.f]; rfl, by rw [cell_of_heap h.f]; rfl, lt_of_heap h.f⟩,
    by rw [cell_of_heap h.x]; rfl, by rw [cell_of_heap h.x]; rfl, frozen_of_heap h.x, frozen_of_heap h.x, lt_of_heap h.x⟩
theorem PrB.laterB {s : Ps} {f : Fc} {b n : Nat} {w0 w w' : World} (h : PrB s f b w0 w) (hb : Below n w w') (hn : b + 2 < n) : PrB s f b w0 w' :=
  ⟨(hb.block _ (by omega)).trans h.p, (hb.block _ (by omega)).trans h.f, (hb.block _ (by omega)).trans h.x, h.below.trans (hb.mono (by omega)), h.at_⟩
/-- Put's last store. -/
theorem PrB.last {s : Ps} {f : Fc} {b : Nat} {w0 w : World} (h : PrB s f b w0 w) (v1 v2 : Value) :
    Only (b + 2) w ((w.setCell ⟨b + 2, 0, none⟩ v1).setCell ⟨b + 2, 1, none⟩ v2) ∧ Below w0.heap.size w0 ((w.setCell ⟨b + 2, 0, none⟩ v1).setCell ⟨b + 2, 1, none⟩ v2) ∧ ((w.setCell ⟨b + 2, 0, none⟩ v1).setCell ⟨b + 2, 1, none⟩ v2).cell? ⟨b + 2, 0, none⟩ = some v1 ∧ ((w.setCell ⟨b + 2, 0, none⟩ v1).setCell ⟨b + 2, 1, none⟩ v2).cell? ⟨b + 2, 1, none⟩ = some v2 := by
  have hbx := heap_setN (heap_setN h.x 0 v1) 1 v2
  have h2 := h.below
  rw [← h.at_] at h2
  have ha := h.at_
  exact ⟨(Only.setCell _ _ _ _).trans (Only.setCell _ _ _ _), (h2.setCell (p := ⟨b + 2, 0, none⟩) (by show _ ≤ b + 2; omega) _).setCell (p := ⟨b + 2, 1, none⟩) (by show _ ≤ b + 2; omega) _, by rw [cell_of_heap hbx]; rfl, by rw [cell_of_heap hbx]; rfl⟩

theorem PgIn.blocks {g : Pq} {w w' : World} {n n' : Nat} (h : PgIn g w n) (hk : ∀ x, PgBl g x → x < n' ∧ w'.heap[x]? = w.heap[x]?) : PgIn g w' n' :=
  ⟨rows_at h.1 fun hn b off e => hk b (.inl ⟨hn, off, e⟩), rows_at h.2 fun hn b off e => hk b (.inr ⟨hn, off, e⟩)⟩
def rootG (B one sec : Nat) (uf : Fc) : Pq := ⟨some ⟨B + 1, 0, none⟩, 1, 1, [uf], some ⟨B + 1 + 1, 0, none⟩, 2, 2, [(one : Int), (sec : Int)]⟩
def rootW (w5 : World) (one sec : Nat) (uf : Fc) : World := (((w5.alloc (.cells #[.int .i64 uf.key.kind, .int .i64 uf.key.subj, .int .i64 uf.key.obj, .int .i64 uf.val, .int .i64 uf.fr, .int .i64 uf.to, .int .i64 uf.known, .int .i64 uf.no] 31)).alloc (.cells #[.int .i64 uf.key.kind, .int .i64 uf.key.subj, .int .i64 uf.key.obj, .int .i64 uf.val, .int .i64 uf.fr, .int .i64 uf.to, .int .i64 uf.known, .int .i64 uf.no] 31)).alloc (.cells #[.int .i64 (one : Nat), .int .i64 (sec : Nat)] 3)).alloc (.cells #[.slice (some ⟨w5.heap.size + 1, 0, none⟩) 1 1, .slice (some ⟨w5.heap.size + 1 + 1, 0, none⟩) 2 2] 66)
theorem root_run (w5 : World) {base n c one sec : Nat} {A : Option Addr} {gs : List Pq} {uf : Fc} (hown : w5.ownsRow base 66 2 (.slice A n c) n (gs.flatMap pgEnc)) (heach : ∀ g ∈ gs, PgIn g w5 w5.heap.size) (hap : ∀ g ∈ gs, ∀ x, PgBl g x → (Value.slice A n c).ownBlock ≠ some x) (hb : base ≤ w5.heap.size) (hn : n ≤ 1000002) :
    ∃ A' c' w6, (Builtin.append_ #[22, 22] 22 #[.slice A n c, .slice (some ⟨w5.heap.size + 1 + 1 + 1, 0, none⟩) 1 1]).run Try.prog (rootW w5 one sec uf) = .ok (.slice A' (n + 1) c') w6 ∧ w6.ownsRow base 66 2 (.slice A' (n + 1) c') (n + 1) ((gs ++ [rootG w5.heap.size one sec uf]).flatMap pgEnc) ∧ (∀ g ∈ gs ++ [rootG w5.heap.size one sec uf], PgIn g w6 w6.heap.size) ∧ Below base w5 w6 := by
  obtain ⟨i2, hpi, hpz, hpss, hpb⟩ := info_parts pgInfoR
  obtain ⟨W1, hW1⟩ : ∃ W, w5.alloc (.cells #[.int .i64 uf.key.kind, .int .i64 uf.key.subj, .int .i64 uf.key.obj, .int .i64 uf.val, .int .i64 uf.fr, .int .i64 uf.to, .int .i64 uf.known, .int .i64 uf.no] 31) = W := ⟨_, rfl⟩
  obtain ⟨W2, hW2⟩ : ∃ W, W1.alloc (.cells #[.int .i64 uf.key.kind, .int .i64 uf.key.subj, .int .i64 uf.key.obj, .int .i64 uf.val, .int .i64 uf.fr, .int .i64 uf.to, .int .i64 uf.known, .int .i64 uf.no] 31) = W := ⟨_, rfl⟩
  obtain ⟨W3, hW3⟩ : ∃ W, W2.alloc (.cells #[.int .i64 (one : Nat), .int .i64 (sec : Nat)] 3) = W := ⟨_, rfl⟩
  obtain ⟨W4, hW4⟩ : ∃ W, W3.alloc (.cells #[.slice (some ⟨w5.heap.size + 1, 0, none⟩) 1 1, .slice (some ⟨w5.heap.size + 1 + 1, 0, none⟩) 2 2] 66) = W := ⟨_, rfl⟩
  have e4 : rootW w5 one sec uf = W4 := by unfold rootW; rw [hW1, hW2, hW3, hW4]
  rw [e4]
  have z1 : W1.heap.size = w5.heap.size + 1 := by rw [← hW1]; simp
  have z2 : W2.heap.size = w5.heap.size + 1 + 1 := by rw [← hW2]; simp [z1]
  have z3 : W3.heap.size = w5.heap.size + 1 + 1 + 1 := by rw [← hW3]; simp [z2]
  have z4 : W4.heap.size = w5.heap.size + 1 + 1 + 1 + 1 := by rw [← hW4]; simp [z3]
  have c1 : Below w5.heap.size w5 W1 := hW1 ▸ (Below.refl _ w5).alloc (Nat.le_refl _) _
  have c2 : Below W1.heap.size W1 W2 := hW2 ▸ (Below.refl _ W1).alloc (Nat.le_refl _) _
  have c3 : Below W2.heap.size W2 W3 := hW3 ▸ (Below.refl _ W2).alloc (Nat.le_refl _) _
  have c4 : Below W3.heap.size W3 W4 := hW4 ▸ (Below.refl _ W3).alloc (Nat.le_refl _) _
  have g2 : W4.heap[w5.heap.size + 1]? = some (.cells #[.int .i64 uf.key.kind, .int .i64 uf.key.subj, .int .i64 uf.key.obj, .int .i64 uf.val, .int .i64 uf.fr, .int .i64 uf.to, .int .i64 uf.known, .int .i64 uf.no] 31 (0, 0)) := (c4.block _ (by omega)).trans ((c3.block _ (by omega)).trans (by rw [← hW2, ← z1]; exact World.alloc_heap_new _ _))
  have g3 : W4.heap[w5.heap.size + 1 + 1]? = some (.cells #[.int .i64 (one : Nat), .int .i64 (sec : Nat)] 3 (0, 0)) := (c4.block _ (by omega)).trans (by rw [← hW3, ← z2]; exact World.alloc_heap_new _ _)
  have g4 : W4.heap[w5.heap.size + 1 + 1 + 1]? = some (.cells #[.slice (some ⟨w5.heap.size + 1, 0, none⟩) 1 1, .slice (some ⟨w5.heap.size + 1 + 1, 0, none⟩) 2 2] 66 (0, 0)) := by rw [← hW4, ← z3]; exact World.alloc_heap_new _ _
  have cW := ((c1.trans (c2.mono c1.size)).trans (c3.mono (c1.trans (c2.mono c1.size)).size)).trans (c4.mono (by omega : w5.heap.size ≤ W3.heap.size))
  have ho4 := own_keepB hown fun x e => cW.block x (hown.lt x e).2
  have hG : PgIn (rootG w5.heap.size one sec uf) W4 W4.heap.size := ⟨rows_of_heap (l := [uf]) (c := 1) fEnc_len g2 (by simp) (by omega) (by simp [fEnc]), rows_of_heap (l := [(one : Int), (sec : Int)]) (c := 2) iEnc_len g3 (by simp) (by omega) (by simp [iEnc])⟩
  obtain ⟨v', w6, hrun, hown', hg', hat⟩ := run_append_rows (P := Try.prog) (ty := 22) (enc := pgEnc) (s := [rootG w5.heap.size one sec uf]) Try.underlying22 hpi hpz hpss hpb rfl pgEnc_len (by decide) pgEnc_one ho4 (rows_of_heap (l := [rootG w5.heap.size one sec uf]) (c := 1) pgEnc_len g4 (by simp) (by omega) (by simp [rootG, pgEnc])) (by simp only [List.length_cons, List.length_nil]; omega) (by simp only [List.length_cons, List.length_nil]; omega) (by omega : base ≤ W4.heap.size)
  obtain ⟨A', c', rfl, -⟩ := own_rows pgEnc_len (by decide) hown'
  refine ⟨A', c', w6, hrun, hown', fun g hg => ?_, (cW.mono hb).trans ((Below.refl base W4).grown hg' (by omega) fun r e => (ho4.lt r e).1)⟩
  have hkeep : ∀ g, PgIn g W4 W4.heap.size → (∀ x, PgBl g x → (Value.slice A n c).ownBlock ≠ some x) → PgIn g w6 w6.heap.size := fun g h hx =>
    h.blocks fun x hb => ⟨Nat.lt_of_lt_of_le (PgBl.lt h hb) hg'.size, hg'.block x (PgBl.lt h hb) fun e => hx x hb e.symm⟩
  rcases List.mem_append.1 hg with h | h
  · exact hkeep g ((heach g h).keep cW.size cW.block) (hap g h)
  · obtain rfl := List.mem_singleton.1 h
    refine hkeep _ hG fun x hx e => ?_
    have := (hown.lt x e).2
    rcases hx with ⟨_, off, e1⟩ | ⟨_, off, e1⟩
    · cases e1; omega
    · cases e1; omega

set_option maxRecDepth 100000 in
set_option maxHeartbeats 8000000 in
theorem r47Put_any (s : Ps) (f : Fc) (w : World) (hps : PsIn s w w.heap.size) (hsm : ∀ g ∈ s.gs, g.fn ≤ 1000000 ∧ g.kn ≤ 1000000) (hT : ((psV s).flatMap (·.facts)).length ≤ 1000000) (hlim : 3 * s.gs.length + 10 ≤ 1000000) (hrl : s.rn ≤ 1000000) :
    Calls Try.prog 13 #[psVal s, .agg #[.int .i64 f.key.kind, .int .i64 f.key.subj, .int .i64 f.key.obj, .int .i64 f.val, .int .i64 f.fr, .int .i64 f.to, .int .i64 f.known, .int .i64 f.no]] w (PutPostR s f w) := by
  obtain ⟨i0, hfi, hfz, hfs, hfb⟩ := info_parts fInfo
  obtain ⟨i1, hii, hiz, his, hib⟩ := info_parts iInfo
  obtain ⟨i2, hpi, hpz, hpss, hpb⟩ := info_parts pgInfoR
  obtain ⟨b, hb⟩ : ∃ b, w.heap.size = b := ⟨_, rfl⟩
  obtain ⟨V0, hV0⟩ : ∃ V, w.alloc (.cells #[.slice s.pA s.pn s.pc, .slice s.rA s.rn s.rc] 25) = V := ⟨_, rfl⟩
  obtain ⟨V1, hV1⟩ : ∃ V, V0.alloc (.cells #[.int .i64 f.key.kind, .int .i64 f.key.subj, .int .i64 f.key.obj, .int .i64 f.val, .int .i64 f.fr, .int .i64 f.to, .int .i64 f.known, .int .i64 f.no] 31) = V := ⟨_, rfl⟩
  obtain ⟨W, hW⟩ : ∃ V, V1.alloc (.cells #[.slice none 0 0, .slice none 0 0] 25) = V := ⟨_, rfl⟩
  have z0 : V0.heap.size = b + 1 := by rw [← hV0]; simp [hb]
  have z1 : V1.heap.size = b + 2 := by rw [← hV1]; simp [z0]
  have c0 : Below w.heap.size w V0 := hV0 ▸ (Below.refl _ w).alloc (Nat.le_refl _) _
  have c1 : Below V0.heap.size V0 V1 := hV1 ▸ (Below.refl _ V0).alloc (Nat.le_refl _) _
  have c2 : Below V1.heap.size V1 W := hW ▸ (Below.refl _ V1).alloc (Nat.le_refl _) _
  have g0 : V0.heap[b]? = some (.cells #[.slice s.pA s.pn s.pc, .slice s.rA s.rn s.rc] 25 (0, 0)) := by rw [← hV0, ← hb]; exact World.alloc_heap_new _ _
  have g1 : V1.heap[b + 1]? = some (.cells #[.int .i64 f.key.kind, .int .i64 f.key.subj, .int .i64 f.key.obj, .int .i64 f.val, .int .i64 f.fr, .int .i64 f.to, .int .i64 f.known, .int .i64 f.no] 31 (0, 0)) := by rw [← hV1, ← z0]; exact World.alloc_heap_new _ _
  have g2 : W.heap[b + 2]? = some (.cells #[.slice none 0 0, .slice none 0 0] 25 (0, 0)) := by rw [← hW, ← z1]; exact World.alloc_heap_new _ _
  have cW := c0.trans ((c1.trans (c2.mono c1.size)).mono c0.size)
  have HSt : Hid (PrB s f b w W) := ⟨(c2.block _ (by omega)).trans ((c1.block _ (by omega)).trans g0), (c2.block _ (by omega)).trans g1, g2, hb ▸ cW, hb⟩
  have HPs : Hid (∀ W', Below W.heap.size W W' → PsIn s W' W'.heap.size) := fun W' h => hps.later (cW.trans (h.mono cW.size))
  have HOld : Hid (∀ g ∈ s.gs, ∀ x, PgBl g x → x < b) := fun g hg x hx => hb ▸ PgBl.lt (hps.each g hg) hx
  have HSm := hidp hsm
  have HT := hidp hT
  have HLim := hidp hlim
  have HRl := hidp hrl
  have HRn := hidp hps.roots.1
  have HPn : Hid (s.pn = s.gs.length) := hps.pages.1
  have hrc := hps.roots.2.1
  have hrc2 := hps.roots.2.2.1
  have hpc := hps.pages.2.1
  have hpc2 := hps.pages.2.2.1
  obtain ⟨⟨p0, p1, p2⟩, ⟨f0, f1, f2, f3, f4, f5, f6, f7, f8⟩, x0, x1, x2, x3, x4⟩ := HSt.out.cells
  clear c0 c1 c2 g0 g1 g2 cW hps hsm hT hlim hrl
  go_enter Try.func13, Try.ntmps13
  go_wp2_with fail
  clear hV0 hV1 hW z0 z1
  refine (r47Check_any s W (HPs.out W (Below.refl _ _)) HSm.out HT.out).mono ?_
  rintro e w1 ⟨rfl, hb1⟩
  have HSt1 := hidp (HSt.out.later hb1)
  have HB1 := hidp hb1
  obtain ⟨ck, hck⟩ : ∃ b, checkP (psV s) s.roots = b := ⟨_, rfl⟩
  have HCk := hidp hck
  rw [hck]
  clear p0 p1 p2 f0 f1 f2 f3 f4 f5 f6 f7 f8 x0 x1 x2 x3 x4 hck hb1
  obtain ⟨⟨p0, p1, p2⟩, ⟨f0, f1, f2, f3, f4, f5, f6, f7, f8⟩, x0, x1, x2, x3, x4⟩ := HSt1.out.cells
  cases ck
  case false =>
    have HE : Hid (putErr s f = 470) := by show _ = _; unfold putErr; rw [HCk.out]; rfl
    rw [show errP false = 470 from rfl]
    go_wp2_with fail
    obtain ⟨-, y1, y2, y3⟩ := HSt1.out.last (.slice none 0 0) (.slice none 0 0)
    refine bodyPost_ret (v := .tuple #[.agg #[.slice none 0 0, .slice none 0 0], .int .i64 470]) (by simp [results, Try.results13, go_sem, y2, y3]; try rfl) rfl ?_
    exact putR_no HE.out (by decide) y1
  rw [show errP true = 0 from rfl]
  go_wp2_with fail
  refine (rCheck_any _ 1 1 [f] _ (rows_of_heap (l := [f]) (c := 1) fEnc_len (World.alloc_heap_new _ _) (by simp) (by omega) (by simp [fEnc]))).mono ?_
  rintro e w2 ⟨rfl, hb2⟩
  have hb2' : Below w1.heap.size w1 w2 := ((Below.refl _ w1).alloc (Nat.le_refl _) _).trans (hb2.mono (by simp))
  have HSt2 := hidp (HSt1.out.later hb2')
  have HB2 := hidp (HB1.out.trans (hb2'.mono HB1.out.size))
  clear p0 p1 p2 f0 f1 f2 f3 f4 f5 f6 f7 f8 x0 x1 x2 x3 x4 hb2 hb2'
  obtain ⟨⟨p0, p1, p2⟩, ⟨f0, f1, f2, f3, f4, f5, f6, f7, f8⟩, x0, x1, x2, x3, x4⟩ := HSt2.out.cells
  by_cases hok : f.ok = true
  case neg =>
    have hz : checkF [f] = 70 := by rw [checkF_1, if_neg hok]
    have HE : Hid (putErr s f = 70) := by show _ = _; unfold putErr; rw [HCk.out, hz]; rfl
    rw [hz]
    clear hz hok
    go_wp2_with fail
    obtain ⟨-, y1, y2, y3⟩ := HSt2.out.last (.slice none 0 0) (.slice none 0 0)
    refine bodyPost_ret (v := .tuple #[.agg #[.slice none 0 0, .slice none 0 0], .int .i64 70]) (by simp [results, Try.results13, go_sem, y2, y3]; try rfl) rfl ?_
    exact putR_no HE.out (by decide) y1
  have hz : checkF [f] = 0 := by rw [checkF_1, if_pos hok]
  have HZf := hidp hz
  rw [hz]
  have HFo := hidp hok
  clear hz hok
  obtain ⟨hne, hall⟩ := checkP_iff.1 HCk.out
  obtain ⟨r1, hr1⟩ : ∃ k, s.rn = k + 1 := ⟨s.rn - 1, by have := HRn.out; have := List.length_pos_iff.2 hne; omega⟩
  have hr1n : r1 < s.rn := by omega
  have hwr : IntKind.i64.wrap ((s.rn : Int) - 1) = (r1 : Int) := by
    rw [show (s.rn : Int) - 1 = (r1 : Int) by omega]
    exact IntWalk.i64_in _ (by have := HRl.out; omega)
  obtain ⟨rb, ro, z, hrA, _, hz, q0⟩ := iSl.get (HPs.out w2 HB2.out).roots hr1n
  have hixr := fun W => ix_intsP (c := s.rc) hrA hr1n W
  have lq := lt_of_cell q0
  obtain ⟨h0, d, hG⟩ := hall z (List.mem_of_getElem? hz)
  obtain ⟨q, hq⟩ : ∃ q : Nat, z = q := ⟨z.toNat, by omega⟩
  subst hq
  rw [Int.toNat_natCast] at hG
  have HLr : Hid (lastR s.roots = q) := by
    show _ = _
    unfold lastR
    rw [List.getLast?_eq_getElem?, show s.roots.length - 1 = r1 by have := HRn.out; omega, hz]
    rfl
  have HG := hidp hG
  have HQ : Hid (q < s.gs.length) := by have := hG.1.lt; rw [psV_len] at this; exact this
  have HWk := hidp (good_lvG hG).1
  obtain ⟨m, hm⟩ : ∃ m, allT (psV s) q = m := ⟨_, rfl⟩
  have HM := hidp hm
  have hwk2 := HWk.out
  rw [hm] at hwk2
  replace HWk := hidp hwk2
  have HR1 := hidp hr1
  clear hne hall hz hrA h0 hG hm hwk2 hr1
  go_wp2_with fail
  refine (walk_top s q w2 HQ.out (HPs.out w2 HB2.out) HSm.out HT.out).mono ?_
  rintro e w3 ⟨hb3, -, h3⟩
  obtain ⟨A3, c3, rfl, hr3⟩ := h3 m d HWk.out
  have HSt3 := hidp (HSt2.out.later hb3)
  have HB3 := hidp (HB2.out.trans (hb3.mono HB2.out.size))
  obtain ⟨n3, hn3⟩ : ∃ n, m.length = n := ⟨_, rfl⟩
  rw [hn3] at hr3 ⊢
  have HN3 := hidp hn3
  have HR3 : Hid (∀ W', Below w3.heap.size w3 W' → fSl W' W'.heap.size A3 n3 c3 m) := fun W' h => hr3.keep fStable h.size h.block
  have hc3 := hr3.2.1
  have hc3' := hr3.2.2.1
  clear p0 p1 p2 f0 f1 f2 f3 f4 f5 f6 f7 f8 x0 x1 x2 x3 x4 hb3 h3 hn3 hr3 q0 lq hixr hwr
  obtain ⟨⟨p0, p1, p2⟩, ⟨f0, f1, f2, f3, f4, f5, f6, f7, f8⟩, x0, x1, x2, x3, x4⟩ := HSt3.out.cells
  go_wp2_with fail
  clear p0 p1 p2 f0 f1 f2 f3 f4 f5 f6 f7 f8 x0 x1 x2 x3 x4
  go_loopw [11] (fun s11 wr => ∃ j : Nat, j ≤ n3 ∧ s11 = .int .i64 j ∧ Below w3.heap.size w3 wr ∧ ∀ (i : Nat) (x : Fc), i < j → m[i]? = some x → ltP x f = true ∨ ltP f x = true) (fun s11 _ => n3 - (intOf s11).toNat)
  case atStart => exact ⟨0, by omega, rfl, Below.refl _ _, fun i x h => by omega⟩
  case round =>
  obtain ⟨j, hj, rfl, hbw, hall⟩ := hrel
  have HBw := hidp hbw
  have HAll := hidp hall
  have HSw := hidp (HSt3.out.later hbw)
  clear hbw hall
  obtain ⟨⟨p0, p1, p2⟩, ⟨f0, f1, f2, f3, f4, f5, f6, f7, f8⟩, x0, x1, x2, x3, x4⟩ := HSw.out.cells
  by_cases hjn : j < n3
  case pos =>
    obtain ⟨yb, yo, y, hyA, _, hy, d0, d1, d2, d3, d4, d5, d6, d7⟩ := fSl.get (HR3.out wr HBw.out) hjn
    have hixy := fun W => ix_FactsP (c := c3) hyA hjn W
    have ly := lt_of_cell d0
    have hjlt : j < 9223372036854775807 := by omega
    have hjn' : (j : Int) < n3 := by omega
    have hwj : IntKind.i64.wrap ((j : Int) + 1) = (j : Int) + 1 := IntWalk.i64_in _ (by omega)
    have HY := hidp hy
    obtain ⟨lb1, hlb1⟩ : ∃ b, ltP y f = b := ⟨_, rfl⟩
    obtain ⟨lb2, hlb2⟩ : ∃ b, ltP f y = b := ⟨_, rfl⟩
    have HLb1 := hidp hlb1
    have HLb2 := hidp hlb2
    have HJn := hidp hjn
    clear hy hyA hlb1 hlb2 hjn
    go_upto_region 12 with fail
    cases lb1
    case true =>
      refine wp_region_S wr.heap.size 16 (fun _ => false) (Nat.le_refl _) (by kernel_rfl) (by kernel_rfl) (by kernel_rfl) ?_
      dsimp only [List.take, List.drop]
      apply relS_det (mask := []) (x := .slice A3 n3 c3)
      · rfl
      · kernel_rfl
      · kernel_rfl
      · dsimp only [oblS]
        rintro w9 h9
        go_simp
        exact ⟨Below.refl _ _, rfl⟩
      dsimp only [List.nil_append, List.cons_append]
      apply relS_det (mask := [false])
      · rfl
      · kernel_rfl
      · kernel_rfl
      · dsimp only [oblS]
        rintro w9 h9
        go_simp
        exact ⟨Below.refl _ _, rfl⟩
      dsimp only [List.nil_append, List.cons_append]
      apply relS_det (mask := [true, true])
      · rfl
      · kernel_rfl
      · kernel_rfl
      · dsimp only [oblS]
        rintro w9 h9
        go_simp
        exact ⟨Below.refl _ _, rfl⟩
      dsimp only [List.nil_append, List.cons_append]
      apply relS_det (mask := [false, false, true]) (x := .agg #[.int .i64 y.key.kind, .int .i64 y.key.subj, .int .i64 y.key.obj, .int .i64 y.val, .int .i64 y.fr, .int .i64 y.to, .int .i64 y.known, .int .i64 y.no])
      · rfl
      · kernel_rfl
      · kernel_rfl
      · dsimp only [oblS]
        rintro w9 h9
        have hc9 := (bcell h9).1
        go_simp
        exact ⟨Below.refl _ _, rfl⟩
      dsimp only [List.nil_append, List.cons_append]
      apply relS_det (mask := [false, false, false, false]) (x := .agg #[.int .i64 f.key.kind, .int .i64 f.key.subj, .int .i64 f.key.obj, .int .i64 f.val, .int .i64 f.fr, .int .i64 f.to, .int .i64 f.known, .int .i64 f.no])
      · rfl
      · kernel_rfl
      · kernel_rfl
      · dsimp only [oblS]
        rintro w9 h9
        have hc9 := (bcell h9).1
        go_simp
        exact ⟨Below.refl _ _, rfl⟩
      dsimp only [List.nil_append, List.cons_append]
      apply relS_det (mask := [false, false, false, true, true]) (x := .bool true)
      · rfl
      · kernel_rfl
      · kernel_rfl
      · dsimp only [oblS]
        rintro w9 h9
        have hc9 := (bcell h9).1
        go_simp
        refine (r47Before_any y f w9).mono ?_
        rintro e w1 ⟨rfl, hb⟩
        exact ⟨_, rfl, hb, by show _ = _; rw [HLb1.out]⟩
      dsimp only [List.nil_append, List.cons_append]
      apply relS_det (mask := [false, false, false, false, false, true]) (x := .bool false)
      · rfl
      · kernel_rfl
      · kernel_rfl
      · dsimp only [oblS]
        rintro w9 h9
        go_simp
        exact ⟨Below.refl _ _, rfl⟩
      dsimp only [List.nil_append, List.cons_append]
      apply relS_det (mask := [false, false, false, false, false, false, true]) (x := .bool false)
      · rfl
      · kernel_rfl
      · kernel_rfl
      · dsimp only [oblS]
        rintro w9 h9
        go_simp
        exact ⟨Below.refl _ _, rfl⟩
      dsimp only [List.nil_append, List.cons_append]
      apply relS_not (mask := [false, false, false, false, false, false, false, true]) (t := 58) (want := true) (hf := by rfl) (hg := by kernel_rfl) (hm := by kernel_rfl)
      · rfl
      dsimp only [List.nil_append, List.cons_append]
      apply relS_not (mask := [false, false, false, false, false, false, false, true, false]) (t := 58) (want := true) (hf := by rfl) (hg := by kernel_rfl) (hm := by kernel_rfl)
      · rfl
      dsimp only [List.nil_append, List.cons_append]
      apply relS_not (mask := [false, false, false, false, false, false, false, true, false, false]) (t := 58) (want := true) (hf := by rfl) (hg := by kernel_rfl) (hm := by kernel_rfl)
      · rfl
      dsimp only [List.nil_append, List.cons_append]
      apply relS_not (mask := [false, false, false, false, false, false, false, true, false, true, true]) (t := 58) (want := true) (hf := by rfl) (hg := by kernel_rfl) (hm := by kernel_rfl)
      · rfl
      dsimp only [List.nil_append, List.cons_append]
      apply relS_not (mask := [false, false, false, false, false, false, false, true, false, false, false, true]) (t := 58) (want := true) (hf := by rfl) (hg := by kernel_rfl) (hm := by kernel_rfl)
      · rfl
      dsimp only [List.nil_append, List.cons_append]
      apply relS_not (mask := [false, false, false, false, false, false, false, true, true, false, false, false, true]) (t := 58) (want := true) (hf := by rfl) (hg := by kernel_rfl) (hm := by kernel_rfl)
      · rfl
      dsimp only [List.nil_append, List.cons_append]
      apply relS_not (mask := [false, false, false, false, false, false, false, true, false, false, false, false, false, true]) (t := 58) (want := true) (hf := by rfl) (hg := by kernel_rfl) (hm := by kernel_rfl)
      · rfl
      dsimp only [List.nil_append, List.cons_append]
      apply relS_det (mask := [false, false, false, false, false, false, false, true, false, false, false, false, false, false, true]) (x := .bool false)
      · rfl
      · kernel_rfl
      · kernel_rfl
      · dsimp only [oblS]
        rintro w9 h9
        go_simp
        exact ⟨Below.refl _ _, rfl⟩
      dsimp only [List.nil_append, List.cons_append]
      refine relS_end (by rfl) ?_
      dsimp only [finS]
      rintro w7 hb7
      have HB7 := hidp (HBw.out.trans (hb7.mono HBw.out.size))
      go_simp
      go_wp2_with fail
      go_roundw
      case rel =>
        refine ⟨j + 1, by have := HJn.out; omega, by go_num, HB7.out, fun i x hi hx => ?_⟩
        by_cases hij : i < j
        · exact HAll.out i x hij hx
        · obtain rfl : i = j := by omega
          have := Option.some.inj (HY.out.symm.trans hx)
          rw [← this]
          exact .inl HLb1.out
      case measure => have := HJn.out; simp [intOf]; omega
    refine wp_region_S wr.heap.size 16 (fun _ => false) (Nat.le_refl _) (by kernel_rfl) (by kernel_rfl) (by kernel_rfl) ?_
    dsimp only [List.take, List.drop]
    apply relS_det (mask := []) (x := .slice A3 n3 c3)
    · rfl
    · kernel_rfl
    · kernel_rfl
    · dsimp only [oblS]
      rintro w9 h9
      go_simp
      exact ⟨Below.refl _ _, rfl⟩
    dsimp only [List.nil_append, List.cons_append]
    apply relS_det (mask := [false])
    · rfl
    · kernel_rfl
    · kernel_rfl
    · dsimp only [oblS]
      rintro w9 h9
      go_simp
      exact ⟨Below.refl _ _, rfl⟩
    dsimp only [List.nil_append, List.cons_append]
    apply relS_det (mask := [true, true])
    · rfl
    · kernel_rfl
    · kernel_rfl
    · dsimp only [oblS]
      rintro w9 h9
      go_simp
      exact ⟨Below.refl _ _, rfl⟩
    dsimp only [List.nil_append, List.cons_append]
    apply relS_det (mask := [false, false, true]) (x := .agg #[.int .i64 y.key.kind, .int .i64 y.key.subj, .int .i64 y.key.obj, .int .i64 y.val, .int .i64 y.fr, .int .i64 y.to, .int .i64 y.known, .int .i64 y.no])
    · rfl
    · kernel_rfl
    · kernel_rfl
    · dsimp only [oblS]
      rintro w9 h9
      have hc9 := (bcell h9).1
      go_simp
      exact ⟨Below.refl _ _, rfl⟩
    dsimp only [List.nil_append, List.cons_append]
    apply relS_det (mask := [false, false, false, false]) (x := .agg #[.int .i64 f.key.kind, .int .i64 f.key.subj, .int .i64 f.key.obj, .int .i64 f.val, .int .i64 f.fr, .int .i64 f.to, .int .i64 f.known, .int .i64 f.no])
    · rfl
    · kernel_rfl
    · kernel_rfl
    · dsimp only [oblS]
      rintro w9 h9
      have hc9 := (bcell h9).1
      go_simp
      exact ⟨Below.refl _ _, rfl⟩
    dsimp only [List.nil_append, List.cons_append]
    apply relS_det (mask := [false, false, false, true, true]) (x := .bool false)
    · rfl
    · kernel_rfl
    · kernel_rfl
    · dsimp only [oblS]
      rintro w9 h9
      have hc9 := (bcell h9).1
      go_simp
      refine (r47Before_any y f w9).mono ?_
      rintro e w1 ⟨rfl, hb⟩
      exact ⟨_, rfl, hb, by show _ = _; rw [HLb1.out]⟩
    dsimp only [List.nil_append, List.cons_append]
    apply relS_det (mask := [false, false, false, false, false, true]) (x := .bool true)
    · rfl
    · kernel_rfl
    · kernel_rfl
    · dsimp only [oblS]
      rintro w9 h9
      go_simp
      exact ⟨Below.refl _ _, rfl⟩
    dsimp only [List.nil_append, List.cons_append]
    apply relS_det (mask := [false, false, false, false, false, false, true]) (x := .bool true)
    · rfl
    · kernel_rfl
    · kernel_rfl
    · dsimp only [oblS]
      rintro w9 h9
      go_simp
      exact ⟨Below.refl _ _, rfl⟩
    dsimp only [List.nil_append, List.cons_append]
    apply relS_detg (mask := [false, false, false, false, false, false, false, true]) (t := 58) (want := true) (x := .agg #[.int .i64 f.key.kind, .int .i64 f.key.subj, .int .i64 f.key.obj, .int .i64 f.val, .int .i64 f.fr, .int .i64 f.to, .int .i64 f.known, .int .i64 f.no])
    · rfl
    · kernel_rfl
    · kernel_rfl
    · dsimp only [oblS]
      refine ⟨by rfl, ?_⟩
      rintro w9 h9
      have hc9 := (bcell h9).1
      go_simp
      exact ⟨Below.refl _ _, rfl⟩
    dsimp only [List.nil_append, List.cons_append]
    apply relS_detg (mask := [false, false, false, false, false, false, false, true, false]) (t := 58) (want := true) (x := .slice A3 n3 c3)
    · rfl
    · kernel_rfl
    · kernel_rfl
    · dsimp only [oblS]
      refine ⟨by rfl, ?_⟩
      rintro w9 h9
      go_simp
      exact ⟨Below.refl _ _, rfl⟩
    dsimp only [List.nil_append, List.cons_append]
    apply relS_detg (mask := [false, false, false, false, false, false, false, true, false, false]) (t := 58) (want := true)
    · rfl
    · kernel_rfl
    · kernel_rfl
    · dsimp only [oblS]
      refine ⟨by rfl, ?_⟩
      rintro w9 h9
      go_simp
      exact ⟨Below.refl _ _, rfl⟩
    dsimp only [List.nil_append, List.cons_append]
    apply relS_detg (mask := [false, false, false, false, false, false, false, true, false, true, true]) (t := 58) (want := true)
    · rfl
    · kernel_rfl
    · kernel_rfl
    · dsimp only [oblS]
      refine ⟨by rfl, ?_⟩
      rintro w9 h9
      go_simp
      exact ⟨Below.refl _ _, rfl⟩
    dsimp only [List.nil_append, List.cons_append]
    apply relS_detg (mask := [false, false, false, false, false, false, false, true, false, false, false, true]) (t := 58) (want := true) (x := .agg #[.int .i64 y.key.kind, .int .i64 y.key.subj, .int .i64 y.key.obj, .int .i64 y.val, .int .i64 y.fr, .int .i64 y.to, .int .i64 y.known, .int .i64 y.no])
    · rfl
    · kernel_rfl
    · kernel_rfl
    · dsimp only [oblS]
      refine ⟨by rfl, ?_⟩
      rintro w9 h9
      have hc9 := (bcell h9).1
      go_simp
      exact ⟨Below.refl _ _, rfl⟩
    dsimp only [List.nil_append, List.cons_append]
    apply relS_detg (mask := [false, false, false, false, false, false, false, true, true, false, false, false, true]) (t := 58) (want := true) (x := .bool lb2)
    · rfl
    · kernel_rfl
    · kernel_rfl
    · dsimp only [oblS]
      refine ⟨by rfl, ?_⟩
      rintro w9 h9
      have hc9 := (bcell h9).1
      go_simp
      refine (r47Before_any f y w9).mono ?_
      rintro e w1 ⟨rfl, hb⟩
      exact ⟨_, rfl, hb, by show _ = _; rw [HLb2.out]⟩
    dsimp only [List.nil_append, List.cons_append]
    apply relS_detg (mask := [false, false, false, false, false, false, false, true, false, false, false, false, false, true]) (t := 58) (want := true) (x := .bool (!lb2))
    · rfl
    · kernel_rfl
    · kernel_rfl
    · dsimp only [oblS]
      refine ⟨by rfl, ?_⟩
      rintro w9 h9
      go_simp
      exact ⟨Below.refl _ _, rfl⟩
    dsimp only [List.nil_append, List.cons_append]
    apply relS_det (mask := [false, false, false, false, false, false, false, true, false, false, false, false, false, false, true]) (x := .bool (!lb2))
    · rfl
    · kernel_rfl
    · kernel_rfl
    · dsimp only [oblS]
      rintro w9 h9
      go_simp
      exact ⟨Below.refl _ _, rfl⟩
    dsimp only [List.nil_append, List.cons_append]
    refine relS_end (by rfl) ?_
    dsimp only [finS]
    rintro w7 hb7
    have HB7 := hidp (HBw.out.trans (hb7.mono HBw.out.size))
    have HS7 := hidp (HSw.out.later hb7)
    go_simp
    clear p0 p1 p2 f0 f1 f2 f3 f4 f5 f6 f7 f8 x0 x1 x2 x3 x4
    obtain ⟨⟨p0, p1, p2⟩, ⟨f0, f1, f2, f3, f4, f5, f6, f7, f8⟩, x0, x1, x2, x3, x4⟩ := HS7.out.cells
    cases lb2
    case true =>
      go_wp2_with fail
      go_roundw
      case rel =>
        refine ⟨j + 1, by have := HJn.out; omega, by go_num, HB7.out, fun i x hi hx => ?_⟩
        by_cases hij : i < j
        · exact HAll.out i x hij hx
        · obtain rfl : i = j := by omega
          have := Option.some.inj (HY.out.symm.trans hx)
          rw [← this]
          exact .inr HLb2.out
      case measure => have := HJn.out; simp [intOf]; omega
    have HE : Hid (putErr s f = 470) := by
      have hc : compB f m = false := by
        rw [Bool.eq_false_iff]
        intro h
        rcases compB_iff.1 h y (List.mem_of_getElem? HY.out) with h1 | h1
        · rw [HLb1.out] at h1; cases h1
        · rw [HLb2.out] at h1; cases h1
      show _ = _
      unfold putErr
      rw [HCk.out, HZf.out, HLr.out, HM.out, hc]
      rfl
    go_wp2_with fail
    obtain ⟨-, y1, y2, y3⟩ := HS7.out.last (.slice none 0 0) (.slice none 0 0)
    refine bodyPost_ret (v := .tuple #[.agg #[.slice none 0 0, .slice none 0 0], .int .i64 470]) (by simp [results, Try.results13, go_sem, y2, y3]; try rfl) rfl ?_
    exact putR_no HE.out (by decide) y1
  have hjn' : ¬ ((j : Int) < n3) := by omega
  have HCo : Hid (Comp f m) := fun x hx => by
    obtain ⟨i, hi⟩ := List.mem_iff_getElem?.1 hx
    exact (HAll.out i x (by have := (List.getElem?_eq_some_iff.1 hi).1; have := HN3.out; omega) hi)
  clear hjn
  go_wp2_with fail
  refine (r47insert_any f (q + 1) q (by omega) s.gs true d s.pA s.pn s.pc wr (HPs.out wr (HB3.out.trans (HBw.out.mono HB3.out.size))).pages (HPs.out wr (HB3.out.trans (HBw.out.mono HB3.out.size))).each HSm.out HG.out.1 (by have := HLim.out; have := HQ.out; omega)).mono ?_
  rintro e w5 ⟨hb5, A5, n5, c5, gs5, one, two, uf, sec, rfl, hres⟩
  have hb5' := hb5
  have HB5 := hidp (HBw.out.trans (hb5.mono HBw.out.size))
  have HSt5 := hidp (HSw.out.later hb5)
  have HRes := hidp hres
  clear p0 p1 p2 f0 f1 f2 f3 f4 f5 f6 f7 f8 x0 x1 x2 x3 x4 hres hb5
  obtain ⟨⟨p0, p1, p2⟩, ⟨f0, f1, f2, f3, f4, f5, f6, f7, f8⟩, x0, x1, x2, x3, x4⟩ := HSt5.out.cells
  have HBs : Hid (b + 2 < wr.heap.size ∧ wr.heap.size ≤ w5.heap.size ∧ w.heap.size = b) := ⟨lt_of_heap HSw.out.x, hb5'.size, hb⟩
  go_upto_if 79 with fail
  go_cut [12, 13] (fun s12 s13 wx => ∃ (A6 : Option Addr) (n6 c6 : Nat) (gs6 : List Pq) (root6 : Nat), s12 = .slice A6 n6 c6 ∧ s13 = .int .i64 (root6 : Nat) ∧ wx.ownsRow (b + 3) 66 2 (.slice A6 n6 c6) n6 (gs6.flatMap pgEnc) ∧ (∀ g ∈ gs6, PgIn g wx wx.heap.size) ∧ (∀ g ∈ gs6, ∀ x, PgBl g x → x ≠ b + 2) ∧ PrB s f b w wx ∧ Below w3.heap.size w3 wx ∧ putW (psV s) q f = (gs6.map pgV, root6) ∧ n6 ≤ 1000003)
  case first =>
    cases two
    case false =>
      go_wp2_with fail
      go_meet
      have hb := (Below.refl _ w5).alloc (Nat.le_refl _) (.cells #[.int .i64 uf.key.kind, .int .i64 uf.key.subj, .int .i64 uf.key.obj, .int .i64 uf.val, .int .i64 uf.fr, .int .i64 uf.to, .int .i64 uf.known, .int .i64 uf.no] 31)
      have hr := HRes.out.later hb
      have hbs := HBs.out
      refine ⟨A5, n5, c5, gs5, one, rfl, rfl, own_monoB hr.own (by omega), hr.each, fun g hg x hx => ?_, HSt5.out.later hb, HB5.out.trans (hb.mono HB5.out.size), ?_, by have := hr.len; have := HLim.out; have := HQ.out; omega⟩
      · rcases hr.far g hg with h | h
        · have := HOld.out g h x hx; omega
        · have := h x hx; omega
      · have h1 : insW f (q + 1) (psV s) q = (gs5.map pgV, one, none) := Prod.ext hr.all.symm (Prod.ext hr.one.symm (hr.no rfl))
        unfold putW
        rw [h1]
    obtain ⟨A6, c6, w6, hrun6, ho6, he6, hb6⟩ := root_run w5 (one := one) (sec := sec) (uf := uf) HRes.out.own HRes.out.each HRes.out.apart HBs.out.2.1 (by have := HRes.out.len; have := HLim.out; have := HQ.out; omega)
    unfold rootW at hrun6
    obtain ⟨n6, hn6⟩ : ∃ n, n5 + 1 = n := ⟨_, rfl⟩
    rw [hn6] at hrun6 ho6
    have HR6 := hidp hrun6
    have HO6 := hidp ho6
    have HE6 := hidp he6
    have HB6 := hidp hb6
    have HN6 := hidp hn6
    have hw6 : IntKind.i64.wrap ((n6 : Int) - 1) = (n5 : Int) := by
      rw [show (n6 : Int) - 1 = (n5 : Int) by omega]
      exact IntWalk.i64_in _ (by have := HRes.out.len; have := HLim.out; have := HQ.out; omega)
    clear hrun6 ho6 he6 hb6 hn6
    go_wp2_with (at_builtin; refine wpList_append_known rfl (.tmp 80) (.tmp 87) 22 rfl rfl rfl HR6.out ?_)
    go_meet
    have hbs := HBs.out
    refine ⟨A6, n6, c6, _, n5, rfl, rfl, own_monoB HO6.out (by omega), HE6.out, fun g hg x hx => ?_, HSt5.out.laterB HB6.out hbs.1, HB5.out.trans (HB6.out.mono HBw.out.size), ?_, by have := HRes.out.len; have := HLim.out; have := HQ.out; have := HN6.out; omega⟩
    · rcases List.mem_append.1 hg with h | h
      · rcases HRes.out.far g h with h | h
        · have := HOld.out g h x hx; omega
        · have := h x hx; omega
      · obtain rfl := List.mem_singleton.1 h
        rcases hx with ⟨_, off, e1⟩ | ⟨_, off, e1⟩
        · cases e1; omega
        · cases e1; omega
    · have h1 : insW f (q + 1) (psV s) q = (gs5.map pgV, one, some (uf, sec)) := Prod.ext HRes.out.all.symm (Prod.ext HRes.out.one.symm (HRes.out.yes rfl))
      have h2 := HRes.out.rows.1
      unfold putW
      rw [h1]
      simp [pgV, rootG, h2]
  case rest =>
  obtain ⟨A6, n6, c6, gs6, root6, rfl, rfl, ho, he, hne, hst, hbx, hput, hn6⟩ := hcut
  rename World => wx
  have HO := hidp ho
  have HE := hidp he
  have HNe := hidp hne
  have HStx := hidp hst
  have HBx := hidp (HB3.out.trans (hbx.mono HB3.out.size))
  have HPut := hidp hput
  clear p0 p1 p2 f0 f1 f2 f3 f4 f5 f6 f7 f8 x0 x1 x2 x3 x4 ho he hne hst hbx hput
  obtain ⟨⟨p0, p1, p2⟩, ⟨f0, f1, f2, f3, f4, f5, f6, f7, f8⟩, x0, x1, x2, x3, x4⟩ := HStx.out.cells
  obtain ⟨W1, hW1⟩ : ∃ W, wx.alloc (.cells #[] 3) = W := ⟨_, rfl⟩
  have hz1 : W1.heap.size = wx.heap.size + 1 := by rw [← hW1]; simp
  have c1 : Below wx.heap.size wx W1 := hW1 ▸ (Below.refl _ wx).alloc (Nat.le_refl _) _
  obtain ⟨v2, w2, hrun2, ho2, hb2⟩ := run_append_fresh (P := Try.prog) (ty := 23) (w := W1) (enc := iEnc) (base := wx.heap.size) Try.underlying23 hii hiz his hib rfl iEnc_len (by decide) iEnc_one (hW1 ▸ own_emptyP wx wx.heap.size 1 3 (Nat.le_refl _)) (HPs.out W1 (HBx.out.trans (c1.mono HBx.out.size))).roots (by have := HRl.out; omega) (by have := HRl.out; omega) (by omega)
  obtain ⟨W3, hW3⟩ : ∃ W, w2.alloc (.cells #[.int .i64 (root6 : Nat)] 3) = W := ⟨_, rfl⟩
  have hz3 : W3.heap.size = w2.heap.size + 1 := by rw [← hW3]; simp
  have c3 : Below w2.heap.size w2 W3 := hW3 ▸ (Below.refl _ w2).alloc (Nat.le_refl _) _
  have hnew3 : W3.heap[w2.heap.size]? = some (.cells #[.int .i64 (root6 : Nat)] 3 (0, 0)) := by rw [← hW3]; exact World.alloc_heap_new _ _
  have hz2 := hb2.size
  have ho3 := own_keepB ho2 fun x e => c3.block x (ho2.lt x e).2
  obtain ⟨v4, w4, hrun4, ho4, hg4, -⟩ := run_append_rows (P := Try.prog) (ty := 23) (enc := iEnc) (s := [(root6 : Int)]) Try.underlying23 hii hiz his hib rfl iEnc_len (by decide) iEnc_one ho3 (rows_of_heap (l := [(root6 : Int)]) (c := 1) iEnc_len hnew3 (by simp) (by omega) (by simp [iEnc])) (by have := HRl.out; simp only [List.length_cons, List.length_nil]; omega) (by have := HRl.out; simp only [List.length_cons, List.length_nil]; omega) (by omega : wx.heap.size ≤ W3.heap.size)
  have hb3 : Below wx.heap.size wx W3 := (c1.trans (hb2.mono (by omega))).trans (c3.mono (by omega))
  have hb4 : Below wx.heap.size wx w4 := hb3.trans ((Below.refl wx.heap.size W3).grown hg4 (by omega) fun r e => (ho3.lt r e).1)
  obtain ⟨A2, c2, rfl, -⟩ := own_rows iEnc_len (by decide) ho2
  obtain ⟨n9, hn9⟩ : ∃ n, s.rn + 1 = n := ⟨_, rfl⟩
  have ho4' : w4.ownsRow wx.heap.size 3 1 v4 n9 ((s.roots ++ [(root6 : Int)]).flatMap iEnc) := hn9 ▸ ho4
  obtain ⟨A4, c4, rfl, hr4⟩ := own_rows iEnc_len (by decide) ho4'
  have HR2 := hidp hrun2
  have HR4 := hidp hrun4
  have HO4 := hidp ho4'
  have HB4 := hidp hb4
  have HSt4 := hidp (HStx.out.later hb4)
  have HW1 := hidp hW1
  have HW3 := hidp hW3
  obtain ⟨⟨k0, k1, k2⟩, -, e0, e1, e2, e3, e4⟩ := HSt4.out.cells
  clear hrun2 ho2 hb2 hrun4 ho4 ho4' ho3 hg4 hb3 hb4 c1 c3 hnew3 hz1 hz2 hz3 hW1 hW3 hn9 hr4
  have t0 := hidp (HSt4.out.last (.slice A6 n6 c6) (.slice A4 n9 c4))
  go_wp2_with (at_builtin; first
    | (rw [HW1.out]; refine wpList_append_known rfl (.tmp 93) (.tmp 95) 23 rfl rfl rfl HR2.out ?_)
    | (refine wpList_append_known rfl (.tmp 93) (.tmp 95) 23 rfl rfl rfl HR2.out ?_)
    | (rw [HW3.out]; refine wpList_append_known rfl (.tmp 96) (.tmp 98) 23 rfl rfl rfl HR4.out ?_)
    | (refine wpList_append_known rfl (.tmp 96) (.tmp 98) 23 rfl rfl rfl HR4.out ?_))
  obtain ⟨hO, y1, y2, y3⟩ := t0.out
  refine bodyPost_ret (v := .tuple #[.agg #[.slice A6 n6 c6, .slice A4 n9 c4], .int .i64 0]) (by simp [results, Try.results13, go_sem, y2, y3]; try rfl) rfl ?_
  have hz : putErr s f = 0 := by
    have h1 : compB f m = true := compB_iff.2 HCo.out
    unfold putErr
    rw [HCk.out, HZf.out, HLr.out, HM.out, h1]
    rfl
  have hb4 := HB4.out
  obtain ⟨A7, c7, e7, hr7⟩ := own_rows pgEnc_len (by decide) (own_keepB HO.out fun x e => hb4.block x (HO.out.lt x e).2)
  obtain ⟨A8, c8, e8, hr8⟩ := own_rows iEnc_len (by decide) HO4.out
  cases e7
  cases e8
  have hxx := lt_of_heap HStx.out.x
  refine ⟨⟨A6, n6, c6, gs6, A4, n9, c4, s.roots ++ [(root6 : Int)]⟩, by rw [hz], ⟨rows_only hr7 hO fun x off _ e => ?_, fun g hg => ((HE.out g hg).keep hb4.size hb4.block).onlyR hO (HNe.out g hg), rows_only hr8 hO fun x off _ e => ?_⟩, y1, fun _ => ⟨?_, ?_⟩, fun h => absurd hz h⟩
  · have := own_ne HO.out e; omega
  · have := own_ne HO4.out e; omega
  · rw [HLr.out, HPut.out]; rfl
  · rw [HLr.out, HPut.out]
end Go.Proofs.Ytpnfpdkoeednhaa

